/- Walks of the layer books, sixth part: an offer is placed, or the book is full; another book with the same. -/
import Derived.Test.YtelcdiceongfdaaBook4
namespace Go.Proofs.Ytelcdiceongfdaa
open Go.RowKit Go.BigFrame
set_option maxRecDepth 100000

set_option maxHeartbeats 2000000 in
theorem booksPlace_full {w : World} {b : Nat} {B : Book} {sl : Value} (h : BookAt w b B sl) (hn : 1 ≤ B.next) (o : Offer) (ho : Offer.typed { o with seq := B.next }) (hm : Offer.may { o with seq := B.next } = true) (h32 : 32 ≤ B.l.length) :
    Calls Try.prog 29 #[.pointer (some ⟨b, 0, none⟩), .int .u8 o.owner, .int .u8 o.sell, .int .u8 o.buy, .int .i64 o.left, .agg #[.int .i64 o.num, .int .i64 o.den]] w (PlacePost w b sl (B.place o)) := by
  have e : B.place o = (0, 9, B) := by unfold Book.place; rw [hm, if_pos rfl, if_pos (Or.inl h32)]
  rw [e]; clear e
  have hb := h.lt
  have hc1 := h.c1
  have hc0 := h.c0
  have lt0_b : b < w.heap.size + 1 := (by omega); have lt1_b : b ≤ w.heap.size := (by omega); have lt2_b : b < w.heap.size + 2 := (by omega); have lt3_b : b < w.heap.size + 3 := (by omega); have lt4_b : b < w.heap.size + 4 := (by omega); have lt5_b : b < w.heap.size + 5 := (by omega)
  have hmay : Hid (∀ W, Calls Try.prog 47 #[.agg #[.int .u64 B.next, .int .u8 o.owner, .int .u8 o.sell, .int .u8 o.buy, .int .i64 o.left, .int .i64 o.num, .int .i64 o.den]] W fun e w' => e = .returned (.bool true) ∧ Below W.heap.size W w') := fun W => by
    rw [← hm]; exact booksMay _ ho W
  clear hm
  obtain ⟨seq, p, s, y, left, a, d⟩ := o
  dsimp only at *
  have hd1 : decide (32 ≤ (B.l.length : Int)) = true := by simp; omega
  rcases h.cases with ⟨rfl, hl⟩ | ⟨g, cap, rfl, hg, hgb, hcap⟩
  · rw [hl] at h32; simp at h32
  · go_enter Try.func29, Try.ntmps29
    go_wp2_with (first | (go_at_call 31; refine (booksThere_yes (n := B.next) (h.below (by repeat (first | with_reducible exact Below.refl _ _ | with_reducible assumption | refine Below.drew ?_ | refine Below.setCell ?_ (by first | exact Nat.le_refl _ | omega | (simp; done) | (simp; omega)) _ | refine Below.alloc ?_ (by first | exact Nat.le_refl _ | omega | (simp; done) | (simp; omega)) _ | refine Below.tr ?_ (Nat.le_refl _) (by assumption) | exact Below.refl _ _ | assumption))).c1 hn).mono ?_; rintro e w' ⟨rfl, rfl⟩))
    go_region
    go_wp2_with (first | (go_at_call 47; refine (hmay.out _).mono ?_; rintro e w1 ⟨rfl, hb1⟩; have hB : Below w.heap.size w w1 := (by repeat (first | with_reducible exact Below.refl _ _ | with_reducible assumption | refine Below.drew ?_ | refine Below.setCell ?_ (by first | exact Nat.le_refl _ | omega | (simp; done) | (simp; omega)) _ | refine Below.alloc ?_ (by first | exact Nat.le_refl _ | omega | (simp; done) | (simp; omega)) _ | refine Below.tr ?_ (Nat.le_refl _) (by assumption) | exact Below.refl _ _ | assumption)); have h1 := h.below hB; have c1 := h1.c1; have c0 := h1.c0; have hb' := h1.lt; have hz := hB.size))
    go_ret2
    exact ⟨rfl, [], _, Chg.of_below hB, by simp, h1, fun _ hk => .inl hk⟩

/-- an offer is placed in a book whose number has not run out -/
theorem booksPlace {w : World} {b : Nat} {B : Book} {sl : Value} (h : BookAt w b B sl) (hn : 1 ≤ B.next) (o : Offer) (ho : Offer.typed { o with seq := B.next }) (hx : B.next < 18446744073709551615) :
    Calls Try.prog 29 #[.pointer (some ⟨b, 0, none⟩), .int .u8 o.owner, .int .u8 o.sell, .int .u8 o.buy, .int .i64 o.left, .agg #[.int .i64 o.num, .int .i64 o.den]] w (PlacePost w b sl (B.place o)) := by
  by_cases hm : Offer.may { o with seq := B.next } = true
  · by_cases h32 : 32 ≤ B.l.length
    · exact booksPlace_full h hn o ho hm h32
    · exact booksPlace_ok h hn o ho hm (by omega) hx
  · exact booksPlace_bad h hn o ho (by simpa using hm)

end Go.Proofs.Ytelcdiceongfdaa
