/-
  Walks of the layer books, fourth part: an offer is placed.
  Walks of the layer books, sixth part: an offer is placed, or the book is full; another book with the same.
  Walks of the layer books, seventh part: another book with the same.
  The walk of slices.Delete at offers: one is taken out.
  Walks of the layer books, fifth part: less is left of an offer.
-/
import Derived.Test.YtelcdiceongfdaaMoP7
import Derived.Deep.RegionLaw
import Derived.Deep.AppendLies
import Derived.OwnWalk
import Derived.Deep.RegionWith
section
namespace Go.Proofs.Ytelcdiceongfdaa
open Go.RowKit Go.BigFrame
set_option maxRecDepth 100000

def Book.place (B : Book) (o : Offer) : Nat × Nat × Book :=
  if Offer.may { o with seq := B.next } then
    if 32 ≤ B.l.length ∨ B.next = 18446744073709551615 then (0, 9, B) else (B.next, 0, ⟨B.l ++ [{ o with seq := B.next }], B.next + 1⟩)
  else (0, 1, B)
def PlacePost (w : World) (b : Nat) (sl : Value) (r : Nat × Nat × Book) (e : Ending) (w' : World) : Prop :=
  e = .returned (.tuple #[.int .u64 r.1, .int .i64 r.2.1]) ∧ ∃ S sl', Chg S w w' ∧ (∀ k ∈ S, k = b ∨ sl.ownBlock = some k) ∧ BookAt w' b r.2.2 sl' ∧ ∀ k, sl'.ownBlock = some k → sl.ownBlock = some k ∨ w.heap.size ≤ k

set_option maxHeartbeats 2000000 in
theorem booksPlace_bad {w : World} {b : Nat} {B : Book} {sl : Value} (h : BookAt w b B sl) (hn : 1 ≤ B.next) (o : Offer) (ho : Offer.typed { o with seq := B.next }) (hm : Offer.may { o with seq := B.next } = false) :
    Calls Try.prog 29 #[.pointer (some ⟨b, 0, none⟩), .int .u8 o.owner, .int .u8 o.sell, .int .u8 o.buy, .int .i64 o.left, .agg #[.int .i64 o.num, .int .i64 o.den]] w (PlacePost w b sl (B.place o)) := by
  have e : B.place o = (0, 1, B) := by unfold Book.place; rw [hm]; rfl
  rw [e]; clear e
  have hb := h.lt
  have hc1 := h.c1
  have hc0 := h.c0
  have lt0_b : b < w.heap.size + 1 := (by omega); have lt1_b : b ≤ w.heap.size := (by omega); have lt2_b : b < w.heap.size + 2 := (by omega); have lt3_b : b < w.heap.size + 3 := (by omega); have lt4_b : b < w.heap.size + 4 := (by omega); have lt5_b : b < w.heap.size + 5 := (by omega)
  have hmay : Hid (∀ W, Calls Try.prog 47 #[.agg #[.int .u64 B.next, .int .u8 o.owner, .int .u8 o.sell, .int .u8 o.buy, .int .i64 o.left, .int .i64 o.num, .int .i64 o.den]] W fun e w' => e = .returned (.bool false) ∧ Below W.heap.size W w') := fun W => by
    rw [← hm]; exact booksMay _ ho W
  clear hm
  obtain ⟨seq, p, s, y, left, a, d⟩ := o
  dsimp only at *
  go_enter Try.func29, Try.ntmps29
  go_wp2_with (first | (go_at_call 31; refine (booksThere_yes (n := B.next) (h.below (by repeat (first | with_reducible exact Below.refl _ _ | with_reducible assumption | refine Below.drew ?_ | refine Below.setCell ?_ (by first | exact Nat.le_refl _ | omega | (simp; done) | (simp; omega)) _ | refine Below.alloc ?_ (by first | exact Nat.le_refl _ | omega | (simp; done) | (simp; omega)) _ | refine Below.tr ?_ (Nat.le_refl _) (by assumption) | exact Below.refl _ _ | assumption))).c1 hn).mono ?_; rintro e w' ⟨rfl, rfl⟩) | (go_at_call 47; refine (hmay.out _).mono ?_; rintro e w1 ⟨rfl, hb1⟩))
  go_region
  go_wp2_with (first | (go_at_call 47; refine (hmay.out _).mono ?_; rintro e w1 ⟨rfl, hb1⟩))
  go_ret2
  have hB : Below w.heap.size w w1 := (by repeat (first | with_reducible exact Below.refl _ _ | with_reducible assumption | refine Below.drew ?_ | refine Below.setCell ?_ (by first | exact Nat.le_refl _ | omega | (simp; done) | (simp; omega)) _ | refine Below.alloc ?_ (by first | exact Nat.le_refl _ | omega | (simp; done) | (simp; omega)) _ | refine Below.tr ?_ (Nat.le_refl _) (by assumption) | exact Below.refl _ _ | assumption))
  exact ⟨rfl, [], sl, Chg.of_below hB, by simp, h.below hB, fun _ hk => .inl hk⟩

theorem BookAt.fz {w : World} {b : Nat} {B : Book} {sl : Value} (h : BookAt w b B sl) (o : Nat) : w.frozen? ⟨b, o, none⟩ = false := by simp [World.frozen?, h.blk]
theorem Chg.of_grown {S : List Nat} {w w' : World} {row : Option Nat} (hg : w.grownBy w' row) (h : ∀ k, row = some k → k ∈ S) : Chg S w w' :=
  ⟨hg.os, hg.tape, hg.output, hg.size, fun k hk hn => hg.block k hk (fun e => hn (h k e.symm))⟩
theorem infoOffer : ((Try.prog).info? 57).map (fun i => (i.zero, i.size, i.bytes)) = some (some (.agg #[.int .u64 0, .int .u8 0, .int .u8 0, .int .u8 0, .int .i64 0, .int .i64 0, .int .i64 0]), 7, 40) := by kernel_rfl

theorem place_end {w w2 : World} {b g2 cap2 : Nat} {S : List Nat} {sl : Value} {B : Book} {p s y : Nat} {left a d : Int} (hC : Chg S w w2) (hbS : b ∈ S) (hS : ∀ k ∈ S, k = b ∨ sl.ownBlock = some k) (hwh : sl.ownBlock = some g2 ∨ w.heap.size ≤ g2)
    (hbk : w2.heap[b]? = some (.cells #[sl, .int .u64 B.next] 38 (0, 0)))
    (hown : w2.ownsRow 0 57 7 (.slice (some ⟨g2, 0, none⟩) (B.l.length + 1) cap2) (B.l.length + 1) (B.l.flatMap Offer.enc ++ [.int .u64 B.next, .int .u8 p, .int .u8 s, .int .u8 y, .int .i64 left, .int .i64 a, .int .i64 d])) :
    PlacePost w b sl (B.next, 0, ⟨B.l ++ [⟨B.next, p, s, y, left, a, d⟩], B.next + 1⟩) (.returned (.tuple #[.int .u64 B.next, .int .i64 0])) ((w2.setCell ⟨b, 0, none⟩ (.slice (some ⟨g2, 0, none⟩) (B.l.length + 1) cap2)).setCell ⟨b, 1, none⟩ (.int .u64 ((B.next : Int) + 1))) := by
  have hgb : g2 ≠ b := by
    rintro rfl
    rcases hown.2 with ⟨e, _⟩ | ⟨g, cap, cur, e, _, hg, _⟩
    · cases e
    · cases e
      rw [hbk] at hg
      simp at hg
  have hC2 := (hC.trans (Chg.setCell w2 b 0 (.slice (some ⟨g2, 0, none⟩) (B.l.length + 1) cap2) hbS) (fun x hx _ => hx)).trans (Chg.setCell (w2.setCell ⟨b, 0, none⟩ (.slice (some ⟨g2, 0, none⟩) (B.l.length + 1) cap2)) b 1 (.int .u64 ((B.next : Int) + 1)) hbS) (fun x hx _ => hx)
  refine ⟨rfl, S, .slice (some ⟨g2, 0, none⟩) (B.l.length + 1) cap2, hC2, hS, ⟨?_, ?_⟩, fun k hk => by simp only [Value.ownBlock, Option.some.injEq] at hk; subst hk; exact hwh⟩
  · exact heap_setCell_same (heap_setCell_same hbk _) _
  · have hC3 := ((Chg.refl [b] w2).trans (Chg.setCell (S := [b]) w2 b 0 (.slice (some ⟨g2, 0, none⟩) (B.l.length + 1) cap2) (by simp)) (fun x hx _ => hx)).trans (Chg.setCell (S := [b]) (w2.setCell ⟨b, 0, none⟩ (.slice (some ⟨g2, 0, none⟩) (B.l.length + 1) cap2)) b 1 (.int .u64 ((B.next : Int) + 1)) (by simp)) (fun x hx _ => hx)
    have := ownsRow_chg hown hC3 (by simp [Value.ownBlock]; omega)
    simpa [List.flatMap_append, Offer.enc] using this

set_option maxHeartbeats 2000000 in
theorem booksPlace_ok {w : World} {b : Nat} {B : Book} {sl : Value} (h : BookAt w b B sl) (hn : 1 ≤ B.next) (o : Offer) (ho : Offer.typed { o with seq := B.next }) (hm : Offer.may { o with seq := B.next } = true) (h32 : B.l.length < 32) (hx : B.next < 18446744073709551615) :
    Calls Try.prog 29 #[.pointer (some ⟨b, 0, none⟩), .int .u8 o.owner, .int .u8 o.sell, .int .u8 o.buy, .int .i64 o.left, .agg #[.int .i64 o.num, .int .i64 o.den]] w (PlacePost w b sl (B.place o)) := by
  have e : B.place o = (B.next, 0, ⟨B.l ++ [{ o with seq := B.next }], B.next + 1⟩) := by unfold Book.place; rw [hm, if_pos rfl, if_neg (by omega)]
  rw [e]; clear e
  obtain ⟨i0, hi, iz0, iz1, iz2⟩ := info_parts infoOffer
  have hb := h.lt
  have hc1 := h.c1
  have hc0 := h.c0
  have lt0_b : b < w.heap.size + 1 := (by omega); have lt1_b : b ≤ w.heap.size := (by omega); have lt2_b : b < w.heap.size + 2 := (by omega); have lt3_b : b < w.heap.size + 3 := (by omega); have lt4_b : b < w.heap.size + 4 := (by omega); have lt5_b : b < w.heap.size + 5 := (by omega)
  have hmay : Hid (∀ W, Calls Try.prog 47 #[.agg #[.int .u64 B.next, .int .u8 o.owner, .int .u8 o.sell, .int .u8 o.buy, .int .i64 o.left, .int .i64 o.num, .int .i64 o.den]] W fun e w' => e = .returned (.bool true) ∧ Below W.heap.size W w') := fun W => by
    rw [← hm]; exact booksMay _ ho W
  clear hm
  obtain ⟨seq, p, s, y, left, a, d⟩ := o
  dsimp only at *
  have hd1 : decide (32 ≤ (B.l.length : Int)) = false := by simp; omega
  have hd2 : ((B.next : Int) == 18446744073709551615) = false := by simp; omega
  rcases h.cases with ⟨rfl, hl⟩ | ⟨g, cap, rfl, hg, hgb, hcap⟩
  · clear hl
    go_enter Try.func29, Try.ntmps29
    go_wp2_with (first | (go_at_call 31; refine (booksThere_yes (n := B.next) (h.below (by repeat (first | with_reducible exact Below.refl _ _ | with_reducible assumption | refine Below.drew ?_ | refine Below.setCell ?_ (by first | exact Nat.le_refl _ | omega | (simp; done) | (simp; omega)) _ | refine Below.alloc ?_ (by first | exact Nat.le_refl _ | omega | (simp; done) | (simp; omega)) _ | refine Below.tr ?_ (Nat.le_refl _) (by assumption) | exact Below.refl _ _ | assumption))).c1 hn).mono ?_; rintro e w' ⟨rfl, rfl⟩))
    go_region
    go_wp2_with (first | (go_at_call 47; refine (hmay.out _).mono ?_; rintro e w1 ⟨rfl, hb1⟩; have hB : Below w.heap.size w w1 := (by repeat (first | with_reducible exact Below.refl _ _ | with_reducible assumption | refine Below.drew ?_ | refine Below.setCell ?_ (by first | exact Nat.le_refl _ | omega | (simp; done) | (simp; omega)) _ | refine Below.alloc ?_ (by first | exact Nat.le_refl _ | omega | (simp; done) | (simp; omega)) _ | refine Below.tr ?_ (Nat.le_refl _) (by assumption) | exact Below.refl _ _ | assumption)); have h1 := h.below hB; have c1 := h1.c1; have c0 := h1.c0; have hb' := h1.lt; have hz := hB.size; have hz1 : w.heap.size + 1 < w1.heap.size := (by have := hb1.size; simp at this; omega); obtain ⟨hcc, hff⟩ := bcell hb1; have y0 := (hcc (w.heap.size + 1) 0 (by simp)); have y1 := (hcc (w.heap.size + 1) 1 (by simp)); have y2 := (hcc (w.heap.size + 1) 2 (by simp)); have y3 := (hcc (w.heap.size + 1) 3 (by simp)); have y4 := (hcc (w.heap.size + 1) 4 (by simp)); have y5 := (hcc (w.heap.size + 1) 5 (by simp)); have y6 := (hcc (w.heap.size + 1) 6 (by simp)); clear hcc hff))
    have hz2 : w.heap.size + 1 < w1.heap.size + 1 := by omega
    go_region_law (refine step_append_lies _ rfl (.tmp 50) (.tmp 52) 36 rfl 0 57 i0 _ 7 40 Try.underlying36 hi iz0 iz1 iz2 rfl (by decide) (.slice none 0 0) B.l.length (B.l.flatMap Offer.enc) rfl (h1.below (by repeat (first | with_reducible exact Below.refl _ _ | with_reducible assumption | refine Below.drew ?_ | refine Below.setCell ?_ (by first | exact Nat.le_refl _ | omega | (simp; done) | (simp; omega)) _ | refine Below.alloc ?_ (by first | exact Nat.le_refl _ | omega | (simp; done) | (simp; omega)) _ | refine Below.tr ?_ (Nat.le_refl _) (by assumption) | exact Below.refl _ _ | assumption))).row ⟨w1.heap.size, 0, none⟩ 1 1 [.int .u64 B.next, .int .u8 p, .int .u8 s, .int .u8 y, .int .i64 left, .int .i64 a, .int .i64 d] rfl rfl (World.news_of_block (alloc_new _ _)) (by simp [Value.oneCell']) (by decide) (by simp [maxLen]; omega) (by omega) (Nat.zero_le _) _ rfl ?_; intro g2 cap2 w2 hown hgrow hwh hlt; have k0 := hgrow.cell (h1.below (by repeat (first | with_reducible exact Below.refl _ _ | with_reducible assumption | refine Below.drew ?_ | refine Below.setCell ?_ (by first | exact Nat.le_refl _ | omega | (simp; done) | (simp; omega)) _ | refine Below.alloc ?_ (by first | exact Nat.le_refl _ | omega | (simp; done) | (simp; omega)) _ | refine Below.tr ?_ (Nat.le_refl _) (by assumption) | exact Below.refl _ _ | assumption))).c0 (by simp [Value.ownBlock]); have k1 := hgrow.cell (h1.below (by repeat (first | with_reducible exact Below.refl _ _ | with_reducible assumption | refine Below.drew ?_ | refine Below.setCell ?_ (by first | exact Nat.le_refl _ | omega | (simp; done) | (simp; omega)) _ | refine Below.alloc ?_ (by first | exact Nat.le_refl _ | omega | (simp; done) | (simp; omega)) _ | refine Below.tr ?_ (Nat.le_refl _) (by assumption) | exact Below.refl _ _ | assumption))).c1 (by simp [Value.ownBlock]); have kf : ∀ o, w2.frozen? ⟨b, o, none⟩ = false := (fun o => (hgrow.frozen_far ⟨b, o, none⟩ (by simp; omega) (by simp [Value.ownBlock])).trans ((h1.below (by repeat (first | with_reducible exact Below.refl _ _ | with_reducible assumption | refine Below.drew ?_ | refine Below.setCell ?_ (by first | exact Nat.le_refl _ | omega | (simp; done) | (simp; omega)) _ | refine Below.alloc ?_ (by first | exact Nat.le_refl _ | omega | (simp; done) | (simp; omega)) _ | refine Below.tr ?_ (Nat.le_refl _) (by assumption) | exact Below.refl _ _ | assumption))).fz o)); have x0 : w2.cell? ⟨w.heap.size + 1, 0, none⟩ = some (.int .u64 B.next) := hgrow.cell (Lib.cell?_alloc_some _ (show w1.cell? ⟨w.heap.size + 1, 0, none⟩ = some (.int .u64 B.next) from y0.trans (by simp))) (by simp [Value.ownBlock]))
    all_goals
      go_wp2
      go_ret2
      have hC : Chg [b] w w2 := by
        refine Chg.trans (Chg.of_below (S := [b]) ?_) (Chg.of_grown hgrow (S := [b]) (by simp [Value.ownBlock])) (by simp)
        exact (by repeat (first | with_reducible exact Below.refl _ _ | with_reducible assumption | refine Below.drew ?_ | refine Below.setCell ?_ (by first | exact Nat.le_refl _ | omega | (simp; done) | (simp; omega)) _ | refine Below.alloc ?_ (by first | exact Nat.le_refl _ | omega | (simp; done) | (simp; omega)) _ | refine Below.tr ?_ (Nat.le_refl _) (by assumption) | exact Below.refl _ _ | assumption))
      have hbk2 : w2.heap[b]? = some (.cells #[.slice none 0 0, .int .u64 B.next] 38 (0, 0)) := by
        refine (hgrow.block b (by simp; omega) (by simp [Value.ownBlock])).trans ?_
        exact (h1.below (by repeat (first | with_reducible exact Below.refl _ _ | with_reducible assumption | refine Below.drew ?_ | refine Below.setCell ?_ (by first | exact Nat.le_refl _ | omega | (simp; done) | (simp; omega)) _ | refine Below.alloc ?_ (by first | exact Nat.le_refl _ | omega | (simp; done) | (simp; omega)) _ | refine Below.tr ?_ (Nat.le_refl _) (by assumption) | exact Below.refl _ _ | assumption))).blk
      exact place_end hC (by simp) (by simp [Value.ownBlock]) (by have := hB.size; exact hwh.imp id (fun h' => by simp at h'; omega)) hbk2 hown
  · go_enter Try.func29, Try.ntmps29
    go_wp2_with (first | (go_at_call 31; refine (booksThere_yes (n := B.next) (h.below (by repeat (first | with_reducible exact Below.refl _ _ | with_reducible assumption | refine Below.drew ?_ | refine Below.setCell ?_ (by first | exact Nat.le_refl _ | omega | (simp; done) | (simp; omega)) _ | refine Below.alloc ?_ (by first | exact Nat.le_refl _ | omega | (simp; done) | (simp; omega)) _ | refine Below.tr ?_ (Nat.le_refl _) (by assumption) | exact Below.refl _ _ | assumption))).c1 hn).mono ?_; rintro e w' ⟨rfl, rfl⟩))
    go_region
    go_wp2_with (first | (go_at_call 47; refine (hmay.out _).mono ?_; rintro e w1 ⟨rfl, hb1⟩; have hB : Below w.heap.size w w1 := (by repeat (first | with_reducible exact Below.refl _ _ | with_reducible assumption | refine Below.drew ?_ | refine Below.setCell ?_ (by first | exact Nat.le_refl _ | omega | (simp; done) | (simp; omega)) _ | refine Below.alloc ?_ (by first | exact Nat.le_refl _ | omega | (simp; done) | (simp; omega)) _ | refine Below.tr ?_ (Nat.le_refl _) (by assumption) | exact Below.refl _ _ | assumption)); have h1 := h.below hB; have c1 := h1.c1; have c0 := h1.c0; have hb' := h1.lt; have hz := hB.size; have hz1 : w.heap.size + 1 < w1.heap.size := (by have := hb1.size; simp at this; omega); obtain ⟨hcc, hff⟩ := bcell hb1; have y0 := (hcc (w.heap.size + 1) 0 (by simp)); have y1 := (hcc (w.heap.size + 1) 1 (by simp)); have y2 := (hcc (w.heap.size + 1) 2 (by simp)); have y3 := (hcc (w.heap.size + 1) 3 (by simp)); have y4 := (hcc (w.heap.size + 1) 4 (by simp)); have y5 := (hcc (w.heap.size + 1) 5 (by simp)); have y6 := (hcc (w.heap.size + 1) 6 (by simp)); clear hcc hff))
    have hz2 : w.heap.size + 1 < w1.heap.size + 1 := by omega
    go_region_law (refine step_append_lies _ rfl (.tmp 50) (.tmp 52) 36 rfl 0 57 i0 _ 7 40 Try.underlying36 hi iz0 iz1 iz2 rfl (by decide) (.slice (some ⟨g, 0, none⟩) B.l.length cap) B.l.length (B.l.flatMap Offer.enc) rfl (h1.below (by repeat (first | with_reducible exact Below.refl _ _ | with_reducible assumption | refine Below.drew ?_ | refine Below.setCell ?_ (by first | exact Nat.le_refl _ | omega | (simp; done) | (simp; omega)) _ | refine Below.alloc ?_ (by first | exact Nat.le_refl _ | omega | (simp; done) | (simp; omega)) _ | refine Below.tr ?_ (Nat.le_refl _) (by assumption) | exact Below.refl _ _ | assumption))).row ⟨w1.heap.size, 0, none⟩ 1 1 [.int .u64 B.next, .int .u8 p, .int .u8 s, .int .u8 y, .int .i64 left, .int .i64 a, .int .i64 d] rfl rfl (World.news_of_block (alloc_new _ _)) (by simp [Value.oneCell']) (by decide) (by simp [maxLen]; omega) (by omega) (Nat.zero_le _) _ rfl ?_; intro g2 cap2 w2 hown hgrow hwh hlt; have k0 := hgrow.cell (h1.below (by repeat (first | with_reducible exact Below.refl _ _ | with_reducible assumption | refine Below.drew ?_ | refine Below.setCell ?_ (by first | exact Nat.le_refl _ | omega | (simp; done) | (simp; omega)) _ | refine Below.alloc ?_ (by first | exact Nat.le_refl _ | omega | (simp; done) | (simp; omega)) _ | refine Below.tr ?_ (Nat.le_refl _) (by assumption) | exact Below.refl _ _ | assumption))).c0 (by simp [Value.ownBlock]; omega); have k1 := hgrow.cell (h1.below (by repeat (first | with_reducible exact Below.refl _ _ | with_reducible assumption | refine Below.drew ?_ | refine Below.setCell ?_ (by first | exact Nat.le_refl _ | omega | (simp; done) | (simp; omega)) _ | refine Below.alloc ?_ (by first | exact Nat.le_refl _ | omega | (simp; done) | (simp; omega)) _ | refine Below.tr ?_ (Nat.le_refl _) (by assumption) | exact Below.refl _ _ | assumption))).c1 (by simp [Value.ownBlock]; omega); have kf : ∀ o, w2.frozen? ⟨b, o, none⟩ = false := (fun o => (hgrow.frozen_far ⟨b, o, none⟩ (by simp; omega) (by simp [Value.ownBlock]; omega)).trans ((h1.below (by repeat (first | with_reducible exact Below.refl _ _ | with_reducible assumption | refine Below.drew ?_ | refine Below.setCell ?_ (by first | exact Nat.le_refl _ | omega | (simp; done) | (simp; omega)) _ | refine Below.alloc ?_ (by first | exact Nat.le_refl _ | omega | (simp; done) | (simp; omega)) _ | refine Below.tr ?_ (Nat.le_refl _) (by assumption) | exact Below.refl _ _ | assumption))).fz o)); have x0 : w2.cell? ⟨w.heap.size + 1, 0, none⟩ = some (.int .u64 B.next) := hgrow.cell (Lib.cell?_alloc_some _ (show w1.cell? ⟨w.heap.size + 1, 0, none⟩ = some (.int .u64 B.next) from y0.trans (by simp))) (by simp [Value.ownBlock]; omega))
    all_goals
      go_wp2
      go_ret2
      have hC : Chg [b, g] w w2 := by
        refine Chg.trans (Chg.of_below (S := [b, g]) ?_) (Chg.of_grown hgrow (S := [b, g]) (by simp [Value.ownBlock])) (by simp)
        exact (by repeat (first | with_reducible exact Below.refl _ _ | with_reducible assumption | refine Below.drew ?_ | refine Below.setCell ?_ (by first | exact Nat.le_refl _ | omega | (simp; done) | (simp; omega)) _ | refine Below.alloc ?_ (by first | exact Nat.le_refl _ | omega | (simp; done) | (simp; omega)) _ | refine Below.tr ?_ (Nat.le_refl _) (by assumption) | exact Below.refl _ _ | assumption))
      have hbk2 : w2.heap[b]? = some (.cells #[.slice (some ⟨g, 0, none⟩) B.l.length cap, .int .u64 B.next] 38 (0, 0)) := by
        refine (hgrow.block b (by simp; omega) (by simp [Value.ownBlock]; omega)).trans ?_
        exact (h1.below (by repeat (first | with_reducible exact Below.refl _ _ | with_reducible assumption | refine Below.drew ?_ | refine Below.setCell ?_ (by first | exact Nat.le_refl _ | omega | (simp; done) | (simp; omega)) _ | refine Below.alloc ?_ (by first | exact Nat.le_refl _ | omega | (simp; done) | (simp; omega)) _ | refine Below.tr ?_ (Nat.le_refl _) (by assumption) | exact Below.refl _ _ | assumption))).blk
      exact place_end hC (by simp) (by simp [Value.ownBlock]) (by have := hB.size; exact hwh.imp id (fun h' => by simp at h'; omega)) hbk2 hown

end Go.Proofs.Ytelcdiceongfdaa
end
section
namespace Go.Proofs.Ytelcdiceongfdaa
open Go.RowKit Go.BigFrame
set_option maxRecDepth 100000

set_option maxHeartbeats 2000000 in
theorem booksPlace_full {w : World} {b : Nat} {B : Book} {sl : Value} (h : BookAt w b B sl) (hn : 1 ≤ B.next) (o : Offer) (ho : Offer.typed { o with seq := B.next }) (hm : Offer.may { o with seq := B.next } = true) (h32 : 32 ≤ B.l.length) :
    Calls Try.prog 29 #[.pointer (some ⟨b, 0, none⟩), .int .u8 o.owner, .int .u8 o.sell, .int .u8 o.buy, .int .i64 o.left, .agg #[.int .i64 o.num, .int .i64 o.den]] w (PlacePost w b sl (B.place o)) := by
  have e : B.place o = (0, 9, B) := by unfold Book.place; rw [hm, if_pos rfl, if_pos (Or.inl h32)]
  rw [e]; clear e
  have hb := h.lt
  have hc1 := h.c1
  have hc0 := h.c0
  have lt0_b : b < w.heap.size + 1 := (by omega); have lt1_b : b ≤ w.heap.size := (by omega); have lt2_b : b < w.heap.size + 2 := (by omega); have lt3_b : b < w.heap.size + 3 := (by omega); have lt4_b : b < w.heap.size + 4 := (by omega); have lt5_b : b < w.heap.size + 5 := (by omega)
  have hmay : Hid (∀ W, Calls Try.prog 47 #[.agg #[.int .u64 B.next, .int .u8 o.owner, .int .u8 o.sell, .int .u8 o.buy, .int .i64 o.left, .int .i64 o.num, .int .i64 o.den]] W fun e w' => e = .returned (.bool true) ∧ Below W.heap.size W w') := fun W => by
    rw [← hm]; exact booksMay _ ho W
  clear hm
  obtain ⟨seq, p, s, y, left, a, d⟩ := o
  dsimp only at *
  have hd1 : decide (32 ≤ (B.l.length : Int)) = true := by simp; omega
  rcases h.cases with ⟨rfl, hl⟩ | ⟨g, cap, rfl, hg, hgb, hcap⟩
  · rw [hl] at h32; simp at h32
  · go_enter Try.func29, Try.ntmps29
    go_wp2_with (first | (go_at_call 31; refine (booksThere_yes (n := B.next) (h.below (by repeat (first | with_reducible exact Below.refl _ _ | with_reducible assumption | refine Below.drew ?_ | refine Below.setCell ?_ (by first | exact Nat.le_refl _ | omega | (simp; done) | (simp; omega)) _ | refine Below.alloc ?_ (by first | exact Nat.le_refl _ | omega | (simp; done) | (simp; omega)) _ | refine Below.tr ?_ (Nat.le_refl _) (by assumption) | exact Below.refl _ _ | assumption))).c1 hn).mono ?_; rintro e w' ⟨rfl, rfl⟩))
    go_region
    go_wp2_with (first | (go_at_call 47; refine (hmay.out _).mono ?_; rintro e w1 ⟨rfl, hb1⟩; have hB : Below w.heap.size w w1 := (by repeat (first | with_reducible exact Below.refl _ _ | with_reducible assumption | refine Below.drew ?_ | refine Below.setCell ?_ (by first | exact Nat.le_refl _ | omega | (simp; done) | (simp; omega)) _ | refine Below.alloc ?_ (by first | exact Nat.le_refl _ | omega | (simp; done) | (simp; omega)) _ | refine Below.tr ?_ (Nat.le_refl _) (by assumption) | exact Below.refl _ _ | assumption)); have h1 := h.below hB; have c1 := h1.c1; have c0 := h1.c0; have hb' := h1.lt; have hz := hB.size))
    go_ret2
    exact ⟨rfl, [], _, Chg.of_below hB, by simp, h1, fun _ hk => .inl hk⟩

/-- an offer is placed in a book whose number has not run out -/
theorem booksPlace {w : World} {b : Nat} {B : Book} {sl : Value} (h : BookAt w b B sl) (hn : 1 ≤ B.next) (o : Offer) (ho : Offer.typed { o with seq := B.next }) (hx : B.next < 18446744073709551615) :
    Calls Try.prog 29 #[.pointer (some ⟨b, 0, none⟩), .int .u8 o.owner, .int .u8 o.sell, .int .u8 o.buy, .int .i64 o.left, .agg #[.int .i64 o.num, .int .i64 o.den]] w (PlacePost w b sl (B.place o)) := by
  by_cases hm : Offer.may { o with seq := B.next } = true
  · by_cases h32 : 32 ≤ B.l.length
    · exact booksPlace_full h hn o ho hm h32
    · exact booksPlace_ok h hn o ho hm (by omega) hx
  · exact booksPlace_bad h hn o ho (by simpa using hm)

end Go.Proofs.Ytelcdiceongfdaa
end
section
namespace Go.Proofs.Ytelcdiceongfdaa
open Go.RowKit Go.BigFrame
set_option maxRecDepth 100000

def ClonePost (w : World) (l : List Offer) (e : Ending) (w' : World) : Prop :=
  ∃ ad c, e = .returned (.slice ad l.length c) ∧ Below w.heap.size w w' ∧ w'.ownsRow w.heap.size 57 7 (.slice ad l.length c) l.length (l.flatMap Offer.enc)
theorem infoOffer' : ((Try.prog).info? 57).map (fun i => (i.zero, i.size, i.bytes)) = some (some (.agg #[.int .u64 0, .int .u8 0, .int .u8 0, .int .u8 0, .int .i64 0, .int .i64 0, .int .i64 0]), 7, 40) := by kernel_rfl
theorem clone_nil (w : World) : Calls Try.prog 38 #[.slice none 0 0] w (ClonePost w []) := by
  have qT : ∀ (w : World) (a : Option Addr) (n c n' c' : Nat), (binOp .eql 36 (.slice a n c) (.slice none n' c')).run Try.prog w = .ok (.bool a.isNone) w := fun w a n c n' c' => Lib.run_eql_slice_nil w _ _ a n c n' c' Try.underlying36
  go_enter Try.func38, Try.ntmps38
  go_wp2
  go_ret
  exact ⟨none, 0, rfl, (by repeat (first | with_reducible exact Below.refl _ _ | with_reducible assumption | refine Below.drew ?_ | refine Below.setCell ?_ (by first | exact Nat.le_refl _ | omega | (simp; done) | (simp; omega)) _ | refine Below.alloc ?_ (by first | exact Nat.le_refl _ | omega | (simp; done) | (simp; omega)) _ | refine Below.tr ?_ (Nat.le_refl _) (by assumption) | exact Below.refl _ _ | assumption)), World.ownsRow_nil _ _ _ _⟩

set_option maxHeartbeats 1000000 in
theorem clone_row {w : World} {base : Nat} {g cap : Nat} {l : List Offer} (h : w.ownsRow base 57 7 (.slice (some ⟨g, 0, none⟩) l.length cap) l.length (l.flatMap Offer.enc)) (_hg : g < w.heap.size) (hm : l.length ≤ 1000000000000) :
    Calls Try.prog 38 #[.slice (some ⟨g, 0, none⟩) l.length cap] w (ClonePost w l) := by
  have qT : ∀ (w : World) (a : Option Addr) (n c n' c' : Nat), (binOp .eql 36 (.slice a n c) (.slice none n' c')).run Try.prog w = .ok (.bool a.isNone) w := fun w a n c n' c' => Lib.run_eql_slice_nil w _ _ a n c n' c' Try.underlying36
  obtain ⟨i0, hi, iz0, iz1, iz2⟩ := info_parts infoOffer'
  have hlen := flat_len l
  go_enter Try.func38, Try.ntmps38
  go_wp2_with (at_builtin; refine wpList_append_own _ rfl _ _ 36 rfl w.heap.size 57 i0 _ 7 40 Try.underlying36 hi iz0 iz1 iz2 rfl (by decide) _ 0 [] rfl (World.ownsRow_made w #[] 0 (Nat.le_refl _) (by decide) rfl) ⟨g, 0, none⟩ l.length cap (l.flatMap Offer.enc) rfl hlen ?_ ?_ (by simp [maxLen]; omega) (by omega) (by simp) ?_)
  · intro j u hu
    exact Lib.cell?_alloc_some _ (h.cells (g := g) rfl j u hu)
  · intro u hu
    obtain ⟨o, _, ho⟩ := List.mem_flatMap.1 hu
    simp only [Offer.enc, List.mem_cons, List.not_mem_nil, or_false] at ho
    rcases ho with rfl | rfl | rfl | rfl | rfl | rfl | rfl <;> rfl
  · intro v' w' hown hgrow _
    go_wp2
    go_ret
    have hC : Chg [] w w' := Chg.trans (Chg.of_below (S := []) ((by repeat (first | with_reducible exact Below.refl _ _ | with_reducible assumption | refine Below.drew ?_ | refine Below.setCell ?_ (by first | exact Nat.le_refl _ | omega | (simp; done) | (simp; omega)) _ | refine Below.alloc ?_ (by first | exact Nat.le_refl _ | omega | (simp; done) | (simp; omega)) _ | refine Below.tr ?_ (Nat.le_refl _) (by assumption) | exact Below.refl _ _ | assumption)) : Below w.heap.size w (w.alloc (.cells #[] 57)))) (Chg.of_grown hgrow (S := [w.heap.size]) (by simp [Value.ownBlock])) (fun x hx hlt => by simp at hx; omega)
    obtain ⟨ad, c, rfl⟩ : ∃ ad c, v' = .slice ad l.length c := by
      rcases hown.2 with ⟨e, h0⟩ | ⟨g, cap, cur, e, _⟩
      · exact ⟨none, 0, by rw [h0]; exact e⟩
      · exact ⟨_, _, e⟩
    exact ⟨ad, c, rfl, hC.below, hown⟩

def BCopyPost (w : World) (B : Book) (e : Ending) (w' : World) : Prop :=
  ∃ b' sl', e = .returned (.pointer (some ⟨b', 0, none⟩)) ∧ Below w.heap.size w w' ∧ BookAt w' b' B sl' ∧ w.heap.size ≤ b' ∧ ∀ k, sl'.ownBlock = some k → w.heap.size ≤ k
theorem ownsRow_mono {w : World} {base base' : Nat} {e : TypeId} {size : Nat} {v : Value} {n : Nat} {xs : List Value} (h : w.ownsRow base e size v n xs) (hb : base' ≤ base) : w.ownsRow base' e size v n xs := by
  refine ⟨h.1, ?_⟩
  rcases h.2 with h0 | ⟨g, cap, cur, e1, e2, e3⟩
  · exact .inl h0
  · exact .inr ⟨g, cap, cur, e1, Nat.le_trans hb e2, e3⟩

theorem booksCopy_no {w : World} {q : Option Addr} (h : NoBook w q) :
    Calls Try.prog 17 #[.pointer q] w fun e w' => e = .returned (.pointer none) ∧ w = w' := by
  go_enter Try.func17, Try.ntmps17
  go_wp2_with (go_at_call 31; refine (booksThere_no h).mono ?_; rintro e w' ⟨rfl, rfl⟩)
  go_ret
  exact ⟨rfl, rfl⟩

set_option maxHeartbeats 1000000 in
theorem booksCopy {w : World} {b : Nat} {B : Book} {sl : Value} (h : BookAt w b B sl) (hn : 1 ≤ B.next) (hm : B.l.length ≤ 1000000000000) :
    Calls Try.prog 17 #[.pointer (some ⟨b, 0, none⟩)] w (BCopyPost w B) := by
  have hb := h.lt
  have c0 := h.c0
  have c1 := h.c1
  have lt0_b : b < w.heap.size + 1 := (by omega); have lt1_b : b ≤ w.heap.size := (by omega); have lt2_b : b < w.heap.size + 2 := (by omega); have lt3_b : b < w.heap.size + 3 := (by omega); have lt4_b : b < w.heap.size + 4 := (by omega); have lt5_b : b < w.heap.size + 5 := (by omega)
  have hcl : Hid (∀ W, Below w.heap.size w W → Calls Try.prog 38 #[sl] W (ClonePost W B.l)) := fun W hW => by
    have h' := h.below hW
    rcases h'.cases with ⟨rfl, hl⟩ | ⟨g, cap, rfl, hg, hgb, hcap⟩
    · rw [hl]; exact clone_nil W
    · exact clone_row h'.row hg hm
  go_enter Try.func17, Try.ntmps17
  go_wp2_with (go_at_call 31; refine (booksThere_yes (n := B.next) h.c1 hn).mono ?_; rintro e w' ⟨rfl, rfl⟩)
  go_region_with ((go_at_call 38; refine (hcl.out _ (by repeat (first | with_reducible exact Below.refl _ _ | with_reducible assumption | refine Below.drew ?_ | refine Below.setCell ?_ (by first | exact Nat.le_refl _ | omega | (simp; done) | (simp; omega)) _ | refine Below.alloc ?_ (by first | exact Nat.le_refl _ | omega | (simp; done) | (simp; omega)) _ | refine Below.tr ?_ (Nat.le_refl _) (by assumption) | exact Below.refl _ _ | assumption))).mono ?_; rintro e w1 ⟨ad, c, rfl, hb1, hrow1⟩; have hB : Below w.heap.size w w1 := Below.trans ((Below.refl _ _).drew) hb1; have h1 := h.below hB; have d0 := h1.c0; have d1 := h1.c1; have hz := hB.size))
  all_goals
    go_wp2
    go_ret
    refine ⟨w1.heap.size, .slice ad B.l.length c, rfl, (by repeat (first | with_reducible exact Below.refl _ _ | with_reducible assumption | refine Below.drew ?_ | refine Below.setCell ?_ (by first | exact Nat.le_refl _ | omega | (simp; done) | (simp; omega)) _ | refine Below.alloc ?_ (by first | exact Nat.le_refl _ | omega | (simp; done) | (simp; omega)) _ | refine Below.tr ?_ (Nat.le_refl _) (by assumption) | exact Below.refl _ _ | assumption)), ⟨alloc_new w1 _, ?_⟩, hz, ?_⟩
    · have := ownsRow_chg (S := []) hrow1 (Chg.of_below ((by repeat (first | with_reducible exact Below.refl _ _ | with_reducible assumption | refine Below.drew ?_ | refine Below.setCell ?_ (by first | exact Nat.le_refl _ | omega | (simp; done) | (simp; omega)) _ | refine Below.alloc ?_ (by first | exact Nat.le_refl _ | omega | (simp; done) | (simp; omega)) _ | refine Below.tr ?_ (Nat.le_refl _) (by assumption) | exact Below.refl _ _ | assumption)) : Below w1.heap.size w1 (w1.alloc (.cells #[.slice ad B.l.length c, .int .u64 B.next] 38)))) (by simp)
      exact ownsRow_mono this (Nat.zero_le _)
    · exact fun k hk => (hrow1.lt k hk).1

end Go.Proofs.Ytelcdiceongfdaa
end
section
namespace Go.Proofs.Ytelcdiceongfdaa
open Go.RowKit Go.BigFrame
set_option maxRecDepth 100000

def DelPost (w : World) (g cap base : Nat) (l : List Offer) (e : Ending) (w' : World) : Prop :=
  e = .returned (.slice (some ⟨g, 0, none⟩) l.length cap) ∧ Chg [g] w w' ∧ w'.ownsRow base 57 7 (.slice (some ⟨g, 0, none⟩) l.length cap) l.length (l.flatMap Offer.enc)

theorem flat_take : ∀ (l : List Offer) (k : Nat), k ≤ l.length → (l.flatMap Offer.enc).take (k * 7) = (l.take k).flatMap Offer.enc
  | l, 0, _ => by simp
  | [], k + 1, h => by simp at h
  | o :: l, k + 1, h => by
    rw [List.flatMap_cons, List.take_append, enc_len, List.take_of_length_le (by rw [enc_len]; omega), show (k + 1) * 7 - 7 = k * 7 by omega, flat_take l k (by simpa using h)]
    rfl
theorem flat_drop : ∀ (l : List Offer) (k : Nat), k ≤ l.length → (l.flatMap Offer.enc).drop (k * 7) = (l.drop k).flatMap Offer.enc
  | l, 0, _ => by simp
  | [], k + 1, h => by simp at h
  | o :: l, k + 1, h => by
    rw [List.flatMap_cons, List.drop_append, enc_len, List.drop_of_length_le (by rw [enc_len]; omega), show (k + 1) * 7 - 7 = k * 7 by omega, flat_drop l k (by simpa using h)]
    rfl
theorem enc_one (o : Offer) : ∀ u ∈ o.enc, u.oneCell' = true := by
  intro u hu
  simp only [Offer.enc, List.mem_cons, List.not_mem_nil, or_false] at hu
  rcases hu with rfl | rfl | rfl | rfl | rfl | rfl | rfl <;> rfl
theorem flat_one (l : List Offer) : ∀ u ∈ l.flatMap Offer.enc, u.oneCell' = true := by
  intro u hu
  obtain ⟨o, _, ho⟩ := List.mem_flatMap.1 hu
  exact enc_one o u ho

theorem step_append_of {P : Program} {ops : Array Oper} {o : Oper} {a : Act} {w : World} {K : Act → World → Prop} {Q : Exit → Act → World → Prop} {E : Prop} (hgd : o.guard = none) (s x : Operand) (t : TypeId)
    (ho : o.op = .call { callee := .builtin .append, args := #[s, x], argTypes := #[t, t] }) (v1 v2 v' : Value) (w' : World) (hs : a.eval s = v1) (hx : a.eval x = v2)
    (hr : ∀ ty, (Builtin.append_ #[t, t] ty #[v1, v2]).run P w = .ok v' w') (hK : K (a.put o.dst v') w') :
    if Region.wanted o (yielded ops a.tmps) = true then Oper.wp P o a w K Q else E := by
  have hw : Region.wanted o (yielded ops a.tmps) = true := by simp [Region.wanted, hgd]
  rw [if_pos hw]
  unfold Oper.wp execOp
  simp only [ho, resolve, invoke, builtin, Sem.run_bind, Sem.run_pure, Result.andThen_ok, List.map_toArray, List.map_cons, List.map_nil, hs, hx, hr o.type]
  exact hK

theorem clear_one {w : World} {g off c : Nat} {cur : Array Value} (hg : w.heap[g]? = some (.cells cur 57 (0, 0))) (hfit : off + 7 ≤ cur.size) :
    ∀ ty, (Builtin.clear_ #[36] ty #[.slice (some ⟨g, off, none⟩) 1 c]).run Try.prog w = .ok (.tuple #[]) (w.setRow g (cur.toList.take off ++ Offer.enc ⟨0, 0, 0, 0, 0, 0, 0⟩ ++ cur.toList.drop (off + 7)).toArray) := fun ty => by
  have hst := run_storeCells_at Try.prog g off 57 (Offer.enc ⟨0, 0, 0, 0, 0, 0, 0⟩) 0 cur w hg (by rw [enc_len]; omega) (enc_one _)
  have hv := Try.zeroValue57
  have e : (Builtin.zeroCells (Value.cells (.agg #[.int .u64 0, .int .u8 0, .int .u8 0, .int .u8 0, .int .i64 0, .int .i64 0, .int .i64 0])) 1).toList = Offer.enc ⟨0, 0, 0, 0, 0, 0, 0⟩ := by kernel_rfl
  simp only [Nat.add_zero, enc_len] at hst
  simp [Builtin.clear_, run_underlying Try.underlying36, hv, e, hst]

set_option maxHeartbeats 1000000 in
theorem delete_at {w : World} {base g cap : Nat} {l : List Offer} (h : w.ownsRow base 57 7 (.slice (some ⟨g, 0, none⟩) l.length cap) l.length (l.flatMap Offer.enc)) (k : Nat) (hk : k < l.length) :
    Calls Try.prog 44 #[.slice (some ⟨g, 0, none⟩) l.length cap, .int .i64 k, .int .i64 (k + 1)] w (DelPost w g cap base (l.eraseIdx k)) := by
  obtain ⟨i0, hi, iz0, iz1, iz2⟩ := info_parts infoOffer'
  have hle : (l.eraseIdx k).length = l.length - 1 := List.length_eraseIdx_of_lt hk
  rcases h.2 with ⟨e, _⟩ | ⟨g', cap', cur, e, hbase, hg, hnc, hcm, hcs, htake⟩
  · cases e
  simp only [Value.slice.injEq, Option.some.injEq, Addr.mk.injEq, and_true, true_and] at e
  obtain ⟨rfl, rfl⟩ := e
  -- the cells that move
  obtain ⟨news, hnews⟩ : ∃ news, news = (l.drop (k + 1)).flatMap Offer.enc := ⟨_, rfl⟩
  have hlen : news.length = (l.length - (k + 1)) * 7 := by rw [hnews, flat_len, List.length_drop]
  obtain ⟨A, hA, hsrc⟩ : ∃ A : Addr, (if cap = k + 1 then (some (⟨g, 0, none⟩ : Addr)) else some ⟨g, (k + 1) * 7, none⟩) = some A ∧ Hid (∀ t u, news[t]? = some u → w.drew.cell? (A.add t) = some u) := by
    by_cases hc : cap = k + 1
    · refine ⟨⟨g, 0, none⟩, by simp [hc], fun t u hu => ?_⟩
      have h0 : news.length = 0 := by rw [hlen]; have : l.length - (k + 1) = 0 := by omega
                                      rw [this]
      rw [List.length_eq_zero_iff.1 h0] at hu
      simp at hu
    · refine ⟨⟨g, (k + 1) * 7, none⟩, by simp [hc], fun t u hu => ?_⟩
      rw [hnews, ← flat_drop l (k + 1) (by omega), List.getElem?_drop] at hu
      have := h.cells (g := g) rfl _ _ hu
      rw [Addr.add_lit] at this ⊢
      rw [Nat.zero_add] at this
      exact this
  obtain ⟨cur1, hcur1⟩ : ∃ cur1 : Array Value, cur1 = (cur.toList.take (k * 7) ++ news ++ cur.toList.drop (k * 7 + news.length)).toArray := ⟨_, rfl⟩
  have hap : ∀ ty, (Builtin.append_ #[36, 36] ty #[.slice (some ⟨g, 0, none⟩) k cap, .slice (some A) (l.length - (k + 1)) (cap - (k + 1))]).run Try.prog w.drew = .ok (.slice (some ⟨g, 0, none⟩) (l.length - 1) cap) (w.drew.setRow g cur1) := fun ty => by
    have := run_append_room (P := Try.prog) w.drew 36 ty 57 i0 Try.underlying36 hi g k cap cur hg A (l.length - (k + 1)) (cap - (k + 1)) news (by rw [iz1, hlen]) hsrc.out (by rw [hnews]; exact flat_one _) (by omega) (by rw [iz1, hlen, hcs]; omega)
    rw [this, iz1, ← hcur1, show k + (l.length - (k + 1)) = l.length - 1 by omega]
  have hkc : k ≤ cap := by omega
  have hkc1 : k + 1 ≤ cap := by omega
  have hkn : ((k : Int) == (k : Int) + 1) = false := by simp; omega
  have Hs := Lib.hid hcs; have Ht := Lib.hid htake; have Hl := Lib.hid hlen; have Hn := Lib.hid hnews; have Hc := Lib.hid hcur1; have Hg := Lib.hid hg
  clear hcs htake hlen hnews hcur1 h hsrc
  go_enter Try.func44, Try.ntmps44
  go_wp2_with fail
  have hkl : (k : Int) + 1 ≤ (l.length : Int) := by omega
  have hk0 : (0 : Int) ≤ (k : Int) + 1 := by omega
  go_region_law? (refine step_append_of rfl (.tmp 22) (.tmp 25) 36 rfl _ _ _ _ rfl rfl hap ?_)
  have hW : (w.drew.setRow g cur1).heap[g]? = some (.cells cur1 57 (0, 0)) := setRow_heap w.drew g cur cur1 _ _ Hg.out
  have e1 : l.length - (l.length - 1) = 1 := by omega
  have hcl : ∀ ty, (Builtin.clear_ #[36] ty #[.slice (some ⟨g, (l.length - 1) * 7, none⟩) (l.length - (l.length - 1)) (cap - (l.length - 1))]).run Try.prog (w.drew.setRow g cur1) = .ok (.tuple #[]) ((w.drew.setRow g cur1).setRow g (cur1.toList.take ((l.length - 1) * 7) ++ Offer.enc ⟨0, 0, 0, 0, 0, 0, 0⟩ ++ cur1.toList.drop ((l.length - 1) * 7 + 7)).toArray) := by
    rw [e1]
    exact clear_one hW (by rw [Hc.out]; have := Hs.out; have := Hl.out; simp; omega)
  clear e1
  generalize hw1 : w.drew.setRow g cur1 = W1 at *
  have Hw1 := Lib.hid hw1; clear hw1
  go_wp2
  go_ret
  have hc1 : cur1.toList = (l.take k).flatMap Offer.enc ++ (l.drop (k + 1)).flatMap Offer.enc ++ cur.toList.drop (k * 7 + news.length) := by
    have : cur.toList.take (k * 7) = (l.take k).flatMap Offer.enc := by
      rw [← flat_take l k (by omega), ← Ht.out, List.take_take, Nat.min_eq_left (by omega)]
    rw [Hc.out, this, Hn.out]
  have hl1 : ((l.take k).flatMap Offer.enc ++ (l.drop (k + 1)).flatMap Offer.enc).length = (l.length - 1) * 7 := by
    rw [List.length_append, flat_len, flat_len, List.length_take, List.length_drop, Nat.min_eq_left (by omega)]; omega
  have hz1 : cur1.toList.length = cap * 7 := by
    have hcl2 : cur.toList.length = cap * 7 := (Array.length_toList (xs := cur)).trans Hs.out
    have hll := Hl.out
    rw [hc1, List.length_append, hl1, List.length_drop, hcl2, hll]; omega
  have ht1 : cur1.toList.take ((l.length - 1) * 7) = (l.eraseIdx k).flatMap Offer.enc := by
    rw [hc1, ← hl1, List.take_left, List.eraseIdx_eq_take_drop_succ, List.flatMap_append]
  rw [← Hw1.out]
  refine ⟨by rw [hle]; rfl, ⟨rfl, rfl, rfl, by simp [World.setRow], fun j hj hn => ?_⟩, by rw [flat_len], .inr ⟨g, cap, _, by rw [hle], hbase, setRow_heap _ g _ _ _ _ (setRow_heap w.drew g cur cur1 _ _ Hg.out), by omega, hcm, ?_, ?_⟩⟩
  · rw [setRow_other _ _ _ _ (by simpa using hn), setRow_other _ _ _ _ (by simpa using hn)]; rfl
  · rw [← Array.length_toList]
    simp only [List.length_append, List.length_take, List.length_drop, hz1, enc_len]
    omega
  · rw [hle]
    show List.take ((l.length - 1) * 7) (List.take ((l.length - 1) * 7) cur1.toList ++ (Offer.enc ⟨0, 0, 0, 0, 0, 0, 0⟩ ++ cur1.toList.drop ((l.length - 1) * 7 + 7))) = _
    have hh : (List.take ((l.length - 1) * 7) cur1.toList).length = (l.length - 1) * 7 := by rw [List.length_take, hz1]; omega
    rw [List.take_append_of_le_length (by omega), List.take_of_length_le (by omega), ht1]

end Go.Proofs.Ytelcdiceongfdaa
end
section
namespace Go.Proofs.Ytelcdiceongfdaa
open Go.RowKit Go.BigFrame
set_option maxRecDepth 100000

def Book.take (B : Book) (s : Nat) (n : Int) : Nat × Book :=
  if Book.at B.l s < 0 then (7, B) else if n < 1 ∨ (B.l[(Book.at B.l s).toNat]!).left < n then (1, B)
  else if (B.l[(Book.at B.l s).toNat]!).left = n then (0, ⟨B.l.eraseIdx (Book.at B.l s).toNat, B.next⟩)
  else (0, ⟨B.l.set (Book.at B.l s).toNat { (B.l[(Book.at B.l s).toNat]!) with left := (B.l[(Book.at B.l s).toNat]!).left - n }, B.next⟩)
def TakePost (w : World) (b : Nat) (sl : Value) (r : Nat × Book) (e : Ending) (w' : World) : Prop :=
  e = .returned (.int .i64 r.1) ∧ ∃ S sl', Chg S w w' ∧ (∀ k ∈ S, k = b ∨ sl.ownBlock = some k) ∧ BookAt w' b r.2 sl'

theorem booksTake_none {w : World} {b : Nat} {B : Book} {sl : Value} (h : BookAt w b B sl) (hm : B.l.length ≤ 4611686018427387904) (hn : 1 ≤ B.next) (s : Nat) (n : Int) (hp : Book.at B.l s < 0) :
    Calls Try.prog 20 #[.pointer (some ⟨b, 0, none⟩), .int .u64 s, .int .i64 n] w (TakePost w b sl (B.take s n)) := by
  have hb := h.lt
  have lt0_b : b < w.heap.size + 1 := (by omega); have lt1_b : b ≤ w.heap.size := (by omega); have lt2_b : b < w.heap.size + 2 := (by omega); have lt3_b : b < w.heap.size + 3 := (by omega); have lt4_b : b < w.heap.size + 4 := (by omega); have lt5_b : b < w.heap.size + 5 := (by omega)
  have e : B.take s n = (7, B) := by unfold Book.take; rw [if_pos hp]
  have hk : Book.at B.l s = -1 := at_neg (by omega)
  rw [e]; clear e hp
  go_enter Try.func20, Try.ntmps20
  go_wp2_with (first | (go_at_call 31; refine (booksThere_yes (n := B.next) (h.below (by repeat (first | with_reducible exact Below.refl _ _ | with_reducible assumption | refine Below.drew ?_ | refine Below.setCell ?_ (by first | exact Nat.le_refl _ | omega | (simp; done) | (simp; omega)) _ | refine Below.alloc ?_ (by first | exact Nat.le_refl _ | omega | (simp; done) | (simp; omega)) _ | refine Below.tr ?_ (Nat.le_refl _) (by assumption) | exact Below.refl _ _ | assumption))).c1 hn).mono ?_; rintro e w' ⟨rfl, rfl⟩) | (go_at_call 32; refine (booksAt (h.below (by repeat (first | with_reducible exact Below.refl _ _ | with_reducible assumption | refine Below.drew ?_ | refine Below.setCell ?_ (by first | exact Nat.le_refl _ | omega | (simp; done) | (simp; omega)) _ | refine Below.alloc ?_ (by first | exact Nat.le_refl _ | omega | (simp; done) | (simp; omega)) _ | refine Below.tr ?_ (Nat.le_refl _) (by assumption) | exact Below.refl _ _ | assumption))) hm s).mono ?_; rintro e w1 ⟨rfl, hb1⟩; rw [hk]))
  go_ret
  exact ⟨rfl, [], sl, Chg.of_below hb1, by simp, h.below hb1⟩

theorem flat_set : ∀ (l : List Offer) (k : Nat) (v : Int), k < l.length → (l.flatMap Offer.enc).set (k * 7 + 4) (.int .i64 v) = (l.set k { (l[k]!) with left := v }).flatMap Offer.enc
  | [], _, _, h => absurd h (by simp)
  | o :: l, 0, v, _ => by
    rw [List.set_cons_zero, List.flatMap_cons, List.flatMap_cons, List.set_append_left _ _ (by rw [enc_len]; omega)]
    rfl
  | o :: l, k + 1, v, h => by
    rw [List.set_cons_succ, List.flatMap_cons, List.flatMap_cons, List.set_append_right _ _ (by rw [enc_len]; omega), enc_len, show (k + 1) * 7 + 4 - 7 = k * 7 + 4 by omega, flat_set l k v (by simpa using h)]
    rfl
theorem BookAt.setLeft {w : World} {b g n cap : Nat} {B : Book} (h : BookAt w b B (.slice (some ⟨g, 0, none⟩) n cap)) {k : Nat} (hk : k < B.l.length) (v : Int) :
    BookAt (w.setCell ⟨g, k * 7 + 4, none⟩ (.int .i64 v)) b ⟨B.l.set k { (B.l[k]!) with left := v }, B.next⟩ (.slice (some ⟨g, 0, none⟩) n cap) := by
  obtain ⟨hblk, hl, hrow⟩ := h
  rcases hrow with ⟨e, _⟩ | ⟨g', cap', cur, e, hb, hg, h1, h2, h3, h4⟩
  · cases e
  · simp only [Value.slice.injEq, Option.some.injEq, Addr.mk.injEq, and_true] at e
    obtain ⟨rfl, rfl, rfl⟩ := e
    have hgb : g ≠ b := by
      rintro rfl
      rw [hblk] at hg
      simp at hg
    refine ⟨?_, ?_, .inr ⟨g, cap, cur.setIfInBounds (k * 7 + 4) (.int .i64 v), by simp, hb, heap_setCell_same hg _, by simpa using h1, h2, by simpa using h3, ?_⟩⟩
    · rw [Below.heap_setCell _ _ _ _ (by simpa using hgb.symm)]
      exact hblk
    · exact flat_len _
    · rw [Array.toList_setIfInBounds, List.take_set, List.length_set]
      show (List.take (B.l.length * 7) cur.toList).set (k * 7 + 4) _ = _
      rw [h4, flat_set _ _ _ hk]

theorem take_gone {w w3 : World} {b g cap : Nat} {B : Book} (hC : Chg [g] w w3) (h : BookAt w b B (.slice (some ⟨g, 0, none⟩) B.l.length cap)) {l : List Offer} (hrow : w3.ownsRow 0 57 7 (.slice (some ⟨g, 0, none⟩) l.length cap) l.length (l.flatMap Offer.enc)) (hgb : g ≠ b) :
    TakePost w b (.slice (some ⟨g, 0, none⟩) B.l.length cap) (0, ⟨l, B.next⟩) (.returned (.int .i64 0)) (w3.setCell ⟨b, 0, none⟩ (.slice (some ⟨g, 0, none⟩) l.length cap)) := by
  have hblk : w3.heap[b]? = _ := (hC.block b h.lt (by simp; omega)).trans h.blk
  have hC4 := (hC.mono (S' := [b, g]) (by simp)).trans (Chg.setCell (S := [b, g]) w3 b 0 (.slice (some ⟨g, 0, none⟩) l.length cap) (by simp)) (fun x hx _ => hx)
  refine ⟨rfl, [b, g], _, hC4, by simp [Value.ownBlock], heap_setCell_same hblk _, ?_⟩
  exact ownsRow_chg hrow (Chg.setCell (S := [b]) w3 b 0 (.slice (some ⟨g, 0, none⟩) l.length cap) (by simp)) (by simp [Value.ownBlock]; omega)

set_option maxHeartbeats 1000000 in
theorem booksTake_some {w : World} {b : Nat} {B : Book} {sl : Value} (h : BookAt w b B sl) (hm : B.l.length ≤ 4611686018427387904) (hn : 1 ≤ B.next) (s : Nat) (n : Int) (k : Nat) (hk : Book.at B.l s = k) (hkl : k < B.l.length) (hl0 : -9223372036854775808 ≤ (B.l[k]!).left) (hl1 : (B.l[k]!).left ≤ 9223372036854775807) :
    Calls Try.prog 20 #[.pointer (some ⟨b, 0, none⟩), .int .u64 s, .int .i64 n] w (TakePost w b sl (B.take s n)) := by
  have hb := h.lt
  have lt0_b : b < w.heap.size + 1 := (by omega); have lt1_b : b ≤ w.heap.size := (by omega); have lt2_b : b < w.heap.size + 2 := (by omega); have lt3_b : b < w.heap.size + 3 := (by omega); have lt4_b : b < w.heap.size + 4 := (by omega); have lt5_b : b < w.heap.size + 5 := (by omega)
  rcases h.cases with ⟨rfl, hl⟩ | ⟨g, cap, rfl, hg, hgb, hcap⟩
  · rw [hl] at hkl; simp at hkl
  have e0 : B.take s n = (if n < 1 ∨ (B.l[k]!).left < n then (1, B) else if (B.l[k]!).left = n then (0, ⟨B.l.eraseIdx k, B.next⟩) else (0, ⟨B.l.set k { (B.l[k]!) with left := (B.l[k]!).left - n }, B.next⟩)) := by
    unfold Book.take; rw [hk, if_neg (by omega)]; rfl
  rw [e0]; clear e0
  have hcell : Hid (∀ (W : World), Below w.heap.size w W → W.cell? ⟨g, k * 7 + 4, none⟩ = some (.int .i64 (B.l[k]!).left)) := fun W hW => by
      rw [hW.cell (p := ⟨g, k * 7 + 4, none⟩) hg]
      exact row_cell h.row hkl rfl
  have hgz := h.row
  generalize hy : (B.l[k]!).left = y at *
  have Hy := Lib.hid hy; clear hy
  by_cases h1 : n < 1
  · rw [if_pos (Or.inl h1)]
    go_enter Try.func20, Try.ntmps20
    go_wp2_with (first | (go_at_call 31; refine (booksThere_yes (n := B.next) (h.below (by repeat (first | with_reducible exact Below.refl _ _ | with_reducible assumption | refine Below.drew ?_ | refine Below.setCell ?_ (by first | exact Nat.le_refl _ | omega | (simp; done) | (simp; omega)) _ | refine Below.alloc ?_ (by first | exact Nat.le_refl _ | omega | (simp; done) | (simp; omega)) _ | refine Below.tr ?_ (Nat.le_refl _) (by assumption) | exact Below.refl _ _ | assumption))).c1 hn).mono ?_; rintro e w' ⟨rfl, rfl⟩) | (go_at_call 32; refine (booksAt (h.below (by repeat (first | with_reducible exact Below.refl _ _ | with_reducible assumption | refine Below.drew ?_ | refine Below.setCell ?_ (by first | exact Nat.le_refl _ | omega | (simp; done) | (simp; omega)) _ | refine Below.alloc ?_ (by first | exact Nat.le_refl _ | omega | (simp; done) | (simp; omega)) _ | refine Below.tr ?_ (Nat.le_refl _) (by assumption) | exact Below.refl _ _ | assumption))) hm s).mono ?_; rintro e w1 ⟨rfl, hb1⟩; rw [hk]; have c4 := hcell.out w1 hb1; have c0 := (h.below hb1).c0))
    go_ret
    exact ⟨rfl, [], _, Chg.of_below hb1, by simp, h.below hb1⟩
  · by_cases h2 : y < n
    · rw [if_pos (Or.inr h2)]
      go_enter Try.func20, Try.ntmps20
      go_wp2_with (first | (go_at_call 31; refine (booksThere_yes (n := B.next) (h.below (by repeat (first | with_reducible exact Below.refl _ _ | with_reducible assumption | refine Below.drew ?_ | refine Below.setCell ?_ (by first | exact Nat.le_refl _ | omega | (simp; done) | (simp; omega)) _ | refine Below.alloc ?_ (by first | exact Nat.le_refl _ | omega | (simp; done) | (simp; omega)) _ | refine Below.tr ?_ (Nat.le_refl _) (by assumption) | exact Below.refl _ _ | assumption))).c1 hn).mono ?_; rintro e w' ⟨rfl, rfl⟩) | (go_at_call 32; refine (booksAt (h.below (by repeat (first | with_reducible exact Below.refl _ _ | with_reducible assumption | refine Below.drew ?_ | refine Below.setCell ?_ (by first | exact Nat.le_refl _ | omega | (simp; done) | (simp; omega)) _ | refine Below.alloc ?_ (by first | exact Nat.le_refl _ | omega | (simp; done) | (simp; omega)) _ | refine Below.tr ?_ (Nat.le_refl _) (by assumption) | exact Below.refl _ _ | assumption))) hm s).mono ?_; rintro e w1 ⟨rfl, hb1⟩; rw [hk]; have c4 := hcell.out w1 hb1; have c0 := (h.below hb1).c0))
      go_ret
      exact ⟨rfl, [], _, Chg.of_below hb1, by simp, h.below hb1⟩
    · rw [if_neg (by omega)]
      by_cases h3 : y = n
      · rw [if_pos h3]
        subst h3
        have hf : Hid (∀ (W : World), Below w.heap.size w W → ∀ o, W.frozen? ⟨g, o, none⟩ = false) := fun W hW o => by
          rcases h.row.2 with ⟨e, _⟩ | ⟨g', cap', cur, e, _, hgg, _⟩
          · cases e
          · cases e
            rw [hW.frozen (p := ⟨g, o, none⟩) hg]
            simp [World.frozen?, hgg]
        have hdel : Hid (∀ W, BookAt W b B (.slice (some ⟨g, 0, none⟩) B.l.length cap) → Calls Try.prog 44 #[.slice (some ⟨g, 0, none⟩) B.l.length cap, .int .i64 k, .int .i64 (k + 1)] (W.setCell ⟨g, k * 7 + 4, none⟩ (.int .i64 0)) (DelPost (W.setCell ⟨g, k * 7 + 4, none⟩ (.int .i64 0)) g cap 0 (B.l.eraseIdx k))) := fun W hW => by
          have h2 := (hW.setLeft hkl 0).row
          have h3 := delete_at (l := B.l.set k { (B.l[k]!) with left := 0 }) (by simpa using h2) k (by simpa using hkl)
          rw [List.length_set, List.eraseIdx_set_eq] at h3
          exact h3
        have hgne : ¬ (b = g) := fun e => hgb e.symm
        go_enter Try.func20, Try.ntmps20
        go_wp2_with (first | (go_at_call 31; refine (booksThere_yes (n := B.next) (h.below (by repeat (first | with_reducible exact Below.refl _ _ | with_reducible assumption | refine Below.drew ?_ | refine Below.setCell ?_ (by first | exact Nat.le_refl _ | omega | (simp; done) | (simp; omega)) _ | refine Below.alloc ?_ (by first | exact Nat.le_refl _ | omega | (simp; done) | (simp; omega)) _ | refine Below.tr ?_ (Nat.le_refl _) (by assumption) | exact Below.refl _ _ | assumption))).c1 hn).mono ?_; rintro e w' ⟨rfl, rfl⟩) | (go_at_call 32; refine (booksAt (h.below (by repeat (first | with_reducible exact Below.refl _ _ | with_reducible assumption | refine Below.drew ?_ | refine Below.setCell ?_ (by first | exact Nat.le_refl _ | omega | (simp; done) | (simp; omega)) _ | refine Below.alloc ?_ (by first | exact Nat.le_refl _ | omega | (simp; done) | (simp; omega)) _ | refine Below.tr ?_ (Nat.le_refl _) (by assumption) | exact Below.refl _ _ | assumption))) hm s).mono ?_; rintro e w1 ⟨rfl, hb1⟩; rw [hk]; have c4 := hcell.out w1 hb1; have hW1 := h.below hb1; have c0 := hW1.c0; have hfz := hf.out w1 hb1; have hg1 := Nat.lt_of_lt_of_le hg hb1.size; have hb2 := Nat.lt_of_lt_of_le hb hb1.size) | (go_at_call 44; refine (hdel.out w1 hW1).mono ?_; rintro e w3 ⟨rfl, hC3, hrow3⟩; have hC4 : Chg [g] w1 w3 := (Chg.setCell (S := [g]) w1 g (k * 7 + 4) (.int .i64 0) (by simp)).trans hC3 (fun x hx _ => hx); have hblk3 : w3.heap[b]? = _ := (hC4.block b hb2 (by simp; omega)).trans hW1.blk; have k0 : w3.cell? ⟨b, 0, none⟩ = some (.slice (some ⟨g, 0, none⟩) B.l.length cap) := (by simp [World.cell?, hblk3]); have kf : ∀ o, w3.frozen? ⟨b, o, none⟩ = false := (by intro o; simp [World.frozen?, hblk3])))
        go_ret
        have hC5 := (Chg.of_below (S := [g]) hb1).trans hC4 (fun x hx _ => hx)
        exact take_gone hC5 h hrow3 hgb
      · rw [if_neg h3]
        have hf : Hid (∀ (W : World), Below w.heap.size w W → ∀ o, W.frozen? ⟨g, o, none⟩ = false) := fun W hW o => by
          rcases h.row.2 with ⟨e, _⟩ | ⟨g', cap', cur, e, _, hgg, _⟩
          · cases e
          · cases e
            rw [hW.frozen (p := ⟨g, o, none⟩) hg]
            simp [World.frozen?, hgg]
        have h4 : ((y - n : Int) == 0) = false := by simp; omega
        go_enter Try.func20, Try.ntmps20
        go_wp2_with (first | (go_at_call 31; refine (booksThere_yes (n := B.next) (h.below (by repeat (first | with_reducible exact Below.refl _ _ | with_reducible assumption | refine Below.drew ?_ | refine Below.setCell ?_ (by first | exact Nat.le_refl _ | omega | (simp; done) | (simp; omega)) _ | refine Below.alloc ?_ (by first | exact Nat.le_refl _ | omega | (simp; done) | (simp; omega)) _ | refine Below.tr ?_ (Nat.le_refl _) (by assumption) | exact Below.refl _ _ | assumption))).c1 hn).mono ?_; rintro e w' ⟨rfl, rfl⟩) | (go_at_call 32; refine (booksAt (h.below (by repeat (first | with_reducible exact Below.refl _ _ | with_reducible assumption | refine Below.drew ?_ | refine Below.setCell ?_ (by first | exact Nat.le_refl _ | omega | (simp; done) | (simp; omega)) _ | refine Below.alloc ?_ (by first | exact Nat.le_refl _ | omega | (simp; done) | (simp; omega)) _ | refine Below.tr ?_ (Nat.le_refl _) (by assumption) | exact Below.refl _ _ | assumption))) hm s).mono ?_; rintro e w1 ⟨rfl, hb1⟩; rw [hk]; have c4 := hcell.out w1 hb1; have c0 := (h.below hb1).c0; have hfz := hf.out w1 hb1; have hg1 := Nat.lt_of_lt_of_le hg hb1.size; have hb2 := Nat.lt_of_lt_of_le hb hb1.size))
        go_ret
        have hy2 := Hy.out
        have h6 := (h.below hb1).setLeft hkl (y - n)
        exact ⟨rfl, [g], _, (Chg.of_below hb1).trans (Chg.setCell (S := [g]) w1 g (k * 7 + 4) (.int .i64 (y - n)) (by simp)) (fun x hx _ => hx), by simp [Value.ownBlock], h6⟩

theorem booksTake_no {w : World} {q : Option Addr} (h : NoBook w q) (s : Nat) (n : Int) :
    Calls Try.prog 20 #[.pointer q, .int .u64 s, .int .i64 n] w fun e w' => e = .returned (.int .i64 2) ∧ w = w' := by
  go_enter Try.func20, Try.ntmps20
  go_wp2_with (go_at_call 31; refine (booksThere_no h).mono ?_; rintro e w' ⟨rfl, rfl⟩)
  go_ret
  exact ⟨rfl, rfl⟩

/-- less is left of an offer: whatever book -/
theorem booksTake {w : World} {b : Nat} {B : Book} {sl : Value} (h : BookAt w b B sl) (hm : B.l.length ≤ 4611686018427387904) (hn : 1 ≤ B.next) (s : Nat) (n : Int) (hL : ∀ k, k < B.l.length → 0 ≤ (B.l[k]!).left ∧ (B.l[k]!).left ≤ 9223372036854775807) :
    Calls Try.prog 20 #[.pointer (some ⟨b, 0, none⟩), .int .u64 s, .int .i64 n] w (TakePost w b sl (B.take s n)) := by
  by_cases hp : 0 ≤ Book.at B.l s
  · obtain ⟨k, hk, hkl⟩ := at_range hp
    have := hL k hkl
    exact booksTake_some h hm hn s n k hk hkl (by omega) (by omega)
  · exact booksTake_none h hm hn s n (by omega)

end Go.Proofs.Ytelcdiceongfdaa
end
