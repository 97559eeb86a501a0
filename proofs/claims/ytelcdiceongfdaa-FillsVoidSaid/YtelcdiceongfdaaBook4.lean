/- Walks of the layer books, fourth part: an offer is placed. -/
import Derived.Test.YtelcdiceongfdaaBook3
import Derived.Deep.RegionLaw
import Derived.Deep.AppendLies
import Derived.OwnWalk
namespace Go.Proofs.Ytelcdiceongfdaa
open Go.RowKit Go.BigFrame
set_option maxRecDepth 100000

def Book.place (B : Book) (o : Offer) : Nat × Nat × Book :=
  if Offer.may { o with seq := B.next } then
    if 32 ≤ B.l.length ∨ B.next = 18446744073709551615 then (0, 9, B) else (B.next, 0, ⟨B.l ++ [{ o with seq := B.next }], B.next + 1⟩)
  else (0, 1, B)
def PlacePost (w : World) (b : Nat) (sl : Value) (r : Nat × Nat × Book) (e : Ending) (w' : World) : Prop :=
  e = .returned (.tuple #[.int .u64 r.1, .int .i64 r.2.1]) ∧ ∃ S sl', Chg S w w' ∧ (∀ k ∈ S, k = b ∨ sl.ownBlock = some k) ∧ BookAt w' b r.2.2 sl' ∧ ∀ k, sl'.ownBlock = some k → sl.ownBlock = some k ∨ w.heap.size ≤ k

set_option maxHeartbeats 2000000 in
theorem booksPlace_bad {w : World} {b : Nat} {B : Book} {sl : Value} (h : BookAt w b B sl) (hn : 1 ≤ B.next) (o : Offer) (ho : Offer.typed { o with seq := B.next }) (hm : Offer.may { o with seq := B.next } = false) :
    Calls Try.prog 29 #[.pointer (some ⟨b, 0, none⟩), .int .u8 o.owner, .int .u8 o.sell, .int .u8 o.buy, .int .i64 o.left, .agg #[.int .i64 o.num, .int .i64 o.den]] w (PlacePost w b sl (B.place o)) := by
  have e : B.place o = (0, 1, B) := by unfold Book.place; rw [hm]; rfl
  rw [e]; clear e
  have hb := h.lt
  have hc1 := h.c1
  have hc0 := h.c0
  have lt0_b : b < w.heap.size + 1 := (by omega); have lt1_b : b ≤ w.heap.size := (by omega); have lt2_b : b < w.heap.size + 2 := (by omega); have lt3_b : b < w.heap.size + 3 := (by omega); have lt4_b : b < w.heap.size + 4 := (by omega); have lt5_b : b < w.heap.size + 5 := (by omega)
  have hmay : Hid (∀ W, Calls Try.prog 47 #[.agg #[.int .u64 B.next, .int .u8 o.owner, .int .u8 o.sell, .int .u8 o.buy, .int .i64 o.left, .int .i64 o.num, .int .i64 o.den]] W fun e w' => e = .returned (.bool false) ∧ Below W.heap.size W w') := fun W => by
    rw [← hm]; exact booksMay _ ho W
  clear hm
  obtain ⟨seq, p, s, y, left, a, d⟩ := o
  dsimp only at *
  go_enter Try.func29, Try.ntmps29
  go_wp2_with (first | (go_at_call 31; refine (booksThere_yes (n := B.next) (h.below (by repeat (first | with_reducible exact Below.refl _ _ | with_reducible assumption | refine Below.drew ?_ | refine Below.setCell ?_ (by first | exact Nat.le_refl _ | omega | (simp; done) | (simp; omega)) _ | refine Below.alloc ?_ (by first | exact Nat.le_refl _ | omega | (simp; done) | (simp; omega)) _ | refine Below.tr ?_ (Nat.le_refl _) (by assumption) | exact Below.refl _ _ | assumption))).c1 hn).mono ?_; rintro e w' ⟨rfl, rfl⟩) | (go_at_call 47; refine (hmay.out _).mono ?_; rintro e w1 ⟨rfl, hb1⟩))
  go_region
  go_wp2_with (first | (go_at_call 47; refine (hmay.out _).mono ?_; rintro e w1 ⟨rfl, hb1⟩))
  go_ret2
  have hB : Below w.heap.size w w1 := (by repeat (first | with_reducible exact Below.refl _ _ | with_reducible assumption | refine Below.drew ?_ | refine Below.setCell ?_ (by first | exact Nat.le_refl _ | omega | (simp; done) | (simp; omega)) _ | refine Below.alloc ?_ (by first | exact Nat.le_refl _ | omega | (simp; done) | (simp; omega)) _ | refine Below.tr ?_ (Nat.le_refl _) (by assumption) | exact Below.refl _ _ | assumption))
  exact ⟨rfl, [], sl, Chg.of_below hB, by simp, h.below hB, fun _ hk => .inl hk⟩

theorem BookAt.fz {w : World} {b : Nat} {B : Book} {sl : Value} (h : BookAt w b B sl) (o : Nat) : w.frozen? ⟨b, o, none⟩ = false := by simp [World.frozen?, h.blk]
theorem Chg.of_grown {S : List Nat} {w w' : World} {row : Option Nat} (hg : w.grownBy w' row) (h : ∀ k, row = some k → k ∈ S) : Chg S w w' :=
  ⟨hg.os, hg.tape, hg.output, hg.size, fun k hk hn => hg.block k hk (fun e => hn (h k e.symm))⟩
theorem infoOffer : ((Try.prog).info? 57).map (fun i => (i.zero, i.size, i.bytes)) = some (some (.agg #[.int .u64 0, .int .u8 0, .int .u8 0, .int .u8 0, .int .i64 0, .int .i64 0, .int .i64 0]), 7, 40) := by kernel_rfl

theorem place_end {w w2 : World} {b g2 cap2 : Nat} {S : List Nat} {sl : Value} {B : Book} {p s y : Nat} {left a d : Int} (hC : Chg S w w2) (hbS : b ∈ S) (hS : ∀ k ∈ S, k = b ∨ sl.ownBlock = some k) (hwh : sl.ownBlock = some g2 ∨ w.heap.size ≤ g2)
    (hbk : w2.heap[b]? = some (.cells #[sl, .int .u64 B.next] 38 (0, 0)))
    (hown : w2.ownsRow 0 57 7 (.slice (some ⟨g2, 0, none⟩) (B.l.length + 1) cap2) (B.l.length + 1) (B.l.flatMap Offer.enc ++ [.int .u64 B.next, .int .u8 p, .int .u8 s, .int .u8 y, .int .i64 left, .int .i64 a, .int .i64 d])) :
    PlacePost w b sl (B.next, 0, ⟨B.l ++ [⟨B.next, p, s, y, left, a, d⟩], B.next + 1⟩) (.returned (.tuple #[.int .u64 B.next, .int .i64 0])) ((w2.setCell ⟨b, 0, none⟩ (.slice (some ⟨g2, 0, none⟩) (B.l.length + 1) cap2)).setCell ⟨b, 1, none⟩ (.int .u64 ((B.next : Int) + 1))) := by
  have hgb : g2 ≠ b := by
    rintro rfl
    rcases hown.2 with ⟨e, _⟩ | ⟨g, cap, cur, e, _, hg, _⟩
    · cases e
    · cases e
      rw [hbk] at hg
      simp at hg
  have hC2 := (hC.trans (Chg.setCell w2 b 0 (.slice (some ⟨g2, 0, none⟩) (B.l.length + 1) cap2) hbS) (fun x hx _ => hx)).trans (Chg.setCell (w2.setCell ⟨b, 0, none⟩ (.slice (some ⟨g2, 0, none⟩) (B.l.length + 1) cap2)) b 1 (.int .u64 ((B.next : Int) + 1)) hbS) (fun x hx _ => hx)
  refine ⟨rfl, S, .slice (some ⟨g2, 0, none⟩) (B.l.length + 1) cap2, hC2, hS, ⟨?_, ?_⟩, fun k hk => by simp only [Value.ownBlock, Option.some.injEq] at hk; subst hk; exact hwh⟩
  · exact heap_setCell_same (heap_setCell_same hbk _) _
  · have hC3 := ((Chg.refl [b] w2).trans (Chg.setCell (S := [b]) w2 b 0 (.slice (some ⟨g2, 0, none⟩) (B.l.length + 1) cap2) (by simp)) (fun x hx _ => hx)).trans (Chg.setCell (S := [b]) (w2.setCell ⟨b, 0, none⟩ (.slice (some ⟨g2, 0, none⟩) (B.l.length + 1) cap2)) b 1 (.int .u64 ((B.next : Int) + 1)) (by simp)) (fun x hx _ => hx)
    have := ownsRow_chg hown hC3 (by simp [Value.ownBlock]; omega)
    simpa [List.flatMap_append, Offer.enc] using this

set_option maxHeartbeats 2000000 in
theorem booksPlace_ok {w : World} {b : Nat} {B : Book} {sl : Value} (h : BookAt w b B sl) (hn : 1 ≤ B.next) (o : Offer) (ho : Offer.typed { o with seq := B.next }) (hm : Offer.may { o with seq := B.next } = true) (h32 : B.l.length < 32) (hx : B.next < 18446744073709551615) :
    Calls Try.prog 29 #[.pointer (some ⟨b, 0, none⟩), .int .u8 o.owner, .int .u8 o.sell, .int .u8 o.buy, .int .i64 o.left, .agg #[.int .i64 o.num, .int .i64 o.den]] w (PlacePost w b sl (B.place o)) := by
  have e : B.place o = (B.next, 0, ⟨B.l ++ [{ o with seq := B.next }], B.next + 1⟩) := by unfold Book.place; rw [hm, if_pos rfl, if_neg (by omega)]
  rw [e]; clear e
  obtain ⟨i0, hi, iz0, iz1, iz2⟩ := info_parts infoOffer
  have hb := h.lt
  have hc1 := h.c1
  have hc0 := h.c0
  have lt0_b : b < w.heap.size + 1 := (by omega); have lt1_b : b ≤ w.heap.size := (by omega); have lt2_b : b < w.heap.size + 2 := (by omega); have lt3_b : b < w.heap.size + 3 := (by omega); have lt4_b : b < w.heap.size + 4 := (by omega); have lt5_b : b < w.heap.size + 5 := (by omega)
  have hmay : Hid (∀ W, Calls Try.prog 47 #[.agg #[.int .u64 B.next, .int .u8 o.owner, .int .u8 o.sell, .int .u8 o.buy, .int .i64 o.left, .int .i64 o.num, .int .i64 o.den]] W fun e w' => e = .returned (.bool true) ∧ Below W.heap.size W w') := fun W => by
    rw [← hm]; exact booksMay _ ho W
  clear hm
  obtain ⟨seq, p, s, y, left, a, d⟩ := o
  dsimp only at *
  have hd1 : decide (32 ≤ (B.l.length : Int)) = false := by simp; omega
  have hd2 : ((B.next : Int) == 18446744073709551615) = false := by simp; omega
  rcases h.cases with ⟨rfl, hl⟩ | ⟨g, cap, rfl, hg, hgb, hcap⟩
  · clear hl
    go_enter Try.func29, Try.ntmps29
    go_wp2_with (first | (go_at_call 31; refine (booksThere_yes (n := B.next) (h.below (by repeat (first | with_reducible exact Below.refl _ _ | with_reducible assumption | refine Below.drew ?_ | refine Below.setCell ?_ (by first | exact Nat.le_refl _ | omega | (simp; done) | (simp; omega)) _ | refine Below.alloc ?_ (by first | exact Nat.le_refl _ | omega | (simp; done) | (simp; omega)) _ | refine Below.tr ?_ (Nat.le_refl _) (by assumption) | exact Below.refl _ _ | assumption))).c1 hn).mono ?_; rintro e w' ⟨rfl, rfl⟩))
    go_region
    go_wp2_with (first | (go_at_call 47; refine (hmay.out _).mono ?_; rintro e w1 ⟨rfl, hb1⟩; have hB : Below w.heap.size w w1 := (by repeat (first | with_reducible exact Below.refl _ _ | with_reducible assumption | refine Below.drew ?_ | refine Below.setCell ?_ (by first | exact Nat.le_refl _ | omega | (simp; done) | (simp; omega)) _ | refine Below.alloc ?_ (by first | exact Nat.le_refl _ | omega | (simp; done) | (simp; omega)) _ | refine Below.tr ?_ (Nat.le_refl _) (by assumption) | exact Below.refl _ _ | assumption)); have h1 := h.below hB; have c1 := h1.c1; have c0 := h1.c0; have hb' := h1.lt; have hz := hB.size; have hz1 : w.heap.size + 1 < w1.heap.size := (by have := hb1.size; simp at this; omega); obtain ⟨hcc, hff⟩ := bcell hb1; have y0 := (hcc (w.heap.size + 1) 0 (by simp)); have y1 := (hcc (w.heap.size + 1) 1 (by simp)); have y2 := (hcc (w.heap.size + 1) 2 (by simp)); have y3 := (hcc (w.heap.size + 1) 3 (by simp)); have y4 := (hcc (w.heap.size + 1) 4 (by simp)); have y5 := (hcc (w.heap.size + 1) 5 (by simp)); have y6 := (hcc (w.heap.size + 1) 6 (by simp)); clear hcc hff))
    have hz2 : w.heap.size + 1 < w1.heap.size + 1 := by omega
    go_region_law (refine step_append_lies _ rfl (.tmp 50) (.tmp 52) 36 rfl 0 57 i0 _ 7 40 Try.underlying36 hi iz0 iz1 iz2 rfl (by decide) (.slice none 0 0) B.l.length (B.l.flatMap Offer.enc) rfl (h1.below (by repeat (first | with_reducible exact Below.refl _ _ | with_reducible assumption | refine Below.drew ?_ | refine Below.setCell ?_ (by first | exact Nat.le_refl _ | omega | (simp; done) | (simp; omega)) _ | refine Below.alloc ?_ (by first | exact Nat.le_refl _ | omega | (simp; done) | (simp; omega)) _ | refine Below.tr ?_ (Nat.le_refl _) (by assumption) | exact Below.refl _ _ | assumption))).row ⟨w1.heap.size, 0, none⟩ 1 1 [.int .u64 B.next, .int .u8 p, .int .u8 s, .int .u8 y, .int .i64 left, .int .i64 a, .int .i64 d] rfl rfl (World.news_of_block (alloc_new _ _)) (by simp [Value.oneCell']) (by decide) (by simp [maxLen]; omega) (by omega) (Nat.zero_le _) _ rfl ?_; intro g2 cap2 w2 hown hgrow hwh hlt; have k0 := hgrow.cell (h1.below (by repeat (first | with_reducible exact Below.refl _ _ | with_reducible assumption | refine Below.drew ?_ | refine Below.setCell ?_ (by first | exact Nat.le_refl _ | omega | (simp; done) | (simp; omega)) _ | refine Below.alloc ?_ (by first | exact Nat.le_refl _ | omega | (simp; done) | (simp; omega)) _ | refine Below.tr ?_ (Nat.le_refl _) (by assumption) | exact Below.refl _ _ | assumption))).c0 (by simp [Value.ownBlock]); have k1 := hgrow.cell (h1.below (by repeat (first | with_reducible exact Below.refl _ _ | with_reducible assumption | refine Below.drew ?_ | refine Below.setCell ?_ (by first | exact Nat.le_refl _ | omega | (simp; done) | (simp; omega)) _ | refine Below.alloc ?_ (by first | exact Nat.le_refl _ | omega | (simp; done) | (simp; omega)) _ | refine Below.tr ?_ (Nat.le_refl _) (by assumption) | exact Below.refl _ _ | assumption))).c1 (by simp [Value.ownBlock]); have kf : ∀ o, w2.frozen? ⟨b, o, none⟩ = false := (fun o => (hgrow.frozen_far ⟨b, o, none⟩ (by simp; omega) (by simp [Value.ownBlock])).trans ((h1.below (by repeat (first | with_reducible exact Below.refl _ _ | with_reducible assumption | refine Below.drew ?_ | refine Below.setCell ?_ (by first | exact Nat.le_refl _ | omega | (simp; done) | (simp; omega)) _ | refine Below.alloc ?_ (by first | exact Nat.le_refl _ | omega | (simp; done) | (simp; omega)) _ | refine Below.tr ?_ (Nat.le_refl _) (by assumption) | exact Below.refl _ _ | assumption))).fz o)); have x0 : w2.cell? ⟨w.heap.size + 1, 0, none⟩ = some (.int .u64 B.next) := hgrow.cell (Lib.cell?_alloc_some _ (show w1.cell? ⟨w.heap.size + 1, 0, none⟩ = some (.int .u64 B.next) from y0.trans (by simp))) (by simp [Value.ownBlock]))
    all_goals
      go_wp2
      go_ret2
      have hC : Chg [b] w w2 := by
        refine Chg.trans (Chg.of_below (S := [b]) ?_) (Chg.of_grown hgrow (S := [b]) (by simp [Value.ownBlock])) (by simp)
        exact (by repeat (first | with_reducible exact Below.refl _ _ | with_reducible assumption | refine Below.drew ?_ | refine Below.setCell ?_ (by first | exact Nat.le_refl _ | omega | (simp; done) | (simp; omega)) _ | refine Below.alloc ?_ (by first | exact Nat.le_refl _ | omega | (simp; done) | (simp; omega)) _ | refine Below.tr ?_ (Nat.le_refl _) (by assumption) | exact Below.refl _ _ | assumption))
      have hbk2 : w2.heap[b]? = some (.cells #[.slice none 0 0, .int .u64 B.next] 38 (0, 0)) := by
        refine (hgrow.block b (by simp; omega) (by simp [Value.ownBlock])).trans ?_
        exact (h1.below (by repeat (first | with_reducible exact Below.refl _ _ | with_reducible assumption | refine Below.drew ?_ | refine Below.setCell ?_ (by first | exact Nat.le_refl _ | omega | (simp; done) | (simp; omega)) _ | refine Below.alloc ?_ (by first | exact Nat.le_refl _ | omega | (simp; done) | (simp; omega)) _ | refine Below.tr ?_ (Nat.le_refl _) (by assumption) | exact Below.refl _ _ | assumption))).blk
      exact place_end hC (by simp) (by simp [Value.ownBlock]) (by have := hB.size; exact hwh.imp id (fun h' => by simp at h'; omega)) hbk2 hown
  · go_enter Try.func29, Try.ntmps29
    go_wp2_with (first | (go_at_call 31; refine (booksThere_yes (n := B.next) (h.below (by repeat (first | with_reducible exact Below.refl _ _ | with_reducible assumption | refine Below.drew ?_ | refine Below.setCell ?_ (by first | exact Nat.le_refl _ | omega | (simp; done) | (simp; omega)) _ | refine Below.alloc ?_ (by first | exact Nat.le_refl _ | omega | (simp; done) | (simp; omega)) _ | refine Below.tr ?_ (Nat.le_refl _) (by assumption) | exact Below.refl _ _ | assumption))).c1 hn).mono ?_; rintro e w' ⟨rfl, rfl⟩))
    go_region
    go_wp2_with (first | (go_at_call 47; refine (hmay.out _).mono ?_; rintro e w1 ⟨rfl, hb1⟩; have hB : Below w.heap.size w w1 := (by repeat (first | with_reducible exact Below.refl _ _ | with_reducible assumption | refine Below.drew ?_ | refine Below.setCell ?_ (by first | exact Nat.le_refl _ | omega | (simp; done) | (simp; omega)) _ | refine Below.alloc ?_ (by first | exact Nat.le_refl _ | omega | (simp; done) | (simp; omega)) _ | refine Below.tr ?_ (Nat.le_refl _) (by assumption) | exact Below.refl _ _ | assumption)); have h1 := h.below hB; have c1 := h1.c1; have c0 := h1.c0; have hb' := h1.lt; have hz := hB.size; have hz1 : w.heap.size + 1 < w1.heap.size := (by have := hb1.size; simp at this; omega); obtain ⟨hcc, hff⟩ := bcell hb1; have y0 := (hcc (w.heap.size + 1) 0 (by simp)); have y1 := (hcc (w.heap.size + 1) 1 (by simp)); have y2 := (hcc (w.heap.size + 1) 2 (by simp)); have y3 := (hcc (w.heap.size + 1) 3 (by simp)); have y4 := (hcc (w.heap.size + 1) 4 (by simp)); have y5 := (hcc (w.heap.size + 1) 5 (by simp)); have y6 := (hcc (w.heap.size + 1) 6 (by simp)); clear hcc hff))
    have hz2 : w.heap.size + 1 < w1.heap.size + 1 := by omega
    go_region_law (refine step_append_lies _ rfl (.tmp 50) (.tmp 52) 36 rfl 0 57 i0 _ 7 40 Try.underlying36 hi iz0 iz1 iz2 rfl (by decide) (.slice (some ⟨g, 0, none⟩) B.l.length cap) B.l.length (B.l.flatMap Offer.enc) rfl (h1.below (by repeat (first | with_reducible exact Below.refl _ _ | with_reducible assumption | refine Below.drew ?_ | refine Below.setCell ?_ (by first | exact Nat.le_refl _ | omega | (simp; done) | (simp; omega)) _ | refine Below.alloc ?_ (by first | exact Nat.le_refl _ | omega | (simp; done) | (simp; omega)) _ | refine Below.tr ?_ (Nat.le_refl _) (by assumption) | exact Below.refl _ _ | assumption))).row ⟨w1.heap.size, 0, none⟩ 1 1 [.int .u64 B.next, .int .u8 p, .int .u8 s, .int .u8 y, .int .i64 left, .int .i64 a, .int .i64 d] rfl rfl (World.news_of_block (alloc_new _ _)) (by simp [Value.oneCell']) (by decide) (by simp [maxLen]; omega) (by omega) (Nat.zero_le _) _ rfl ?_; intro g2 cap2 w2 hown hgrow hwh hlt; have k0 := hgrow.cell (h1.below (by repeat (first | with_reducible exact Below.refl _ _ | with_reducible assumption | refine Below.drew ?_ | refine Below.setCell ?_ (by first | exact Nat.le_refl _ | omega | (simp; done) | (simp; omega)) _ | refine Below.alloc ?_ (by first | exact Nat.le_refl _ | omega | (simp; done) | (simp; omega)) _ | refine Below.tr ?_ (Nat.le_refl _) (by assumption) | exact Below.refl _ _ | assumption))).c0 (by simp [Value.ownBlock]; omega); have k1 := hgrow.cell (h1.below (by repeat (first | with_reducible exact Below.refl _ _ | with_reducible assumption | refine Below.drew ?_ | refine Below.setCell ?_ (by first | exact Nat.le_refl _ | omega | (simp; done) | (simp; omega)) _ | refine Below.alloc ?_ (by first | exact Nat.le_refl _ | omega | (simp; done) | (simp; omega)) _ | refine Below.tr ?_ (Nat.le_refl _) (by assumption) | exact Below.refl _ _ | assumption))).c1 (by simp [Value.ownBlock]; omega); have kf : ∀ o, w2.frozen? ⟨b, o, none⟩ = false := (fun o => (hgrow.frozen_far ⟨b, o, none⟩ (by simp; omega) (by simp [Value.ownBlock]; omega)).trans ((h1.below (by repeat (first | with_reducible exact Below.refl _ _ | with_reducible assumption | refine Below.drew ?_ | refine Below.setCell ?_ (by first | exact Nat.le_refl _ | omega | (simp; done) | (simp; omega)) _ | refine Below.alloc ?_ (by first | exact Nat.le_refl _ | omega | (simp; done) | (simp; omega)) _ | refine Below.tr ?_ (Nat.le_refl _) (by assumption) | exact Below.refl _ _ | assumption))).fz o)); have x0 : w2.cell? ⟨w.heap.size + 1, 0, none⟩ = some (.int .u64 B.next) := hgrow.cell (Lib.cell?_alloc_some _ (show w1.cell? ⟨w.heap.size + 1, 0, none⟩ = some (.int .u64 B.next) from y0.trans (by simp))) (by simp [Value.ownBlock]; omega))
    all_goals
      go_wp2
      go_ret2
      have hC : Chg [b, g] w w2 := by
        refine Chg.trans (Chg.of_below (S := [b, g]) ?_) (Chg.of_grown hgrow (S := [b, g]) (by simp [Value.ownBlock])) (by simp)
        exact (by repeat (first | with_reducible exact Below.refl _ _ | with_reducible assumption | refine Below.drew ?_ | refine Below.setCell ?_ (by first | exact Nat.le_refl _ | omega | (simp; done) | (simp; omega)) _ | refine Below.alloc ?_ (by first | exact Nat.le_refl _ | omega | (simp; done) | (simp; omega)) _ | refine Below.tr ?_ (Nat.le_refl _) (by assumption) | exact Below.refl _ _ | assumption))
      have hbk2 : w2.heap[b]? = some (.cells #[.slice (some ⟨g, 0, none⟩) B.l.length cap, .int .u64 B.next] 38 (0, 0)) := by
        refine (hgrow.block b (by simp; omega) (by simp [Value.ownBlock]; omega)).trans ?_
        exact (h1.below (by repeat (first | with_reducible exact Below.refl _ _ | with_reducible assumption | refine Below.drew ?_ | refine Below.setCell ?_ (by first | exact Nat.le_refl _ | omega | (simp; done) | (simp; omega)) _ | refine Below.alloc ?_ (by first | exact Nat.le_refl _ | omega | (simp; done) | (simp; omega)) _ | refine Below.tr ?_ (Nat.le_refl _) (by assumption) | exact Below.refl _ _ | assumption))).blk
      exact place_end hC (by simp) (by simp [Value.ownBlock]) (by have := hB.size; exact hwh.imp id (fun h' => by simp at h'; omega)) hbk2 hown

end Go.Proofs.Ytelcdiceongfdaa
