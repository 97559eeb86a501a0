/- Walks of the layer books, fifth part: less is left of an offer. -/
import Derived.Test.YtelcdiceongfdaaDel
namespace Go.Proofs.Ytelcdiceongfdaa
open Go.RowKit Go.BigFrame
set_option maxRecDepth 100000

def Book.take (B : Book) (s : Nat) (n : Int) : Nat × Book :=
  if Book.at B.l s < 0 then (7, B) else if n < 1 ∨ (B.l[(Book.at B.l s).toNat]!).left < n then (1, B)
  else if (B.l[(Book.at B.l s).toNat]!).left = n then (0, ⟨B.l.eraseIdx (Book.at B.l s).toNat, B.next⟩)
  else (0, ⟨B.l.set (Book.at B.l s).toNat { (B.l[(Book.at B.l s).toNat]!) with left := (B.l[(Book.at B.l s).toNat]!).left - n }, B.next⟩)
def TakePost (w : World) (b : Nat) (sl : Value) (r : Nat × Book) (e : Ending) (w' : World) : Prop :=
  e = .returned (.int .i64 r.1) ∧ ∃ S sl', Chg S w w' ∧ (∀ k ∈ S, k = b ∨ sl.ownBlock = some k) ∧ BookAt w' b r.2 sl'

theorem booksTake_none {w : World} {b : Nat} {B : Book} {sl : Value} (h : BookAt w b B sl) (hm : B.l.length ≤ 4611686018427387904) (hn : 1 ≤ B.next) (s : Nat) (n : Int) (hp : Book.at B.l s < 0) :
    Calls Try.prog 20 #[.pointer (some ⟨b, 0, none⟩), .int .u64 s, .int .i64 n] w (TakePost w b sl (B.take s n)) := by
  have hb := h.lt
  have lt0_b : b < w.heap.size + 1 := (by omega); have lt1_b : b ≤ w.heap.size := (by omega); have lt2_b : b < w.heap.size + 2 := (by omega); have lt3_b : b < w.heap.size + 3 := (by omega); have lt4_b : b < w.heap.size + 4 := (by omega); have lt5_b : b < w.heap.size + 5 := (by omega)
  have e : B.take s n = (7, B) := by unfold Book.take; rw [if_pos hp]
  have hk : Book.at B.l s = -1 := at_neg (by omega)
  rw [e]; clear e hp
  go_enter Try.func20, Try.ntmps20
  go_wp2_with (first | (go_at_call 31; refine (booksThere_yes (n := B.next) (h.below (by repeat (first | with_reducible exact Below.refl _ _ | with_reducible assumption | refine Below.drew ?_ | refine Below.setCell ?_ (by first | exact Nat.le_refl _ | omega | (simp; done) | (simp; omega)) _ | refine Below.alloc ?_ (by first | exact Nat.le_refl _ | omega | (simp; done) | (simp; omega)) _ | refine Below.tr ?_ (Nat.le_refl _) (by assumption) | exact Below.refl _ _ | assumption))).c1 hn).mono ?_; rintro e w' ⟨rfl, rfl⟩) | (go_at_call 32; refine (booksAt (h.below (by repeat (first | with_reducible exact Below.refl _ _ | with_reducible assumption | refine Below.drew ?_ | refine Below.setCell ?_ (by first | exact Nat.le_refl _ | omega | (simp; done) | (simp; omega)) _ | refine Below.alloc ?_ (by first | exact Nat.le_refl _ | omega | (simp; done) | (simp; omega)) _ | refine Below.tr ?_ (Nat.le_refl _) (by assumption) | exact Below.refl _ _ | assumption))) hm s).mono ?_; rintro e w1 ⟨rfl, hb1⟩; rw [hk]))
  go_ret
  exact ⟨rfl, [], sl, Chg.of_below hb1, by simp, h.below hb1⟩

theorem flat_set : ∀ (l : List Offer) (k : Nat) (v : Int), k < l.length → (l.flatMap Offer.enc).set (k * 7 + 4) (.int .i64 v) = (l.set k { (l[k]!) with left := v }).flatMap Offer.enc
  | [], _, _, h => absurd h (by simp)
  | o :: l, 0, v, _ => by
    rw [List.set_cons_zero, List.flatMap_cons, List.flatMap_cons, List.set_append_left _ _ (by rw [enc_len]; omega)]
    rfl
  | o :: l, k + 1, v, h => by
    rw [List.set_cons_succ, List.flatMap_cons, List.flatMap_cons, List.set_append_right _ _ (by rw [enc_len]; omega), enc_len, show (k + 1) * 7 + 4 - 7 = k * 7 + 4 by omega, flat_set l k v (by simpa using h)]
    rfl
theorem BookAt.setLeft {w : World} {b g n cap : Nat} {B : Book} (h : BookAt w b B (.slice (some ⟨g, 0, none⟩) n cap)) {k : Nat} (hk : k < B.l.length) (v : Int) :
    BookAt (w.setCell ⟨g, k * 7 + 4, none⟩ (.int .i64 v)) b ⟨B.l.set k { (B.l[k]!) with left := v }, B.next⟩ (.slice (some ⟨g, 0, none⟩) n cap) := by
  obtain ⟨hblk, hl, hrow⟩ := h
  rcases hrow with ⟨e, _⟩ | ⟨g', cap', cur, e, hb, hg, h1, h2, h3, h4⟩
  · cases e
  · simp only [Value.slice.injEq, Option.some.injEq, Addr.mk.injEq, and_true] at e
    obtain ⟨rfl, rfl, rfl⟩ := e
    have hgb : g ≠ b := by
      rintro rfl
      rw [hblk] at hg
      simp at hg
    refine ⟨?_, ?_, .inr ⟨g, cap, cur.setIfInBounds (k * 7 + 4) (.int .i64 v), by simp, hb, heap_setCell_same hg _, by simpa using h1, h2, by simpa using h3, ?_⟩⟩
    · rw [Below.heap_setCell _ _ _ _ (by simpa using hgb.symm)]
      exact hblk
    · exact flat_len _
    · rw [Array.toList_setIfInBounds, List.take_set, List.length_set]
      show (List.take (B.l.length * 7) cur.toList).set (k * 7 + 4) _ = _
      rw [h4, flat_set _ _ _ hk]

theorem take_gone {w w3 : World} {b g cap : Nat} {B : Book} (hC : Chg [g] w w3) (h : BookAt w b B (.slice (some ⟨g, 0, none⟩) B.l.length cap)) {l : List Offer} (hrow : w3.ownsRow 0 57 7 (.slice (some ⟨g, 0, none⟩) l.length cap) l.length (l.flatMap Offer.enc)) (hgb : g ≠ b) :
    TakePost w b (.slice (some ⟨g, 0, none⟩) B.l.length cap) (0, ⟨l, B.next⟩) (.returned (.int .i64 0)) (w3.setCell ⟨b, 0, none⟩ (.slice (some ⟨g, 0, none⟩) l.length cap)) := by
  have hblk : w3.heap[b]? = _ := (hC.block b h.lt (by simp; omega)).trans h.blk
  have hC4 := (hC.mono (S' := [b, g]) (by simp)).trans (Chg.setCell (S := [b, g]) w3 b 0 (.slice (some ⟨g, 0, none⟩) l.length cap) (by simp)) (fun x hx _ => hx)
  refine ⟨rfl, [b, g], _, hC4, by simp [Value.ownBlock], heap_setCell_same hblk _, ?_⟩
  exact ownsRow_chg hrow (Chg.setCell (S := [b]) w3 b 0 (.slice (some ⟨g, 0, none⟩) l.length cap) (by simp)) (by simp [Value.ownBlock]; omega)

set_option maxHeartbeats 1000000 in
theorem booksTake_some {w : World} {b : Nat} {B : Book} {sl : Value} (h : BookAt w b B sl) (hm : B.l.length ≤ 4611686018427387904) (hn : 1 ≤ B.next) (s : Nat) (n : Int) (k : Nat) (hk : Book.at B.l s = k) (hkl : k < B.l.length) (hl0 : -9223372036854775808 ≤ (B.l[k]!).left) (hl1 : (B.l[k]!).left ≤ 9223372036854775807) :
    Calls Try.prog 20 #[.pointer (some ⟨b, 0, none⟩), .int .u64 s, .int .i64 n] w (TakePost w b sl (B.take s n)) := by
  have hb := h.lt
  have lt0_b : b < w.heap.size + 1 := (by omega); have lt1_b : b ≤ w.heap.size := (by omega); have lt2_b : b < w.heap.size + 2 := (by omega); have lt3_b : b < w.heap.size + 3 := (by omega); have lt4_b : b < w.heap.size + 4 := (by omega); have lt5_b : b < w.heap.size + 5 := (by omega)
  rcases h.cases with ⟨rfl, hl⟩ | ⟨g, cap, rfl, hg, hgb, hcap⟩
  · rw [hl] at hkl; simp at hkl
  have e0 : B.take s n = (if n < 1 ∨ (B.l[k]!).left < n then (1, B) else if (B.l[k]!).left = n then (0, ⟨B.l.eraseIdx k, B.next⟩) else (0, ⟨B.l.set k { (B.l[k]!) with left := (B.l[k]!).left - n }, B.next⟩)) := by
    unfold Book.take; rw [hk, if_neg (by omega)]; rfl
  rw [e0]; clear e0
  have hcell : Hid (∀ (W : World), Below w.heap.size w W → W.cell? ⟨g, k * 7 + 4, none⟩ = some (.int .i64 (B.l[k]!).left)) := fun W hW => by
      rw [hW.cell (p := ⟨g, k * 7 + 4, none⟩) hg]
      exact row_cell h.row hkl rfl
  have hgz := h.row
  generalize hy : (B.l[k]!).left = y at *
  have Hy := Lib.hid hy; clear hy
  by_cases h1 : n < 1
  · rw [if_pos (Or.inl h1)]
    go_enter Try.func20, Try.ntmps20
    go_wp2_with (first | (go_at_call 31; refine (booksThere_yes (n := B.next) (h.below (by repeat (first | with_reducible exact Below.refl _ _ | with_reducible assumption | refine Below.drew ?_ | refine Below.setCell ?_ (by first | exact Nat.le_refl _ | omega | (simp; done) | (simp; omega)) _ | refine Below.alloc ?_ (by first | exact Nat.le_refl _ | omega | (simp; done) | (simp; omega)) _ | refine Below.tr ?_ (Nat.le_refl _) (by assumption) | exact Below.refl _ _ | assumption))).c1 hn).mono ?_; rintro e w' ⟨rfl, rfl⟩) | (go_at_call 32; refine (booksAt (h.below (by repeat (first | with_reducible exact Below.refl _ _ | with_reducible assumption | refine Below.drew ?_ | refine Below.setCell ?_ (by first | exact Nat.le_refl _ | omega | (simp; done) | (simp; omega)) _ | refine Below.alloc ?_ (by first | exact Nat.le_refl _ | omega | (simp; done) | (simp; omega)) _ | refine Below.tr ?_ (Nat.le_refl _) (by assumption) | exact Below.refl _ _ | assumption))) hm s).mono ?_; rintro e w1 ⟨rfl, hb1⟩; rw [hk]; have c4 := hcell.out w1 hb1; have c0 := (h.below hb1).c0))
    go_ret
    exact ⟨rfl, [], _, Chg.of_below hb1, by simp, h.below hb1⟩
  · by_cases h2 : y < n
    · rw [if_pos (Or.inr h2)]
      go_enter Try.func20, Try.ntmps20
      go_wp2_with (first | (go_at_call 31; refine (booksThere_yes (n := B.next) (h.below (by repeat (first | with_reducible exact Below.refl _ _ | with_reducible assumption | refine Below.drew ?_ | refine Below.setCell ?_ (by first | exact Nat.le_refl _ | omega | (simp; done) | (simp; omega)) _ | refine Below.alloc ?_ (by first | exact Nat.le_refl _ | omega | (simp; done) | (simp; omega)) _ | refine Below.tr ?_ (Nat.le_refl _) (by assumption) | exact Below.refl _ _ | assumption))).c1 hn).mono ?_; rintro e w' ⟨rfl, rfl⟩) | (go_at_call 32; refine (booksAt (h.below (by repeat (first | with_reducible exact Below.refl _ _ | with_reducible assumption | refine Below.drew ?_ | refine Below.setCell ?_ (by first | exact Nat.le_refl _ | omega | (simp; done) | (simp; omega)) _ | refine Below.alloc ?_ (by first | exact Nat.le_refl _ | omega | (simp; done) | (simp; omega)) _ | refine Below.tr ?_ (Nat.le_refl _) (by assumption) | exact Below.refl _ _ | assumption))) hm s).mono ?_; rintro e w1 ⟨rfl, hb1⟩; rw [hk]; have c4 := hcell.out w1 hb1; have c0 := (h.below hb1).c0))
      go_ret
      exact ⟨rfl, [], _, Chg.of_below hb1, by simp, h.below hb1⟩
    · rw [if_neg (by omega)]
      by_cases h3 : y = n
      · rw [if_pos h3]
        subst h3
        have hf : Hid (∀ (W : World), Below w.heap.size w W → ∀ o, W.frozen? ⟨g, o, none⟩ = false) := fun W hW o => by
          rcases h.row.2 with ⟨e, _⟩ | ⟨g', cap', cur, e, _, hgg, _⟩
          · cases e
          · cases e
            rw [hW.frozen (p := ⟨g, o, none⟩) hg]
            simp [World.frozen?, hgg]
        have hdel : Hid (∀ W, BookAt W b B (.slice (some ⟨g, 0, none⟩) B.l.length cap) → Calls Try.prog 44 #[.slice (some ⟨g, 0, none⟩) B.l.length cap, .int .i64 k, .int .i64 (k + 1)] (W.setCell ⟨g, k * 7 + 4, none⟩ (.int .i64 0)) (DelPost (W.setCell ⟨g, k * 7 + 4, none⟩ (.int .i64 0)) g cap 0 (B.l.eraseIdx k))) := fun W hW => by
          have h2 := (hW.setLeft hkl 0).row
          have h3 := delete_at (l := B.l.set k { (B.l[k]!) with left := 0 }) (by simpa using h2) k (by simpa using hkl)
          rw [List.length_set, List.eraseIdx_set_eq] at h3
          exact h3
        have hgne : ¬ (b = g) := fun e => hgb e.symm
        go_enter Try.func20, Try.ntmps20
        go_wp2_with (first | (go_at_call 31; refine (booksThere_yes (n := B.next) (h.below (by repeat (first | with_reducible exact Below.refl _ _ | with_reducible assumption | refine Below.drew ?_ | refine Below.setCell ?_ (by first | exact Nat.le_refl _ | omega | (simp; done) | (simp; omega)) _ | refine Below.alloc ?_ (by first | exact Nat.le_refl _ | omega | (simp; done) | (simp; omega)) _ | refine Below.tr ?_ (Nat.le_refl _) (by assumption) | exact Below.refl _ _ | assumption))).c1 hn).mono ?_; rintro e w' ⟨rfl, rfl⟩) | (go_at_call 32; refine (booksAt (h.below (by repeat (first | with_reducible exact Below.refl _ _ | with_reducible assumption | refine Below.drew ?_ | refine Below.setCell ?_ (by first | exact Nat.le_refl _ | omega | (simp; done) | (simp; omega)) _ | refine Below.alloc ?_ (by first | exact Nat.le_refl _ | omega | (simp; done) | (simp; omega)) _ | refine Below.tr ?_ (Nat.le_refl _) (by assumption) | exact Below.refl _ _ | assumption))) hm s).mono ?_; rintro e w1 ⟨rfl, hb1⟩; rw [hk]; have c4 := hcell.out w1 hb1; have hW1 := h.below hb1; have c0 := hW1.c0; have hfz := hf.out w1 hb1; have hg1 := Nat.lt_of_lt_of_le hg hb1.size; have hb2 := Nat.lt_of_lt_of_le hb hb1.size) | (go_at_call 44; refine (hdel.out w1 hW1).mono ?_; rintro e w3 ⟨rfl, hC3, hrow3⟩; have hC4 : Chg [g] w1 w3 := (Chg.setCell (S := [g]) w1 g (k * 7 + 4) (.int .i64 0) (by simp)).trans hC3 (fun x hx _ => hx); have hblk3 : w3.heap[b]? = _ := (hC4.block b hb2 (by simp; omega)).trans hW1.blk; have k0 : w3.cell? ⟨b, 0, none⟩ = some (.slice (some ⟨g, 0, none⟩) B.l.length cap) := (by simp [World.cell?, hblk3]); have kf : ∀ o, w3.frozen? ⟨b, o, none⟩ = false := (by intro o; simp [World.frozen?, hblk3])))
        go_ret
        have hC5 := (Chg.of_below (S := [g]) hb1).trans hC4 (fun x hx _ => hx)
        exact take_gone hC5 h hrow3 hgb
      · rw [if_neg h3]
        have hf : Hid (∀ (W : World), Below w.heap.size w W → ∀ o, W.frozen? ⟨g, o, none⟩ = false) := fun W hW o => by
          rcases h.row.2 with ⟨e, _⟩ | ⟨g', cap', cur, e, _, hgg, _⟩
          · cases e
          · cases e
            rw [hW.frozen (p := ⟨g, o, none⟩) hg]
            simp [World.frozen?, hgg]
        have h4 : ((y - n : Int) == 0) = false := by simp; omega
        go_enter Try.func20, Try.ntmps20
        go_wp2_with (first | (go_at_call 31; refine (booksThere_yes (n := B.next) (h.below (by repeat (first | with_reducible exact Below.refl _ _ | with_reducible assumption | refine Below.drew ?_ | refine Below.setCell ?_ (by first | exact Nat.le_refl _ | omega | (simp; done) | (simp; omega)) _ | refine Below.alloc ?_ (by first | exact Nat.le_refl _ | omega | (simp; done) | (simp; omega)) _ | refine Below.tr ?_ (Nat.le_refl _) (by assumption) | exact Below.refl _ _ | assumption))).c1 hn).mono ?_; rintro e w' ⟨rfl, rfl⟩) | (go_at_call 32; refine (booksAt (h.below (by repeat (first | with_reducible exact Below.refl _ _ | with_reducible assumption | refine Below.drew ?_ | refine Below.setCell ?_ (by first | exact Nat.le_refl _ | omega | (simp; done) | (simp; omega)) _ | refine Below.alloc ?_ (by first | exact Nat.le_refl _ | omega | (simp; done) | (simp; omega)) _ | refine Below.tr ?_ (Nat.le_refl _) (by assumption) | exact Below.refl _ _ | assumption))) hm s).mono ?_; rintro e w1 ⟨rfl, hb1⟩; rw [hk]; have c4 := hcell.out w1 hb1; have c0 := (h.below hb1).c0; have hfz := hf.out w1 hb1; have hg1 := Nat.lt_of_lt_of_le hg hb1.size; have hb2 := Nat.lt_of_lt_of_le hb hb1.size))
        go_ret
        have hy2 := Hy.out
        have h6 := (h.below hb1).setLeft hkl (y - n)
        exact ⟨rfl, [g], _, (Chg.of_below hb1).trans (Chg.setCell (S := [g]) w1 g (k * 7 + 4) (.int .i64 (y - n)) (by simp)) (fun x hx _ => hx), by simp [Value.ownBlock], h6⟩

theorem booksTake_no {w : World} {q : Option Addr} (h : NoBook w q) (s : Nat) (n : Int) :
    Calls Try.prog 20 #[.pointer q, .int .u64 s, .int .i64 n] w fun e w' => e = .returned (.int .i64 2) ∧ w = w' := by
  go_enter Try.func20, Try.ntmps20
  go_wp2_with (go_at_call 31; refine (booksThere_no h).mono ?_; rintro e w' ⟨rfl, rfl⟩)
  go_ret
  exact ⟨rfl, rfl⟩

/-- less is left of an offer: whatever book -/
theorem booksTake {w : World} {b : Nat} {B : Book} {sl : Value} (h : BookAt w b B sl) (hm : B.l.length ≤ 4611686018427387904) (hn : 1 ≤ B.next) (s : Nat) (n : Int) (hL : ∀ k, k < B.l.length → 0 ≤ (B.l[k]!).left ∧ (B.l[k]!).left ≤ 9223372036854775807) :
    Calls Try.prog 20 #[.pointer (some ⟨b, 0, none⟩), .int .u64 s, .int .i64 n] w (TakePost w b sl (B.take s n)) := by
  by_cases hp : 0 ≤ Book.at B.l s
  · obtain ⟨k, hk, hkl⟩ := at_range hp
    have := hL k hkl
    exact booksTake_some h hm hn s n k hk hkl (by omega) (by omega)
  · exact booksTake_none h hm hn s n (by omega)

end Go.Proofs.Ytelcdiceongfdaa
