/-
  Walks of the layer books, second part: where an offer is, one that is found.
  Walks of the layer books, third part: where an offer is, one that is found, in a book.
-/
import Derived.Test.YtelcdiceongfdaaBook
import Derived.Deep.LoopGhost
import Derived.Laws.Cells
section
namespace Go.Proofs.Ytelcdiceongfdaa
open Go.RowKit Go.BigFrame
set_option maxRecDepth 100000

theorem enc_len (o : Offer) : o.enc.length = 7 := rfl
theorem flat_len (l : List Offer) : (l.flatMap Offer.enc).length = l.length * 7 := by
  induction l with
  | nil => rfl
  | cons o l ih => rw [List.flatMap_cons, List.length_append, ih, enc_len, List.length_cons]; omega
theorem flat_get : ∀ (l : List Offer) (j i : Nat), j < l.length → i < 7 → (l.flatMap Offer.enc)[j * 7 + i]? = (l[j]!).enc[i]?
  | [], j, i, hj, _ => absurd hj (by simp)
  | o :: l, 0, i, _, hi => by
    rw [List.flatMap_cons, List.getElem?_append_left (by rw [enc_len]; omega)]
    simp
  | o :: l, j + 1, i, hj, hi => by
    rw [List.flatMap_cons, List.getElem?_append_right (by rw [enc_len]; omega), enc_len, show (j + 1) * 7 + i - 7 = j * 7 + i by omega, flat_get l j i (by simpa using hj) hi]
    rfl

theorem row_cell {w : World} {base : Nat} {g cap n : Nat} {l : List Offer} (h : w.ownsRow base 57 7 (.slice (some ⟨g, 0, none⟩) n cap) l.length (l.flatMap Offer.enc)) {j : Nat} (hj : j < l.length) {i : Nat} {v : Value} (hv : (l[j]!).enc[i]? = some v) :
    w.cell? ⟨g, j * 7 + i, none⟩ = some v := by
  have hi : i < 7 := by
    rcases Nat.lt_or_ge i 7 with h | h
    · exact h
    · rw [List.getElem?_eq_none (by rw [enc_len]; exact h)] at hv; cases hv
  have h1 : (l.flatMap Offer.enc)[j * 7 + i]? = some v := (flat_get l j i hj hi).trans hv
  have := h.cells (g := g) rfl (j * 7 + i) v h1
  rwa [Addr.add_lit, Nat.zero_add] at this

def Book.at (l : List Offer) (s : Nat) : Int := if l.findIdx (fun o => decide (o.seq = s)) < l.length then (l.findIdx (fun o => decide (o.seq = s)) : Nat) else -1
theorem at_hit {l : List Offer} {s k : Nat} (hk : k < l.length) (h : (l[k]!).seq = s) (hn : ∀ j, j < k → (l[j]!).seq ≠ s) : Book.at l s = k := by
  have e : l.findIdx (fun o => decide (o.seq = s)) = k := (List.findIdx_eq hk).2 ⟨by rw [getElem!_pos l k hk] at h; simpa using h, fun j hj => by have := hn j hj; rw [getElem!_pos l j (by omega)] at this; simpa using this⟩
  unfold Book.at
  rw [e, if_pos hk]
theorem at_miss {l : List Offer} {s : Nat} (hn : ∀ j, j < l.length → (l[j]!).seq ≠ s) : Book.at l s = -1 := by
  have e : l.findIdx (fun o => decide (o.seq = s)) = l.length := List.findIdx_eq_length.2 fun x hx => by
    obtain ⟨j, hj, rfl⟩ := List.mem_iff_getElem.1 hx
    have := hn j hj; rw [getElem!_pos l j hj] at this; simpa using this
  unfold Book.at
  rw [e, if_neg (Nat.lt_irrefl _)]

theorem bookAtSeq (o : Offer) (s B : Nat) (W : World) (hc : W.cell? ⟨B, 0, none⟩ = some (.int .u64 s)) (hB : B < W.heap.size) :
    Calls Try.prog 50 #[o.val, .pointer (some ⟨B, 0, none⟩)] W (BoolB W (decide (o.seq = s))) := by
  obtain ⟨seq, p, sl, y, left, a, d⟩ := o
  show Calls Try.prog 50 #[.agg #[.int .u64 seq, .int .u8 p, .int .u8 sl, .int .u8 y, .int .i64 left, .int .i64 a, .int .i64 d], .pointer (some ⟨B, 0, none⟩)] W _
  go_enter Try.func50, Try.ntmps50
  go_wp2
  go_ret
  exact ⟨ret_bool (by by_cases e : seq = s <;> simp [e] <;> omega), (by repeat (first | with_reducible exact Below.refl _ _ | with_reducible assumption | refine Below.drew ?_ | refine Below.setCell ?_ (by first | exact Nat.le_refl _ | omega | (simp; done) | (simp; omega)) _ | refine Below.alloc ?_ (by first | exact Nat.le_refl _ | omega | (simp; done) | (simp; omega)) _ | refine Below.tr ?_ (Nat.le_refl _) (by assumption) | exact Below.refl _ _ | assumption))⟩

theorem index_nil (_s B : Nat) (w : World) :
    Calls Try.prog 49 #[.slice none 0 0, .func (.func 50) #[] #[.pointer (some ⟨B, 0, none⟩)]] w fun e w' => e = .returned (.int .i64 (-1)) ∧ Below w.heap.size w w' := by
  go_enter Try.func49, Try.ntmps49
  go_wp2
  go_loopg [5, 8] 0 (fun gg _ s8 wr => s8 = .int .i64 0 ∧ Aside (Below w.heap.size w wr))
  case atStart => exact ⟨rfl, Below.refl _ w⟩
  case round =>
    obtain ⟨rfl, BW⟩ := hrel
    go_wp2
    go_ret
    exact ⟨rfl, BW.out⟩

set_option maxHeartbeats 1000000 in
theorem index_row {w : World} {base : Nat} {g cap n : Nat} {l : List Offer} (h : w.ownsRow base 57 7 (.slice (some ⟨g, 0, none⟩) n cap) l.length (l.flatMap Offer.enc)) (hg : g < w.heap.size) (_hn : n = l.length) (hm : l.length ≤ 4611686018427387904) (s B : Nat) (hc : w.cell? ⟨B, 0, none⟩ = some (.int .u64 s)) :
    Calls Try.prog 49 #[.slice (some ⟨g, 0, none⟩) l.length cap, .func (.func 50) #[] #[.pointer (some ⟨B, 0, none⟩)]] w fun e w' => e = .returned (.int .i64 (Book.at l s)) ∧ Below w.heap.size w w' := by
  have hB := lt_of_cell hc
  have hrow : Hid (∀ (W : World), Below w.heap.size w W → ∀ j, j < l.length → ∀ i v, (l[j]!).enc[i]? = some v → W.cell? ⟨g, j * 7 + i, none⟩ = some v) := fun W hW j hj i v hi => by
    rw [hW.cell (p := ⟨g, j * 7 + i, none⟩) hg]
    exact row_cell h hj hi
  have hcl : Hid (∀ (W : World) (o : Offer), Below w.heap.size w W → Calls Try.prog 50 #[o.val, .pointer (some ⟨B, 0, none⟩)] W fun e w' => e = .returned (.bool (decide (o.seq = s))) ∧ Below w.heap.size w w') := fun W o hW =>
    (bookAtSeq o s B W ((hW.cell (p := ⟨B, 0, none⟩) hB).trans hc) (Nat.lt_of_lt_of_le hB hW.size)).mono fun e w' ⟨he, hb⟩ => ⟨he, Below.tr hW (Nat.le_refl _) hb⟩
  clear h hc _hn
  go_enter Try.func49, Try.ntmps49
  go_wp2
  go_loopg [5, 8] l.length (fun gg _ s8 wr => ∃ kk : Nat, kk ≤ l.length ∧ l.length - kk ≤ gg ∧ s8 = .int .i64 kk ∧ Aside (Below w.heap.size w wr) ∧ Aside (∀ j, j < kk → (l[j]!).seq ≠ s))
  case atStart => exact ⟨0, Nat.zero_le _, by omega, rfl, Below.refl _ w, fun j hj => absurd hj (Nat.not_lt_zero _)⟩
  case round =>
    obtain ⟨kk, hkk, hgg, rfl, BW, A⟩ := hrel
    by_cases hlt : kk < l.length
    · have hltz : (kk : Int) < (l.length : Int) := by omega
      have l2 := hrow.out wr BW.out kk hlt
      have hcall := hcl.out wr (l[kk]!) BW.out
      generalize hy : l[kk]! = y at l2 hcall
      have hy' : Aside (l[kk]! = y) := hy
      clear hy
      obtain ⟨sq, p, sl, yy, left, a, d⟩ := y
      have c0 := l2 0 _ rfl
      have c1 := l2 1 _ rfl
      have c2 := l2 2 _ rfl
      have c3 := l2 3 _ rfl
      have c4 := l2 4 _ rfl
      have c5 := l2 5 _ rfl
      have c6 := l2 6 _ rfl
      clear l2
      dsimp only [Nat.add_zero] at c0 c1 c2 c3 c4 c5 c6
      change Calls Try.prog 50 #[.agg #[.int .u64 sq, .int .u8 p, .int .u8 sl, .int .u8 yy, .int .i64 left, .int .i64 a, .int .i64 d], .pointer (some ⟨B, 0, none⟩)] wr _ at hcall
      dsimp only at hcall
      by_cases hq : sq = s
      · rw [decide_eq_true hq] at hcall
        subst hq
        go_wp2_with (go_at_call 50; refine hcall.mono ?_; rintro e w' ⟨rfl, hb'⟩)
        go_ret
        exact ⟨by rw [at_hit hlt (by rw [hy'.out]) A.out]; rfl, hb'⟩
      · rw [decide_eq_false hq] at hcall
        go_wp2_with (go_at_call 50; refine hcall.mono ?_; rintro e w' ⟨rfl, hb'⟩)
        go_roundg (l.length - (kk + 1))
        case measure => omega
        case rel =>
          refine ⟨kk + 1, by omega, by omega, by go_num, hb', (show Aside _ from fun j hj => ?_)⟩
          by_cases e : j = kk
          · subst e
            rw [hy'.out]; exact hq
          · exact A.out j (by omega)
    · have hltz : ¬ (kk : Int) < (l.length : Int) := by omega
      have : kk = l.length := by omega
      subst this
      go_wp2
      go_ret
      exact ⟨by rw [at_miss A.out]; rfl, BW.out⟩

end Go.Proofs.Ytelcdiceongfdaa
end
section
namespace Go.Proofs.Ytelcdiceongfdaa
open Go.RowKit Go.BigFrame
set_option maxRecDepth 100000

theorem BookAt.lt {w : World} {b : Nat} {B : Book} {sl : Value} (h : BookAt w b B sl) : b < w.heap.size := lt_of_block h.blk
theorem BookAt.c0 {w : World} {b : Nat} {B : Book} {sl : Value} (h : BookAt w b B sl) : w.cell? ⟨b, 0, none⟩ = some sl := by simp [World.cell?, h.blk]
theorem BookAt.c1 {w : World} {b : Nat} {B : Book} {sl : Value} (h : BookAt w b B sl) : w.cell? ⟨b, 1, none⟩ = some (.int .u64 B.next) := by simp [World.cell?, h.blk]
/-- a book's offers: nothing, or a row in memory -/
theorem BookAt.cases {w : World} {b : Nat} {B : Book} {sl : Value} (h : BookAt w b B sl) : (sl = .slice none 0 0 ∧ B.l = []) ∨ ∃ g cap, sl = .slice (some ⟨g, 0, none⟩) B.l.length cap ∧ g < w.heap.size ∧ g ≠ b ∧ B.l.length ≤ cap := by
  rcases h.row.2 with ⟨e, hn⟩ | ⟨g, cap, cur, e, _, hg, hc, _⟩
  · exact .inl ⟨e, List.eq_nil_of_length_eq_zero hn⟩
  · refine .inr ⟨g, cap, e, lt_of_block hg, fun eb => ?_, hc⟩
    subst eb
    rw [h.blk] at hg
    simp at hg
theorem ownsRow_chg {S : List Nat} {w w' : World} {base : Nat} {e : TypeId} {size : Nat} {v : Value} {n : Nat} {xs : List Value} (h : w.ownsRow base e size v n xs) (hc : Chg S w w') (hn : ∀ k, v.ownBlock = some k → k ∉ S) : w'.ownsRow base e size v n xs := by
  refine ⟨h.1, ?_⟩
  rcases h.2 with h0 | ⟨g, cap, cur, e1, e2, hg, e3⟩
  · exact .inl h0
  · refine .inr ⟨g, cap, cur, e1, e2, ?_, e3⟩
    rw [hc.block g (lt_of_block hg) (hn g (by rw [e1]; rfl))]; exact hg
theorem BookAt.chg {S : List Nat} {w w' : World} {b : Nat} {B : Book} {sl : Value} (h : BookAt w b B sl) (hc : Chg S w w') (hb : b ∉ S) (hn : ∀ k, sl.ownBlock = some k → k ∉ S) : BookAt w' b B sl :=
  ⟨(hc.block b h.lt hb).trans h.blk, ownsRow_chg h.row hc hn⟩
theorem BookAt.below {w w' : World} {b : Nat} {B : Book} {sl : Value} (h : BookAt w b B sl) (hc : Below w.heap.size w w') : BookAt w' b B sl := h.chg (Chg.of_below (S := []) hc) (by simp) (by simp)

def AtPost (w : World) (r : Int) (e : Ending) (w' : World) : Prop := e = .returned (.int .i64 r) ∧ Below w.heap.size w w'
theorem booksAt {w : World} {b : Nat} {B : Book} {sl : Value} (h : BookAt w b B sl) (hm : B.l.length ≤ 4611686018427387904) (s : Nat) :
    Calls Try.prog 32 #[.pointer (some ⟨b, 0, none⟩), .int .u64 s] w (AtPost w (Book.at B.l s)) := by
  have hc0 := h.c0
  have hb := h.lt
  have lt0_b : b < w.heap.size + 1 := (by omega); have lt1_b : b ≤ w.heap.size := (by omega); have lt2_b : b < w.heap.size + 2 := (by omega); have lt3_b : b < w.heap.size + 3 := (by omega); have lt4_b : b < w.heap.size + 4 := (by omega); have lt5_b : b < w.heap.size + 5 := (by omega)
  rcases h.cases with ⟨rfl, hl⟩ | ⟨g, cap, rfl, hg, hgb, hcap⟩
  · have e : Book.at B.l s = -1 := by rw [hl]; rfl
    rw [e]; clear e
    go_enter Try.func32, Try.ntmps32
    go_wp2_with (go_at_call 49; refine (index_nil s _ _).mono ?_; rintro e w1 ⟨rfl, hb1⟩)
    go_ret
    exact ⟨rfl, (by repeat (first | with_reducible exact Below.refl _ _ | with_reducible assumption | refine Below.drew ?_ | refine Below.setCell ?_ (by first | exact Nat.le_refl _ | omega | (simp; done) | (simp; omega)) _ | refine Below.alloc ?_ (by first | exact Nat.le_refl _ | omega | (simp; done) | (simp; omega)) _ | refine Below.tr ?_ (Nat.le_refl _) (by assumption) | exact Below.refl _ _ | assumption))⟩
  · have hrow := h.row
    go_enter Try.func32, Try.ntmps32
    go_wp2_with (go_at_call 49; refine (index_row (base := 0) (n := B.l.length) ((h.below (by repeat (first | with_reducible exact Below.refl _ _ | with_reducible assumption | refine Below.drew ?_ | refine Below.setCell ?_ (by first | exact Nat.le_refl _ | omega | (simp; done) | (simp; omega)) _ | refine Below.alloc ?_ (by first | exact Nat.le_refl _ | omega | (simp; done) | (simp; omega)) _ | refine Below.tr ?_ (Nat.le_refl _) (by assumption) | exact Below.refl _ _ | assumption))).row) (by simp; omega) rfl hm s w.heap.size (by simp)).mono ?_; rintro e w1 ⟨rfl, hb1⟩)
    go_ret
    exact ⟨rfl, (by repeat (first | with_reducible exact Below.refl _ _ | with_reducible assumption | refine Below.drew ?_ | refine Below.setCell ?_ (by first | exact Nat.le_refl _ | omega | (simp; done) | (simp; omega)) _ | refine Below.alloc ?_ (by first | exact Nat.le_refl _ | omega | (simp; done) | (simp; omega)) _ | refine Below.tr ?_ (Nat.le_refl _) (by assumption) | exact Below.refl _ _ | assumption))⟩

def Offer.zero : Offer := ⟨0, 0, 0, 0, 0, 0, 0⟩
def Book.has (l : List Offer) (s : Nat) : Bool := decide (0 ≤ Book.at l s)
def Book.findD (l : List Offer) (s : Nat) : Offer := if 0 ≤ Book.at l s then l[(Book.at l s).toNat]! else Offer.zero
theorem at_range {l : List Offer} {s : Nat} (h : 0 ≤ Book.at l s) : ∃ k : Nat, Book.at l s = k ∧ k < l.length := by
  unfold Book.at at *
  split at h
  · rename_i h1
    rw [if_pos h1]
    exact ⟨_, rfl, h1⟩
  · omega
theorem at_neg {l : List Offer} {s : Nat} (h : ¬ 0 ≤ Book.at l s) : Book.at l s = -1 := by
  unfold Book.at at *
  split at h
  · omega
  · rename_i h1; rw [if_neg h1]
def FindPost (w : World) (o : Offer) (is : Bool) (e : Ending) (w' : World) : Prop := e = .returned (.tuple #[o.val, .bool is]) ∧ Below w.heap.size w w'
theorem booksFind_no {w : World} {q : Option Addr} (h : NoBook w q) (s : Nat) :
    Calls Try.prog 12 #[.pointer q, .int .u64 s] w (FindPost w .zero false) := by
  have h' : NoBook (w.alloc (.cells #[.int .u64 0, .int .u8 0, .int .u8 0, .int .u8 0, .int .i64 0, .int .i64 0, .int .i64 0] 57)) q := by
    rcases h with h | ⟨b, e, hc⟩
    · exact .inl h
    · have hB : Below w.heap.size w (w.alloc (.cells #[.int .u64 0, .int .u8 0, .int .u8 0, .int .u8 0, .int .i64 0, .int .i64 0, .int .i64 0] 57)) := (by repeat (first | with_reducible exact Below.refl _ _ | with_reducible assumption | refine Below.drew ?_ | refine Below.setCell ?_ (by first | exact Nat.le_refl _ | omega | (simp; done) | (simp; omega)) _ | refine Below.alloc ?_ (by first | exact Nat.le_refl _ | omega | (simp; done) | (simp; omega)) _ | refine Below.tr ?_ (Nat.le_refl _) (by assumption) | exact Below.refl _ _ | assumption))
      exact .inr ⟨b, e, (hB.cell (p := ⟨b, 1, none⟩) (lt_of_cell hc)).trans hc⟩
  go_enter Try.func12, Try.ntmps12
  go_wp2_with (go_at_call 31; refine (booksThere_no h').mono ?_; rintro e w' ⟨rfl, rfl⟩)
  refine bodyPost_ret (v := .tuple #[Offer.zero.val, .bool false]) (by simp [results, Try.results12, go_sem]; rfl) rfl ⟨rfl, (by repeat (first | with_reducible exact Below.refl _ _ | with_reducible assumption | refine Below.drew ?_ | refine Below.setCell ?_ (by first | exact Nat.le_refl _ | omega | (simp; done) | (simp; omega)) _ | refine Below.alloc ?_ (by first | exact Nat.le_refl _ | omega | (simp; done) | (simp; omega)) _ | refine Below.tr ?_ (Nat.le_refl _) (by assumption) | exact Below.refl _ _ | assumption))⟩

theorem zeroes {w w1 : World} (hb : Below (w.alloc (.cells #[.int .u64 0, .int .u8 0, .int .u8 0, .int .u8 0, .int .i64 0, .int .i64 0, .int .i64 0] 57)).heap.size (w.alloc (.cells #[.int .u64 0, .int .u8 0, .int .u8 0, .int .u8 0, .int .i64 0, .int .i64 0, .int .i64 0] 57)) w1) :
    w1.cell? ⟨w.heap.size, 0, none⟩ = some (.int .u64 0) ∧ w1.cell? ⟨w.heap.size, 1, none⟩ = some (.int .u8 0) ∧ w1.cell? ⟨w.heap.size, 2, none⟩ = some (.int .u8 0) ∧ w1.cell? ⟨w.heap.size, 3, none⟩ = some (.int .u8 0) ∧ w1.cell? ⟨w.heap.size, 4, none⟩ = some (.int .i64 0) ∧ w1.cell? ⟨w.heap.size, 5, none⟩ = some (.int .i64 0) ∧ w1.cell? ⟨w.heap.size, 6, none⟩ = some (.int .i64 0) ∧ ∀ i, w1.frozen? ⟨w.heap.size, i, none⟩ = false :=
  have h := fun i => (hb.cell (p := ⟨w.heap.size, i, none⟩) (by simp)).trans (World.cell?_alloc_new w _ _ i)
  ⟨h 0, h 1, h 2, h 3, h 4, h 5, h 6, fun i => (hb.frozen (p := ⟨w.heap.size, i, none⟩) (by simp)).trans (World.frozen?_alloc_new w _ _ i)⟩

set_option maxHeartbeats 2000000 in
theorem booksFind {w : World} {b : Nat} {B : Book} {sl : Value} (h : BookAt w b B sl) (hm : B.l.length ≤ 4611686018427387904) (hn : 1 ≤ B.next) (s : Nat) :
    Calls Try.prog 12 #[.pointer (some ⟨b, 0, none⟩), .int .u64 s] w (FindPost w (Book.findD B.l s) (Book.has B.l s)) := by
  have hb := h.lt
  have lt0_b : b < w.heap.size + 1 := (by omega); have lt1_b : b ≤ w.heap.size := (by omega); have lt2_b : b < w.heap.size + 2 := (by omega); have lt3_b : b < w.heap.size + 3 := (by omega); have lt4_b : b < w.heap.size + 4 := (by omega); have lt5_b : b < w.heap.size + 5 := (by omega)
  by_cases hp : 0 ≤ Book.at B.l s
  · obtain ⟨k, hk, hkl⟩ := at_range hp
    have e1 : Book.has B.l s = true := decide_eq_true hp
    have e2 : Book.findD B.l s = B.l[k]! := by unfold Book.findD; rw [if_pos hp, hk]; rfl
    rw [e1, e2]; clear e1 e2 hp
    rcases h.cases with ⟨rfl, hl⟩ | ⟨g, cap, rfl, hg, hgb, hcap⟩
    · rw [hl] at hkl; simp at hkl
    have hcell : Hid (∀ (W : World), Below w.heap.size w W → ∀ i v, (B.l[k]!).enc[i]? = some v → W.cell? ⟨g, k * 7 + i, none⟩ = some v) := fun W hW i v hi => by
      rw [hW.cell (p := ⟨g, k * 7 + i, none⟩) hg]
      exact row_cell h.row hkl hi
    generalize hy : B.l[k]! = y at hcell
    clear hy
    obtain ⟨sq, p, sl, yy, left, a, d⟩ := y
    go_enter Try.func12, Try.ntmps12
    go_wp2_with (first | (go_at_call 31; refine (booksThere_yes (n := B.next) (h.below (by repeat (first | with_reducible exact Below.refl _ _ | with_reducible assumption | refine Below.drew ?_ | refine Below.setCell ?_ (by first | exact Nat.le_refl _ | omega | (simp; done) | (simp; omega)) _ | refine Below.alloc ?_ (by first | exact Nat.le_refl _ | omega | (simp; done) | (simp; omega)) _ | refine Below.tr ?_ (Nat.le_refl _) (by assumption) | exact Below.refl _ _ | assumption))).c1 hn).mono ?_; rintro e w' ⟨rfl, rfl⟩) | (go_at_call 32; refine (booksAt (h.below (by repeat (first | with_reducible exact Below.refl _ _ | with_reducible assumption | refine Below.drew ?_ | refine Below.setCell ?_ (by first | exact Nat.le_refl _ | omega | (simp; done) | (simp; omega)) _ | refine Below.alloc ?_ (by first | exact Nat.le_refl _ | omega | (simp; done) | (simp; omega)) _ | refine Below.tr ?_ (Nat.le_refl _) (by assumption) | exact Below.refl _ _ | assumption))) hm s).mono ?_; rintro e w1 ⟨rfl, hb1⟩; rw [hk]; have hB : Below w.heap.size w w1 := (by repeat (first | with_reducible exact Below.refl _ _ | with_reducible assumption | refine Below.drew ?_ | refine Below.setCell ?_ (by first | exact Nat.le_refl _ | omega | (simp; done) | (simp; omega)) _ | refine Below.alloc ?_ (by first | exact Nat.le_refl _ | omega | (simp; done) | (simp; omega)) _ | refine Below.tr ?_ (Nat.le_refl _) (by assumption) | exact Below.refl _ _ | assumption)); have c0 := hcell.out w1 hB 0 _ rfl; have c1 := hcell.out w1 hB 1 _ rfl; have c2 := hcell.out w1 hB 2 _ rfl; have c3 := hcell.out w1 hB 3 _ rfl; have c4 := hcell.out w1 hB 4 _ rfl; have c5 := hcell.out w1 hB 5 _ rfl; have c6 := hcell.out w1 hB 6 _ rfl; have h0 := (h.below hB).c0; dsimp only [Nat.add_zero] at c0 c1 c2 c3 c4 c5 c6; have hz := hB.size; have hz1 : w.heap.size < w1.heap.size := (by have := hb1.size; simp at this; omega); obtain ⟨z0, z1, z2, z3, z4, z5, z6, hfz⟩ := zeroes hb1))
    refine bodyPost_ret (v := .tuple #[.agg #[.int .u64 sq, .int .u8 p, .int .u8 sl, .int .u8 yy, .int .i64 left, .int .i64 a, .int .i64 d], .bool true]) ?_ rfl ?_
    · simp [results, Try.results12, go_sem, z0, z1, z2, z3, z4, z5, z6]
    · refine ⟨rfl, ?_⟩
      iterate 7 refine Below.setCell ?_ (by exact Nat.le_refl _) _
      exact hB
  · have hk : Book.at B.l s = -1 := at_neg hp
    have e1 : Book.has B.l s = false := decide_eq_false hp
    have e2 : Book.findD B.l s = .zero := by unfold Book.findD; rw [if_neg hp]
    rw [e1, e2]; clear e1 e2 hp
    go_enter Try.func12, Try.ntmps12
    go_wp2_with (first | (go_at_call 31; refine (booksThere_yes (n := B.next) (h.below (by repeat (first | with_reducible exact Below.refl _ _ | with_reducible assumption | refine Below.drew ?_ | refine Below.setCell ?_ (by first | exact Nat.le_refl _ | omega | (simp; done) | (simp; omega)) _ | refine Below.alloc ?_ (by first | exact Nat.le_refl _ | omega | (simp; done) | (simp; omega)) _ | refine Below.tr ?_ (Nat.le_refl _) (by assumption) | exact Below.refl _ _ | assumption))).c1 hn).mono ?_; rintro e w' ⟨rfl, rfl⟩) | (go_at_call 32; refine (booksAt (h.below (by repeat (first | with_reducible exact Below.refl _ _ | with_reducible assumption | refine Below.drew ?_ | refine Below.setCell ?_ (by first | exact Nat.le_refl _ | omega | (simp; done) | (simp; omega)) _ | refine Below.alloc ?_ (by first | exact Nat.le_refl _ | omega | (simp; done) | (simp; omega)) _ | refine Below.tr ?_ (Nat.le_refl _) (by assumption) | exact Below.refl _ _ | assumption))) hm s).mono ?_; rintro e w1 ⟨rfl, hb1⟩; rw [hk]; have hB : Below w.heap.size w w1 := (by repeat (first | with_reducible exact Below.refl _ _ | with_reducible assumption | refine Below.drew ?_ | refine Below.setCell ?_ (by first | exact Nat.le_refl _ | omega | (simp; done) | (simp; omega)) _ | refine Below.alloc ?_ (by first | exact Nat.le_refl _ | omega | (simp; done) | (simp; omega)) _ | refine Below.tr ?_ (Nat.le_refl _) (by assumption) | exact Below.refl _ _ | assumption)); have hz := hB.size; have hz1 : w.heap.size < w1.heap.size := (by have := hb1.size; simp at this; omega); obtain ⟨z0, z1, z2, z3, z4, z5, z6, hfz⟩ := zeroes hb1))
    refine bodyPost_ret (v := .tuple #[Offer.zero.val, .bool false]) ?_ rfl ?_
    · simp [results, Try.results12, go_sem, z0, z1, z2, z3, z4, z5, z6]; rfl
    · refine ⟨rfl, ?_⟩
      iterate 7 refine Below.setCell ?_ (by exact Nat.le_refl _) _
      exact hB

end Go.Proofs.Ytelcdiceongfdaa
end
