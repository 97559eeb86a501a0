/- Walks of the layer ledgers, second part: what turns a ledger in memory, and its copy. -/
import Derived.Test.YtelcdiceongfdaaLedger
namespace Go.Proofs.Ytelcdiceongfdaa
open Go.RowKit Go.BigFrame
set_option maxRecDepth 100000

@[go_sem] theorem field_owed1 (x y : Value) (w : World) : (Instr.field 89 (.agg #[x, y]) 1).run Try.prog w = .ok y w := by kernel_rfl

def AddPost (w : World) (b m : Nat) (A : Ledger) (e : Ending) (w' : World) : Prop := e = .returned (.tuple #[]) ∧ Chg [m] w w' ∧ LedgerAt w' b m A

theorem ledgerAt_of {w w' : World} {b m : Nat} {A B : Ledger} (h : LedgerAt w b m A) (hc : Chg [m] w w') (hM : MapAt w' m B) (hh : A.has = B.has) (wf : B.WF) : LedgerAt w' b m B := by
  refine ⟨?_, hM, wf⟩
  have := (hc.block b h.lt (by simp [h.ne])).trans h.blk
  rw [this]; unfold ledgerCells; rw [hh]

set_option maxHeartbeats 400000 in
theorem add_some {w : World} {b m : Nat} {A : Ledger} (h : LedgerAt w b m A) (x y c : Nat) (n : Int) (hn : (n != 0) = true) (hl : 0 < A.lim x y c) (h0 : 0 ≤ A.debt x y c + n) (h1 : A.debt x y c + n ≤ A.lim x y c) :
    Calls Try.prog 66 #[.pointer (some ⟨b, 0, none⟩), .agg #[.int .u8 x, .int .u8 y, .int .u8 c], .int .i64 n] w (AddPost w b m (A.setDebt x y c (A.debt x y c + n))) := by
  have hlk := look_rule (m := m) h.wf
  have hM := h.map
  have hc := h.mapc
  have hb := h.lt
  have hm := h.map.lt
  have d1 := h.wf.debt x y c
  have l1 := h.wf.lim_le x y c
  have lt0_b : b < w.heap.size + 1 := (by omega); have lt1_b : b ≤ w.heap.size := (by omega); have lt2_b : b < w.heap.size + 2 := (by omega); have lt3_b : b < w.heap.size + 3 := (by omega); have lt4_b : b < w.heap.size + 4 := (by omega); have lt5_b : b < w.heap.size + 5 := (by omega)
  have lt0_m : m < w.heap.size + 1 := (by omega); have lt1_m : m ≤ w.heap.size := (by omega); have lt2_m : m < w.heap.size + 2 := (by omega); have lt3_m : m < w.heap.size + 3 := (by omega); have lt4_m : m < w.heap.size + 4 := (by omega); have lt5_m : m < w.heap.size + 5 := (by omega)
  go_enter Try.func66, Try.ntmps66
  go_wp2
  go_region
  go_wp2
  refine wp_region_later_tail 6 (by kernel_rfl) (by kernel_rfl) (by kernel_rfl) ?_; simp only [List.take_succ_cons, List.take_zero, List.drop_succ_cons, List.drop_zero]; (repeat (go_big_quiet_step (fail))); refine wpQuiet_nil ?_; rintro _ ⟨W, rfl⟩
  have hW := W.b
  refine wpl_mapUpdate (A := A) (m := m) x y c (A.lim x y c) (A.debt x y c + n) rfl rfl rfl (by go_simp) hl ?_
  intro w1 hchg hsz hM1
  go_wp2
  go_end0
  have hB : Below w.heap.size w W.w := (by repeat (first | with_reducible exact Below.refl _ _ | with_reducible assumption | refine Below.drew ?_ | refine Below.setCell ?_ (by first | exact Nat.le_refl _ | omega | (simp; done) | (simp; omega)) _ | refine Below.alloc ?_ (by first | exact Nat.le_refl _ | omega | (simp; done) | (simp; omega)) _ | refine Below.tr ?_ (Nat.le_refl _) (by assumption) | exact Below.refl _ _ | assumption))
  have hC : Chg [m] w w1 := (Chg.of_below (S := [m]) hB).trans hchg (by simp)
  exact ⟨rfl, hC, ledgerAt_of h hC (hM1.congr setLine_debt rfl) rfl (h.wf.setDebt h0 h1)⟩

theorem add_none {w : World} {b m : Nat} {A : Ledger} (h : LedgerAt w b m A) (x y c : Nat) :
    Calls Try.prog 66 #[.pointer (some ⟨b, 0, none⟩), .agg #[.int .u8 x, .int .u8 y, .int .u8 c], .int .i64 0] w (AddPost w b m A) := by
  go_enter Try.func66, Try.ntmps66
  go_wp2
  go_end0
  have hB : Below w.heap.size w (w.alloc (.cells #[.int .u8 x, .int .u8 y, .int .u8 c] 87)) := (by repeat (first | with_reducible exact Below.refl _ _ | with_reducible assumption | refine Below.drew ?_ | refine Below.setCell ?_ (by first | exact Nat.le_refl _ | omega | (simp; done) | (simp; omega)) _ | refine Below.alloc ?_ (by first | exact Nat.le_refl _ | omega | (simp; done) | (simp; omega)) _ | refine Below.tr ?_ (Nat.le_refl _) (by assumption) | exact Below.refl _ _ | assumption))
  exact ⟨rfl, Chg.of_below hB, h.below hB⟩

theorem setDebt_self (A : Ledger) (x y c : Nat) : A.setDebt x y c (A.debt x y c) = A := by
  cases A with
  | mk has lim debt =>
    simp only [Ledger.setDebt, Ledger.mk.injEq, true_and]
    funext p q r
    by_cases e : p = x ∧ q = y ∧ r = c
    · obtain ⟨rfl, rfl, rfl⟩ := e; rw [Ledger.upd_same]
    · rw [Ledger.upd_other e]
theorem add_any {w : World} {b m : Nat} {A : Ledger} (h : LedgerAt w b m A) (x y c : Nat) (n : Int) (hl : n ≠ 0 → 0 < A.lim x y c) (h0 : 0 ≤ A.debt x y c + n) (h1 : A.debt x y c + n ≤ A.lim x y c) :
    Calls Try.prog 66 #[.pointer (some ⟨b, 0, none⟩), .agg #[.int .u8 x, .int .u8 y, .int .u8 c], .int .i64 n] w (AddPost w b m (A.setDebt x y c (A.debt x y c + n))) := by
  by_cases e : n = 0
  · subst e
    rw [Int.add_zero, setDebt_self]
    exact add_none h x y c
  · exact add_some h x y c n (by simpa using e) (hl e) h0 h1

def LPost (w : World) (b m : Nat) (r : Nat × Ledger) (e : Ending) (w' : World) : Prop := e = .returned (.int .i64 r.1) ∧ Chg [m] w w' ∧ LedgerAt w' b m r.2

set_option maxHeartbeats 800000 in
theorem push_ok {w : World} {b m : Nat} {A : Ledger} (h : LedgerAt w b m A) (f t c : Nat) (n : Int) (h1 : 1 ≤ n) (h2 : n ≤ A.room f t c) :
    Calls Try.prog 43 #[.pointer (some ⟨b, 0, none⟩), .int .u8 f, .int .u8 t, .int .u8 c, .int .i64 n] w (LPost w b m (0, A.shift f t c n)) := by
  have hlk := look_rule (m := m) h.wf
  have hM := h.map
  have hc := h.mapc
  have hb := h.lt
  have hm := h.map.lt
  have d1 := h.wf.debt f t c
  have d2 := h.wf.debt t f c
  have l1 := h.wf.lim_le f t c
  have l2 := h.wf.lim_le t f c
  have hft : f ≠ t := by
    rintro rfl
    have h0 : A.lim f f c = 0 := by
      by_cases e : A.lim f f c = 0
      · exact e
      · exact absurd rfl (h.wf.line f f c e).2.2.1
    unfold Ledger.room at h2; omega
  have hr : A.room f t c = A.debt f t c + A.lim t f c - A.debt t f c := rfl
  rw [hr] at h2
  have Hr := Lib.hid hr; clear hr
  have hnl : ¬ A.room f t c < n := by rw [Hr.out]; omega
  have hsh := Lib.hid (show A.shift f t c n = (A.setDebt f t c (A.debt f t c + -(min n (A.debt f t c)))).setDebt t f c ((A.setDebt f t c (A.debt f t c + -(min n (A.debt f t c)))).debt t f c + (n - min n (A.debt f t c))) from rfl)
  have hl0 : A.lim f t c ≠ 0 → 0 < A.lim f t c := fun e => h.wf.lim_pos e
  by_cases hk : n ≤ A.debt f t c
  · have hmin : min n (A.debt f t c) = n := by omega
    rw [hmin] at hsh
    have Hmin := Lib.hid hmin; clear hmin hl0
    go_enter Try.func43, Try.ntmps43
    go_wp2_with (first | (go_at_call 33; refine (there_yes h.mapc).mono ?_; rintro e w' ⟨rfl, rfl⟩) | (go_at_call 52; refine (room_any h f t c).mono ?_; rintro e w1 ⟨rfl, hb1⟩; have h' := h.below hb1; clear hc hb hm hM; have hc := h'.mapc; have hb := h'.lt; have hm := h'.map.lt; have hM := h'.map))
    have lt0_b : b < w1.heap.size + 1 := (by omega); have lt1_b : b ≤ w1.heap.size := (by omega); have lt2_b : b < w1.heap.size + 2 := (by omega); have lt3_b : b < w1.heap.size + 3 := (by omega); have lt4_b : b < w1.heap.size + 4 := (by omega); have lt5_b : b < w1.heap.size + 5 := (by omega)
    have lt0_m : m < w1.heap.size + 1 := (by omega); have lt1_m : m ≤ w1.heap.size := (by omega); have lt2_m : m < w1.heap.size + 2 := (by omega); have lt3_m : m < w1.heap.size + 3 := (by omega); have lt4_m : m < w1.heap.size + 4 := (by omega); have lt5_m : m < w1.heap.size + 5 := (by omega)
    refine wp_region_later (by kernel_rfl) (by kernel_rfl) ?_; (repeat (go_big_quiet_step (fail))); refine wpQuiet_nil ?_; rintro _ ⟨W, rfl⟩
    have hW := W.b
    have hB1 : Below w1.heap.size w1 W.w := (by repeat (first | with_reducible exact Below.refl _ _ | with_reducible assumption | refine Below.drew ?_ | refine Below.setCell ?_ (by first | exact Nat.le_refl _ | omega | (simp; done) | (simp; omega)) _ | refine Below.alloc ?_ (by first | exact Nat.le_refl _ | omega | (simp; done) | (simp; omega)) _ | refine Below.tr ?_ (Nat.le_refl _) (by assumption) | exact Below.refl _ _ | assumption))
    have hB2 : Below w.heap.size w W.w := (by repeat (first | with_reducible exact Below.refl _ _ | with_reducible assumption | refine Below.drew ?_ | refine Below.setCell ?_ (by first | exact Nat.le_refl _ | omega | (simp; done) | (simp; omega)) _ | refine Below.alloc ?_ (by first | exact Nat.le_refl _ | omega | (simp; done) | (simp; omega)) _ | refine Below.tr ?_ (Nat.le_refl _) (by assumption) | exact Below.refl _ _ | assumption))
    have hA := h'.below hB1
    go_wp2_with (fail)
    refine (add_any hA f t c (-n) (fun _ => by omega) (by omega) (by omega)).mono ?_
    rintro e w2 ⟨rfl, hC2, hL2⟩
    go_wp2_with (fail)
    refine (add_none hL2 t f c).mono ?_
    rintro e w3 ⟨rfl, hC3, hL3⟩
    go_wp2
    go_ret
    refine ⟨rfl, ((Chg.of_below (S := [m]) hB2).trans hC2 (by simp)).trans hC3 (by simp), ?_⟩
    rw [hsh.out, Int.sub_self, Int.add_zero, setDebt_self]
    exact hL3
  · have hmin : min n (A.debt f t c) = A.debt f t c := by omega
    rw [hmin] at hsh
    have hd0 := Lib.hid (show (A.setDebt f t c (A.debt f t c + -A.debt f t c)).debt t f c = A.debt t f c from Ledger.upd_other (by rintro ⟨rfl, _, _⟩; exact hft rfl))
    have Hmin := Lib.hid hmin; clear hmin
    go_enter Try.func43, Try.ntmps43
    go_wp2_with (first | (go_at_call 33; refine (there_yes h.mapc).mono ?_; rintro e w' ⟨rfl, rfl⟩) | (go_at_call 52; refine (room_any h f t c).mono ?_; rintro e w1 ⟨rfl, hb1⟩; have h' := h.below hb1; clear hc hb hm hM; have hc := h'.mapc; have hb := h'.lt; have hm := h'.map.lt; have hM := h'.map))
    have lt0_b : b < w1.heap.size + 1 := (by omega); have lt1_b : b ≤ w1.heap.size := (by omega); have lt2_b : b < w1.heap.size + 2 := (by omega); have lt3_b : b < w1.heap.size + 3 := (by omega); have lt4_b : b < w1.heap.size + 4 := (by omega); have lt5_b : b < w1.heap.size + 5 := (by omega)
    have lt0_m : m < w1.heap.size + 1 := (by omega); have lt1_m : m ≤ w1.heap.size := (by omega); have lt2_m : m < w1.heap.size + 2 := (by omega); have lt3_m : m < w1.heap.size + 3 := (by omega); have lt4_m : m < w1.heap.size + 4 := (by omega); have lt5_m : m < w1.heap.size + 5 := (by omega)
    refine wp_region_later (by kernel_rfl) (by kernel_rfl) ?_; (repeat (go_big_quiet_step (fail))); refine wpQuiet_nil ?_; rintro _ ⟨W, rfl⟩
    have hW := W.b
    have hB1 : Below w1.heap.size w1 W.w := (by repeat (first | with_reducible exact Below.refl _ _ | with_reducible assumption | refine Below.drew ?_ | refine Below.setCell ?_ (by first | exact Nat.le_refl _ | omega | (simp; done) | (simp; omega)) _ | refine Below.alloc ?_ (by first | exact Nat.le_refl _ | omega | (simp; done) | (simp; omega)) _ | refine Below.tr ?_ (Nat.le_refl _) (by assumption) | exact Below.refl _ _ | assumption))
    have hB2 : Below w.heap.size w W.w := (by repeat (first | with_reducible exact Below.refl _ _ | with_reducible assumption | refine Below.drew ?_ | refine Below.setCell ?_ (by first | exact Nat.le_refl _ | omega | (simp; done) | (simp; omega)) _ | refine Below.alloc ?_ (by first | exact Nat.le_refl _ | omega | (simp; done) | (simp; omega)) _ | refine Below.tr ?_ (Nat.le_refl _) (by assumption) | exact Below.refl _ _ | assumption))
    have hA := h'.below hB1
    go_wp2_with (fail)
    refine (add_any hA f t c (-A.debt f t c) (fun _ => by omega) (by omega) (by omega)).mono ?_
    rintro e w2 ⟨rfl, hC2, hL2⟩
    go_wp2_with (fail)
    refine (add_any hL2 t f c (n - A.debt f t c) (fun _ => by show 0 < A.lim t f c; omega) (by rw [hd0.out]; omega) (by rw [hd0.out]; show _ ≤ A.lim t f c; omega)).mono ?_
    rintro e w3 ⟨rfl, hC3, hL3⟩
    go_wp2
    go_ret
    refine ⟨rfl, ((Chg.of_below (S := [m]) hB2).trans hC2 (by simp)).trans hC3 (by simp), ?_⟩
    rw [hsh.out]
    exact hL3

theorem push_any {w : World} {b m : Nat} {A : Ledger} (h : LedgerAt w b m A) (f t c : Nat) (n : Int) :
    Calls Try.prog 43 #[.pointer (some ⟨b, 0, none⟩), .int .u8 f, .int .u8 t, .int .u8 c, .int .i64 n] w (LPost w b m (A.push f t c n)) := by
  by_cases h1 : n < 1
  · have e : A.push f t c n = (1, A) := by unfold Ledger.push; rw [if_pos h1]
    rw [e]
    go_enter Try.func43, Try.ntmps43
    go_wp2_with (first | (go_at_call 33; refine (there_yes h.mapc).mono ?_; rintro e w' ⟨rfl, rfl⟩))
    go_ret
    exact ⟨rfl, Chg.refl _ _, h⟩
  · by_cases h2 : A.room f t c < n
    · have e : A.push f t c n = (11, A) := by unfold Ledger.push; rw [if_neg h1, if_pos h2]
      rw [e]
      go_enter Try.func43, Try.ntmps43
      go_wp2_with (first | (go_at_call 33; refine (there_yes h.mapc).mono ?_; rintro e w' ⟨rfl, rfl⟩) | (go_at_call 52; refine (room_any h f t c).mono ?_; rintro e w1 ⟨rfl, hb1⟩))
      go_ret
      exact ⟨rfl, Chg.of_below hb1, h.below hb1⟩
    · have e : A.push f t c n = (0, A.shift f t c n) := by unfold Ledger.push; rw [if_neg h1, if_neg h2]
      rw [e]
      exact push_ok h f t c n (by omega) (by omega)

theorem push_no {w : World} {q : Option Addr} (h : NoLedger w q) (f t c : Nat) (n : Int) :
    Calls Try.prog 43 #[.pointer q, .int .u8 f, .int .u8 t, .int .u8 c, .int .i64 n] w fun e w' => e = .returned (.int .i64 2) ∧ w = w' := by
  go_enter Try.func43, Try.ntmps43
  go_wp2_with (first | (go_at_call 33; refine (there_no h).mono ?_; rintro e w' ⟨rfl, rfl⟩))
  go_ret
  exact ⟨rfl, rfl⟩

/-! ### Open -/
theorem ledgerCells_set (A : Ledger) (m p : Nat) (h : p ≤ 16) : (ledgerCells A m).setIfInBounds p (.bool true) = ledgerCells (A.addParty p) m := by
  have : p = 0 ∨ p = 1 ∨ p = 2 ∨ p = 3 ∨ p = 4 ∨ p = 5 ∨ p = 6 ∨ p = 7 ∨ p = 8 ∨ p = 9 ∨ p = 10 ∨ p = 11 ∨ p = 12 ∨ p = 13 ∨ p = 14 ∨ p = 15 ∨ p = 16 := by omega
  rcases this with rfl | rfl | rfl | rfl | rfl | rfl | rfl | rfl | rfl | rfl | rfl | rfl | rfl | rfl | rfl | rfl | rfl <;> simp [ledgerCells, Ledger.addParty]

theorem heap_setCell_same {w : World} {b o : Nat} {cs : Array Value} {t : TypeId} {f : Nat × Nat} (h : w.heap[b]? = some (.cells cs t f)) (v : Value) : (w.setCell ⟨b, o, none⟩ v).heap[b]? = some (.cells (cs.setIfInBounds o v) t f) := by
  have hlt := lt_of_block h
  have h' : w.heap[b] = .cells cs t f := by simpa [Array.getElem?_eq_getElem hlt] using h
  show (w.heap.modify b _)[b]? = _
  rw [Array.getElem?_eq_getElem (by simpa using hlt), Array.getElem_modify_self, h']
  rfl
theorem Chg.setCell {S : List Nat} (w : World) (b o : Nat) (v : Value) (hb : b ∈ S) : Chg S w (w.setCell ⟨b, o, none⟩ v) :=
  ⟨rfl, rfl, rfl, by simp [World.setCell], fun k _ hn => Below.heap_setCell _ _ _ _ (fun e => hn (by rw [e]; exact hb))⟩

def LPostB (w : World) (b m : Nat) (r : Nat × Ledger) (e : Ending) (w' : World) : Prop := e = .returned (.int .i64 r.1) ∧ Chg [b] w w' ∧ LedgerAt w' b m r.2

theorem open_any {w : World} {b m : Nat} {A : Ledger} (h : LedgerAt w b m A) (p : Nat) (hp : p < 256) :
    Calls Try.prog 27 #[.pointer (some ⟨b, 0, none⟩), .int .u8 p] w (LPostB w b m (A.openP p)) := by
  by_cases h1 : 1 ≤ p ∧ p ≤ 16
  · have e1 := Lib.hid (show (decide (1 ≤ p ∧ p ≤ 16)) = true by simpa using h1)
    have hc := h.has h1.2
    have hf := h.free p
    cases hA : A.has p
    · rw [hA] at hc
      have e : A.openP p = (0, A.addParty p) := by unfold Ledger.openP; rw [if_neg (by omega), if_neg (by simp [hA])]
      rw [e]
      clear hA
      go_enter Try.func27, Try.ntmps27
      go_wp2_with (first | (go_at_call 33; refine (there_yes h.mapc).mono ?_; rintro e w' ⟨rfl, rfl⟩) | (go_at_call 34; refine (ledgersMay _ (by omega) _).mono ?_; rintro e w' ⟨rfl, rfl⟩; rw [e1.out]))
      go_ret
      refine ⟨rfl, Chg.setCell _ _ _ _ (by simp), ?_, (h.map.setCell _ _).congr rfl rfl, h.wf.addParty h1⟩
      rw [heap_setCell_same h.blk, ledgerCells_set A m p h1.2]
    · rw [hA] at hc
      have e : A.openP p = (8, A) := by unfold Ledger.openP; rw [if_neg (by omega), if_pos hA]
      rw [e]
      clear hA
      go_enter Try.func27, Try.ntmps27
      go_wp2_with (first | (go_at_call 33; refine (there_yes h.mapc).mono ?_; rintro e w' ⟨rfl, rfl⟩) | (go_at_call 34; refine (ledgersMay _ (by omega) _).mono ?_; rintro e w' ⟨rfl, rfl⟩; rw [e1.out]))
      go_ret
      exact ⟨rfl, Chg.refl _ _, h⟩
  · have e1 := Lib.hid (show (decide (1 ≤ p ∧ p ≤ 16)) = false by simpa using h1)
    have e : A.openP p = (1, A) := by unfold Ledger.openP; rw [if_pos (by omega)]
    rw [e]
    go_enter Try.func27, Try.ntmps27
    go_wp2_with (first | (go_at_call 33; refine (there_yes h.mapc).mono ?_; rintro e w' ⟨rfl, rfl⟩) | (go_at_call 34; refine (ledgersMay _ (by omega) _).mono ?_; rintro e w' ⟨rfl, rfl⟩; rw [e1.out]))
    go_ret
    exact ⟨rfl, Chg.refl _ _, h⟩

end Go.Proofs.Ytelcdiceongfdaa
