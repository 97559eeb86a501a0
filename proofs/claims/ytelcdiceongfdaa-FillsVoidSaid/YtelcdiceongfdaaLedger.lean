/- Walks of the layer ledgers (but its list of lines): each method of a ledger in memory gives what the abstract ledger says, and turns the ledger's map, or its parties, alone. -/
import Derived.Test.YtelcdiceongfdaaMap
namespace Go.Proofs.Ytelcdiceongfdaa
open Go.RowKit Go.BigFrame
set_option maxRecDepth 100000

@[go_sem] theorem mapAt_drew (w : World) (m : Nat) (A : Ledger) : MapAt w.drew m A = MapAt w m A := propext ⟨fun h => h, fun h => h⟩
@[go_sem] theorem mapAt_alloc (w : World) (o : Obj) (m : Nat) (A : Ledger) (h : m < w.heap.size) : MapAt (w.alloc o) m A = MapAt w m A := by
  unfold MapAt; simp only [Below.heap_alloc w o m h]
@[go_sem] theorem mapAt_alloc2 (w : World) (o o' : Obj) (m : Nat) (A : Ledger) (h : m < w.heap.size) : MapAt ((w.alloc o).alloc o') m A = MapAt w m A := by
  rw [mapAt_alloc _ _ _ _ (by simp; omega), mapAt_alloc _ _ _ _ h]
@[go_sem] theorem mapAt_alloc3 (w : World) (o o' o'' : Obj) (m : Nat) (A : Ledger) (h : m < w.heap.size) : MapAt (((w.alloc o).alloc o').alloc o'') m A = MapAt w m A := by
  rw [mapAt_alloc _ _ _ _ (by simp; omega), mapAt_alloc2 _ _ _ _ _ h]
@[go_sem] theorem mapAt_later {w : World} (x : Later w) (m : Nat) (A : Ledger) (h : m < w.heap.size) : MapAt x.w m A = MapAt w m A := by
  unfold MapAt; simp only [x.block m h]
@[go_sem] theorem mapAt_setCell (w : World) (q : Addr) (v : Value) (m : Nat) (A : Ledger) : MapAt (w.setCell q v) m A = MapAt w m A := by
  refine propext ⟨fun h => ?_, fun h => h.setCell q v⟩
  obtain ⟨es, clk, h, R⟩ := h
  refine ⟨es, clk, ?_, R⟩
  by_cases e : m = q.block
  · subst e
    have hlt : q.block < w.heap.size := by have := lt_of_block h; simpa [World.setCell] using this
    have h2 : (w.heap.modify q.block fun o => match o with
      | .cells c elem frozen => .cells (if q.spot.isSome then c else c.setIfInBounds q.off v) elem frozen
      | o => o)[q.block]? = some (.map es clk) := h
    rw [Array.getElem?_eq_getElem (by simpa using hlt), Array.getElem_modify_self] at h2
    rw [Array.getElem?_eq_getElem hlt]
    generalize w.heap[q.block] = o at h2 ⊢
    cases o <;> simp_all
  · rw [Below.heap_setCell _ _ _ _ e] at h; exact h
@[go_sem] theorem neqMap (w : World) (r : Option Nat) : (binOp .neq 33 (.map r) (.map none)).run Try.prog w = .ok (.bool !r.isNone) w := run_neq_map_nil w _ _ _ r und_map
@[go_sem] theorem eqlMap (w : World) (r : Option Nat) : (binOp .eql 33 (.map r) (.map none)).run Try.prog w = .ok (.bool r.isNone) w := run_eql_map_nil w _ _ _ r und_map

def ledgerCells (A : Ledger) (m : Nat) : Array Value :=
  #[.bool (A.has 0), .bool (A.has 1), .bool (A.has 2), .bool (A.has 3), .bool (A.has 4), .bool (A.has 5), .bool (A.has 6), .bool (A.has 7), .bool (A.has 8), .bool (A.has 9), .bool (A.has 10), .bool (A.has 11), .bool (A.has 12), .bool (A.has 13), .bool (A.has 14), .bool (A.has 15), .bool (A.has 16), .map (some m)]

theorem ledgerCells_has (A : Ledger) (m p : Nat) (h : p ≤ 16) : (ledgerCells A m)[p]? = some (.bool (A.has p)) := by
  have : p = 0 ∨ p = 1 ∨ p = 2 ∨ p = 3 ∨ p = 4 ∨ p = 5 ∨ p = 6 ∨ p = 7 ∨ p = 8 ∨ p = 9 ∨ p = 10 ∨ p = 11 ∨ p = 12 ∨ p = 13 ∨ p = 14 ∨ p = 15 ∨ p = 16 := by omega
  rcases this with rfl | rfl | rfl | rfl | rfl | rfl | rfl | rfl | rfl | rfl | rfl | rfl | rfl | rfl | rfl | rfl | rfl <;> rfl

/-- block b is a ledger whose map is block m, that reads as A -/
structure LedgerAt (w : World) (b m : Nat) (A : Ledger) : Prop where
  blk : w.heap[b]? = some (.cells (ledgerCells A m) 35 (0, 0))
  map : MapAt w m A
  wf : A.WF

theorem LedgerAt.lt {w : World} {b m : Nat} {A : Ledger} (h : LedgerAt w b m A) : b < w.heap.size := lt_of_block h.blk
theorem LedgerAt.ne {w : World} {b m : Nat} {A : Ledger} (h : LedgerAt w b m A) : b ≠ m := by
  rintro rfl
  obtain ⟨es, clk, hm, _⟩ := h.map
  rw [h.blk] at hm; cases hm
theorem LedgerAt.has {w : World} {b m : Nat} {A : Ledger} (h : LedgerAt w b m A) {p : Nat} (hp : p ≤ 16) : w.cell? ⟨b, p, none⟩ = some (.bool (A.has p)) := by
  simp [World.cell?, h.blk, ledgerCells_has A m p hp]
theorem LedgerAt.mapc {w : World} {b m : Nat} {A : Ledger} (h : LedgerAt w b m A) : w.cell? ⟨b, 17, none⟩ = some (.map (some m)) := by
  simp [World.cell?, h.blk, ledgerCells]
theorem LedgerAt.free {w : World} {b m : Nat} {A : Ledger} (h : LedgerAt w b m A) (o : Nat) : w.frozen? ⟨b, o, none⟩ = false := by
  simp [World.frozen?, h.blk]
theorem LedgerAt.chg {S : List Nat} {w w' : World} {b m : Nat} {A : Ledger} (h : LedgerAt w b m A) (hc : Chg S w w') (hb : b ∉ S) (hm : m ∉ S) : LedgerAt w' b m A :=
  ⟨(hc.block b h.lt hb).trans h.blk, h.map.chg hc hm, h.wf⟩
theorem LedgerAt.below {w w' : World} {b m : Nat} {A : Ledger} (h : LedgerAt w b m A) (hb : Below w.heap.size w w') : LedgerAt w' b m A := h.chg (S := []) (Chg.of_below hb) (by simp) (by simp)

theorem look_rule {m : Nat} {A : Ledger} (hA : A.WF) : ∀ W, MapAt W m A → ∀ a b c : Nat, (Instr.lookup 33 (.map (some m)) (.agg #[.int .u8 a, .int .u8 b, .int .u8 c]) false).run Try.prog W = .ok (.agg #[.int .i64 (A.lim a b c), .int .i64 (A.debt a b c)]) W :=
  fun _ h a b c => (run_lookup h hA a b c).1
theorem look_rule2 {m : Nat} {A : Ledger} (hA : A.WF) : ∀ W, MapAt W m A → ∀ a b c : Nat, (Instr.lookup 33 (.map (some m)) (.agg #[.int .u8 a, .int .u8 b, .int .u8 c]) true).run Try.prog W = .ok (.tuple #[.agg #[.int .i64 (A.lim a b c), .int .i64 (A.debt a b c)], .bool (decide (0 < A.lim a b c))]) W :=
  fun _ h a b c => (run_lookup h hA a b c).2

/-! ### there, may -/
theorem there_yes {w : World} {b m : Nat} (hc : w.cell? ⟨b, 17, none⟩ = some (.map (some m))) :
    Calls Try.prog 33 #[.pointer (some ⟨b, 0, none⟩)] w fun e w' => e = .returned (.bool true) ∧ w = w' := by
  go_enter Try.func33, Try.ntmps33
  go_wp2
  go_ret
  exact ⟨rfl, rfl⟩
/-- what is no ledger: nothing, or one that no call made -/
def NoLedger (w : World) (p : Option Addr) : Prop := p = none ∨ ∃ b, p = some ⟨b, 0, none⟩ ∧ w.cell? ⟨b, 17, none⟩ = some (.map none)
theorem there_no {w : World} {p : Option Addr} (h : NoLedger w p) :
    Calls Try.prog 33 #[.pointer p] w fun e w' => e = .returned (.bool false) ∧ w = w' := by
  rcases h with rfl | ⟨b, rfl, hc⟩
  all_goals
    go_enter Try.func33, Try.ntmps33
    go_wp2
    go_ret
    exact ⟨rfl, rfl⟩
theorem NoLedger.below {w w' : World} {p : Option Addr} (h : NoLedger w p) (hb : Below w.heap.size w w') : NoLedger w' p := by
  rcases h with rfl | ⟨b, rfl, hc⟩
  · exact .inl rfl
  · exact .inr ⟨b, rfl, (hb.cell (p := ⟨b, 17, none⟩) (lt_of_cell hc)).trans hc⟩

theorem ledgersMay (p : Nat) (hp : p < 256) (w : World) :
    Calls Try.prog 34 #[.int .u8 p] w fun e w' => e = .returned (.bool (decide (1 ≤ p ∧ p ≤ 16))) ∧ w = w' := by
  by_cases h1 : 1 ≤ p
  · go_enter Try.func34, Try.ntmps34
    go_wp2
    go_ret
    exact ⟨ret_bool (by rw [Bool.eq_iff_iff]; simp [h1] <;> omega), rfl⟩
  · go_enter Try.func34, Try.ntmps34
    go_wp2
    go_ret
    exact ⟨ret_bool (by simp <;> omega), rfl⟩

theorem endsMay_yes (a b c : Nat) (h : Ledger.mayEnds a b c) (w : World) :
    Calls Try.prog 46 #[.agg #[.int .u8 a, .int .u8 b, .int .u8 c]] w fun e w' => e = .returned (.bool true) ∧ Below w.heap.size w w' := by
  obtain ⟨h1, h2, h3, h4⟩ := h
  have e1 := Lib.hid (show (decide (1 ≤ a ∧ a ≤ 16)) = true by simpa using h1)
  have e2 := Lib.hid (show (decide (1 ≤ b ∧ b ≤ 16)) = true by simpa using h2)
  have h3' : ((a : Int) != b) = true := by simp; omega
  go_enter Try.func46, Try.ntmps46
  go_wp2_with (go_at_call 34; refine (ledgersMay _ (by omega) _).mono ?_; rintro e w' ⟨rfl, rfl⟩; first | rw [e1.out] | rw [e2.out])
  go_ret
  exact ⟨ret_bool (by simp; omega), (by repeat (first | with_reducible exact Below.refl _ _ | with_reducible assumption | refine Below.drew ?_ | refine Below.setCell ?_ (by first | exact Nat.le_refl _ | omega | (simp; done) | (simp; omega)) _ | refine Below.alloc ?_ (by first | exact Nat.le_refl _ | omega | (simp; done) | (simp; omega)) _ | refine Below.tr ?_ (Nat.le_refl _) (by assumption) | exact Below.refl _ _ | assumption))⟩

theorem endsMay_no (a b c : Nat) (ha : a < 256) (hb : b < 256) (hc : c < 256) (h : ¬ Ledger.mayEnds a b c) (w : World) :
    Calls Try.prog 46 #[.agg #[.int .u8 a, .int .u8 b, .int .u8 c]] w fun e w' => e = .returned (.bool false) ∧ Below w.heap.size w w' := by
  by_cases h1 : 1 ≤ a ∧ a ≤ 16
  · have e1 := Lib.hid (show (decide (1 ≤ a ∧ a ≤ 16)) = true by simpa using h1)
    by_cases h2 : 1 ≤ b ∧ b ≤ 16
    · have e2 := Lib.hid (show (decide (1 ≤ b ∧ b ≤ 16)) = true by simpa using h2)
      by_cases h3 : a = b
      · have h3' : ((a : Int) != b) = false := by simp; omega
        have h3'' := Lib.hid h3
        clear h3
        go_enter Try.func46, Try.ntmps46
        go_wp2_with (go_at_call 34; refine (ledgersMay _ (by omega) _).mono ?_; rintro e w' ⟨rfl, rfl⟩; first | rw [e1.out] | rw [e2.out])
        go_ret
        exact ⟨rfl, (by repeat (first | with_reducible exact Below.refl _ _ | with_reducible assumption | refine Below.drew ?_ | refine Below.setCell ?_ (by first | exact Nat.le_refl _ | omega | (simp; done) | (simp; omega)) _ | refine Below.alloc ?_ (by first | exact Nat.le_refl _ | omega | (simp; done) | (simp; omega)) _ | refine Below.tr ?_ (Nat.le_refl _) (by assumption) | exact Below.refl _ _ | assumption))⟩
      · have h3' : ((a : Int) != b) = true := by simp; omega
        have h4 : c < 1 ∨ 1 ≤ c ∧ 8 < c := by
          unfold Ledger.mayEnds at h; omega
        rcases h4 with h4 | ⟨h4, h5⟩
        all_goals
          go_enter Try.func46, Try.ntmps46
          go_wp2_with (go_at_call 34; refine (ledgersMay _ (by omega) _).mono ?_; rintro e w' ⟨rfl, rfl⟩; first | rw [e1.out] | rw [e2.out])
          go_ret
          exact ⟨ret_bool (by first | rfl | (simp; omega)), (by repeat (first | with_reducible exact Below.refl _ _ | with_reducible assumption | refine Below.drew ?_ | refine Below.setCell ?_ (by first | exact Nat.le_refl _ | omega | (simp; done) | (simp; omega)) _ | refine Below.alloc ?_ (by first | exact Nat.le_refl _ | omega | (simp; done) | (simp; omega)) _ | refine Below.tr ?_ (Nat.le_refl _) (by assumption) | exact Below.refl _ _ | assumption))⟩
    · have e2 := Lib.hid (show (decide (1 ≤ b ∧ b ≤ 16)) = false by simpa using h2)
      go_enter Try.func46, Try.ntmps46
      go_wp2_with (go_at_call 34; refine (ledgersMay _ (by omega) _).mono ?_; rintro e w' ⟨rfl, rfl⟩; first | rw [e1.out] | rw [e2.out])
      go_ret
      exact ⟨rfl, (by repeat (first | with_reducible exact Below.refl _ _ | with_reducible assumption | refine Below.drew ?_ | refine Below.setCell ?_ (by first | exact Nat.le_refl _ | omega | (simp; done) | (simp; omega)) _ | refine Below.alloc ?_ (by first | exact Nat.le_refl _ | omega | (simp; done) | (simp; omega)) _ | refine Below.tr ?_ (Nat.le_refl _) (by assumption) | exact Below.refl _ _ | assumption))⟩
  · have e1 := Lib.hid (show (decide (1 ≤ a ∧ a ≤ 16)) = false by simpa using h1)
    go_enter Try.func46, Try.ntmps46
    go_wp2_with (go_at_call 34; refine (ledgersMay _ (by omega) _).mono ?_; rintro e w' ⟨rfl, rfl⟩; first | rw [e1.out] | rw [e2.out])
    go_ret
    exact ⟨rfl, (by repeat (first | with_reducible exact Below.refl _ _ | with_reducible assumption | refine Below.drew ?_ | refine Below.setCell ?_ (by first | exact Nat.le_refl _ | omega | (simp; done) | (simp; omega)) _ | refine Below.alloc ?_ (by first | exact Nat.le_refl _ | omega | (simp; done) | (simp; omega)) _ | refine Below.tr ?_ (Nat.le_refl _) (by assumption) | exact Below.refl _ _ | assumption))⟩

/-! ### Has, Room -/
theorem has_any {w : World} {b m : Nat} {A : Ledger} (h : LedgerAt w b m A) (p : Nat) (hp : p < 256) :
    Calls Try.prog 13 #[.pointer (some ⟨b, 0, none⟩), .int .u8 p] w fun e w' => e = .returned (.bool (A.has p)) ∧ w = w' := by
  by_cases h1 : 1 ≤ p ∧ p ≤ 16
  · have e1 := Lib.hid (show (decide (1 ≤ p ∧ p ≤ 16)) = true by simpa using h1)
    have hc := h.has h1.2
    obtain ⟨v, hv⟩ : ∃ v, A.has p = v := ⟨_, rfl⟩
    rw [hv] at hc ⊢
    clear hv
    go_enter Try.func13, Try.ntmps13
    go_wp2_with (first | (go_at_call 33; refine (there_yes h.mapc).mono ?_; rintro e w' ⟨rfl, rfl⟩) | (go_at_call 34; refine (ledgersMay _ (by omega) _).mono ?_; rintro e w' ⟨rfl, rfl⟩; rw [e1.out]))
    go_ret
    exact ⟨rfl, rfl⟩
  · have e1 := Lib.hid (show (decide (1 ≤ p ∧ p ≤ 16)) = false by simpa using h1)
    have hf : A.has p = false := by
      cases hA : A.has p
      · rfl
      · exact absurd (h.wf.party p hA) h1
    rw [hf]
    go_enter Try.func13, Try.ntmps13
    go_wp2_with (first | (go_at_call 33; refine (there_yes h.mapc).mono ?_; rintro e w' ⟨rfl, rfl⟩) | (go_at_call 34; refine (ledgersMay _ (by omega) _).mono ?_; rintro e w' ⟨rfl, rfl⟩; rw [e1.out]))
    go_ret
    exact ⟨rfl, rfl⟩
theorem has_no {w : World} {q : Option Addr} (h : NoLedger w q) (p : Nat) :
    Calls Try.prog 13 #[.pointer q, .int .u8 p] w fun e w' => e = .returned (.bool false) ∧ w = w' := by
  go_enter Try.func13, Try.ntmps13
  go_wp2_with (first | (go_at_call 33; refine (there_no h).mono ?_; rintro e w' ⟨rfl, rfl⟩))
  go_ret
  exact ⟨rfl, rfl⟩

theorem room_any {w : World} {b m : Nat} {A : Ledger} (h : LedgerAt w b m A) (f t c : Nat) :
    Calls Try.prog 52 #[.pointer (some ⟨b, 0, none⟩), .int .u8 f, .int .u8 t, .int .u8 c] w fun e w' => e = .returned (.int .i64 (A.room f t c)) ∧ Below w.heap.size w w' := by
  have hlk := look_rule (m := m) h.wf
  have hM := h.map
  have hc := h.mapc
  have hb := h.lt
  have hm := h.map.lt
  have d1 := h.wf.debt f t c
  have d2 := h.wf.debt t f c
  have l1 := h.wf.lim_le f t c
  have l2 := h.wf.lim_le t f c
  have hr := Lib.hid (show A.room f t c = A.debt f t c + A.lim t f c - A.debt t f c from rfl)
  go_enter Try.func52, Try.ntmps52
  go_wp2_with (first | (go_at_call 33; refine (there_yes h.mapc).mono ?_; rintro e w' ⟨rfl, rfl⟩))
  go_region
  all_goals go_wp2
  all_goals go_ret
  all_goals exact ⟨ret_int (by rw [hr.out]), (by repeat (first | with_reducible exact Below.refl _ _ | with_reducible assumption | refine Below.drew ?_ | refine Below.setCell ?_ (by first | exact Nat.le_refl _ | omega | (simp; done) | (simp; omega)) _ | refine Below.alloc ?_ (by first | exact Nat.le_refl _ | omega | (simp; done) | (simp; omega)) _ | refine Below.tr ?_ (Nat.le_refl _) (by assumption) | exact Below.refl _ _ | assumption))⟩

/-! ### stores into the map -/
theorem wpl_mapUpdate {ops : Array Oper} {Q : Exit → Act → World → Prop} {rest : List Oper} {a : Act} {w : World} {m : Nat} {A : Ledger} {dst : Option Tmp} {t : TypeId} {pos : String} {after : Array Edge} {mp k v : Operand}
    (x y z : Nat) (l d : Int) (hm : a.eval mp = .map (some m)) (hk : a.eval k = .agg #[.int .u8 x, .int .u8 y, .int .u8 z]) (hv : a.eval v = .agg #[.int .i64 l, .int .i64 d]) (hM : MapAt w m A) (hl : 0 < l)
    (h : ∀ w', Chg [m] w w' → w'.heap.size = w.heap.size → MapAt w' m (A.setLine x y z l d) → wpList Try.prog ops Q rest (a.put dst undef) w') :
    wpList Try.prog ops Q ({ dst, op := .mapUpdate 33 mp k v, type := t, pos, after, guard := none } :: rest) a w := by
  obtain ⟨es', clk', hr, R⟩ := run_mapUpdate hM x y z l d hl
  have h' := h _ (Chg.putMap (S := [m]) w m es' clk' (by simp)) (putMap_size ..) (putMap_at hM.lt R)
  unfold wpList
  rw [if_pos (by simp [Region.wanted])]
  left
  unfold Oper.wp
  have hr' : (Instr.mapUpdate 33 (.map (some m)) (.agg #[.int .u8 x, .int .u8 y, .int .u8 z]) (.agg #[.int .i64 l, .int .i64 d])).run Try.prog w = .ok () (World.putMap w m es' clk') := hr
  simp only [execOp, hm, hk, hv, Sem.run_bind, hr', Result.andThen_ok]
  exact h'

theorem _root_.Go.Proofs.Ytelcdiceongfdaa.Ledger.WF.setDebt {A : Ledger} (h : A.WF) {a b c : Nat} {d : Int} (h0 : 0 ≤ d) (h1 : d ≤ A.lim a b c) : (A.setDebt a b c d).WF := by
  refine ⟨h.party, h.line, fun x y z => ?_, ?_⟩
  · by_cases e : x = a ∧ y = b ∧ z = c
    · obtain ⟨rfl, rfl, rfl⟩ := e
      simp only [Ledger.setDebt, Ledger.upd_same]; exact ⟨h0, h1⟩
    · simp only [Ledger.setDebt, Ledger.upd_other e]; exact h.debt x y z
  · rw [Ledger.count_congr (A := A.setDebt a b c d) (B := A) rfl]; exact h.full
theorem setLine_debt {A : Ledger} {a b c : Nat} {d : Int} : (A.setLine a b c (A.lim a b c) d).lim = (A.setDebt a b c d).lim := by
  funext x y z
  by_cases e : x = a ∧ y = b ∧ z = c
  · obtain ⟨rfl, rfl, rfl⟩ := e; simp [Ledger.setDebt, Ledger.setLine, Ledger.upd_same]
  · simp [Ledger.setDebt, Ledger.setLine, Ledger.upd_other e]
theorem MapAt.congr {w : World} {m : Nat} {A B : Ledger} (h : MapAt w m A) (hl : A.lim = B.lim) (hd : A.debt = B.debt) : MapAt w m B := by
  obtain ⟨es, clk, h, R⟩ := h
  exact ⟨es, clk, h, R.congr hl hd⟩

end Go.Proofs.Ytelcdiceongfdaa
