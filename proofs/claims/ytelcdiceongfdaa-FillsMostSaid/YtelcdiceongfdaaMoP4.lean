/-
  Walks of the layer ledgers, fourth part: a new ledger, another one with the same, a line, what is forgiven.
  Walks of the layer graphs, first part: a graph in memory, a capacity.
  The walk of a ledger's Copy: another ledger in memory, with the same.
  Walks of the layer ledgers, fifth part: what is forgiven.
-/
import Derived.Test.YtelcdiceongfdaaMoP3
import Derived.Laws.Externs
import Derived.Deep.RegionWith
section
namespace Go.Proofs.Ytelcdiceongfdaa
open Go.RowKit Go.BigFrame
set_option maxRecDepth 100000

theorem alloc_new (w : World) (o : Obj) : (w.alloc o).heap[w.heap.size]? = some o := by
  show (w.heap.push o)[w.heap.size]? = _
  simp
theorem mapRep_empty (clk : Nat) : MapRep #[] clk Ledger.empty :=
  ⟨fun e he => by simp at he, fun a b c h => by simp [Ledger.empty] at h, by simp, fun e he => by simp at he, by simp⟩

theorem ledgersNew (w : World) :
    Calls Try.prog 5 #[] w fun e w' => e = .returned (.pointer (some ⟨w.heap.size + 1, 0, none⟩)) ∧ Below w.heap.size w w' ∧ w'.heap.size = w.heap.size + 2 ∧ LedgerAt w' (w.heap.size + 1) w.heap.size .empty := by
  have hmm := @run_makeMap Try.prog
  go_enter Try.func5, Try.ntmps5
  go_wp2
  go_ret
  refine ⟨rfl, (by repeat (first | with_reducible exact Below.refl _ _ | with_reducible assumption | refine Below.drew ?_ | refine Below.setCell ?_ (by first | exact Nat.le_refl _ | omega | (simp; done) | (simp; omega)) _ | refine Below.alloc ?_ (by first | exact Nat.le_refl _ | omega | (simp; done) | (simp; omega)) _ | refine Below.tr ?_ (Nat.le_refl _) (by assumption) | exact Below.refl _ _ | assumption)), by simp, ?_, ⟨#[], 0, ?_, mapRep_empty 0⟩, Ledger.empty_wf⟩
  · have := alloc_new (w.alloc (.map #[] 0)) (.cells (ledgerCells Ledger.empty w.heap.size) 35 (0, 0))
    rw [show ∀ (w : World) o, (w.alloc o).heap.size = w.heap.size + 1 from fun w o => by simp] at this
    exact this
  · exact (Below.heap_alloc _ _ _ (by simp)).trans (alloc_new w _)

/-! ### Copy -/
theorem run_mapsClone {w : World} {r : Nat} {es : Array MapEntry} {clock : Nat} (t : TypeId) (hb : w.heap[r]? = some (.map es clock)) :
    (Extern.MapsClone.clone #[.iface t (.map (some r))]).run Try.prog w = .ok (.iface t (.map (some w.heap.size))) (w.alloc (.map es clock)) := by
  have e : Extern.MapsClone.clone #[.iface t (.map (some r))] = (getObj r).bind (fun o => match o with
      | .map entries clock => (newObj (.map entries clock)).bind fun k => .pure (.iface t (.map (some k)))
      | _ => stuck "maps.clone: a map expected") := rfl
  rw [e]
  show ((getObj r) >>= _).run Try.prog w = _
  rw [Sem.run_bind, run_getObj_map hb]
  rfl
theorem run_callClone {w : World} {r : Nat} {es : Array MapEntry} {clock : Nat} (t : TypeId) (hb : w.heap[r]? = some (.map es clock)) :
    (callFunc 53 #[.iface t (.map (some r))]).run Try.prog w = .ok (.value (.iface t (.map (some w.heap.size)))) (w.alloc (.map es clock)) := by
  rw [run_callFunc_extern Try.func53 (by kernel_rfl) (by kernel_rfl) (by kernel_rfl) (e := Extern.MapsClone.clone) (by kernel_rfl), run_mapsClone t hb]
  rfl
@[go_sem] theorem assert_map (x : Value) (w : World) : (Instr.typeAssert (.iface 33 x) 20 33 false).run Try.prog w = .ok x w := by kernel_rfl

theorem mapsClone {w : World} {m : Nat} {A : Ledger} (h : MapAt w m A) :
    Calls Try.prog 37 #[.map (some m)] w fun e w' => e = .returned (.map (some w.heap.size)) ∧ Below w.heap.size w w' ∧ w'.heap.size = w.heap.size + 1 ∧ MapAt w' w.heap.size A := by
  obtain ⟨es, clk, hm, R⟩ := h
  have hcl := run_callClone 33 hm
  go_enter Try.func37, Try.ntmps37
  go_wp2
  go_ret
  exact ⟨rfl, (by repeat (first | with_reducible exact Below.refl _ _ | with_reducible assumption | refine Below.drew ?_ | refine Below.setCell ?_ (by first | exact Nat.le_refl _ | omega | (simp; done) | (simp; omega)) _ | refine Below.alloc ?_ (by first | exact Nat.le_refl _ | omega | (simp; done) | (simp; omega)) _ | refine Below.tr ?_ (Nat.le_refl _) (by assumption) | exact Below.refl _ _ | assumption)), by simp, es, clk, alloc_new w _, R⟩

theorem ledgersCopy_no {w : World} {q : Option Addr} (h : NoLedger w q) :
    Calls Try.prog 16 #[.pointer q] w fun e w' => e = .returned (.pointer none) ∧ w = w' := by
  go_enter Try.func16, Try.ntmps16
  go_wp2_with (first | (go_at_call 33; refine (there_no h).mono ?_; rintro e w' ⟨rfl, rfl⟩))
  go_ret
  exact ⟨rfl, rfl⟩

/-! ### Line, Forgive -/
def LinePost (w : World) (A : Ledger) (x y c : Nat) (e : Ending) (w' : World) : Prop :=
  e = .returned (.tuple #[if 0 < A.lim x y c then .agg #[.int .u8 x, .int .u8 y, .int .u8 c, .int .i64 (A.lim x y c), .int .i64 (A.debt x y c)] else .agg #[.int .u8 0, .int .u8 0, .int .u8 0, .int .i64 0, .int .i64 0], .bool (decide (0 < A.lim x y c))]) ∧ Below w.heap.size w w'

theorem line_any {w : World} {b m : Nat} {A : Ledger} (h : LedgerAt w b m A) (x y c : Nat) :
    Calls Try.prog 70 #[.pointer (some ⟨b, 0, none⟩), .int .u8 x, .int .u8 y, .int .u8 c] w (LinePost w A x y c) := by
  have hlk := look_rule2 (m := m) h.wf
  have hM := h.map
  have hc := h.mapc
  have hb := h.lt
  have hm := h.map.lt
  have lt0_b : b < w.heap.size + 1 := (by omega); have lt1_b : b ≤ w.heap.size := (by omega); have lt2_b : b < w.heap.size + 2 := (by omega); have lt3_b : b < w.heap.size + 3 := (by omega); have lt4_b : b < w.heap.size + 4 := (by omega); have lt5_b : b < w.heap.size + 5 := (by omega)
  have lt0_m : m < w.heap.size + 1 := (by omega); have lt1_m : m ≤ w.heap.size := (by omega); have lt2_m : m < w.heap.size + 2 := (by omega); have lt3_m : m < w.heap.size + 3 := (by omega); have lt4_m : m < w.heap.size + 4 := (by omega); have lt5_m : m < w.heap.size + 5 := (by omega)
  by_cases hp : 0 < A.lim x y c
  · have hpb : decide (0 < A.lim x y c) = true := by simpa using hp
    go_enter Try.func70, Try.ntmps70
    go_wp2_with (go_at_call 33; refine (there_yes (h.below (by repeat (first | with_reducible exact Below.refl _ _ | with_reducible assumption | refine Below.drew ?_ | refine Below.setCell ?_ (by first | exact Nat.le_refl _ | omega | (simp; done) | (simp; omega)) _ | refine Below.alloc ?_ (by first | exact Nat.le_refl _ | omega | (simp; done) | (simp; omega)) _ | refine Below.tr ?_ (Nat.le_refl _) (by assumption) | exact Below.refl _ _ | assumption))).mapc).mono ?_; rintro e w' ⟨rfl, rfl⟩)
    refine bodyPost_ret (v := .tuple #[.agg #[.int .u8 x, .int .u8 y, .int .u8 c, .int .i64 (A.lim x y c), .int .i64 (A.debt x y c)], .bool true]) (by simp [results, Try.results70, go_sem]) rfl ⟨by rw [if_pos hp, hpb], (by repeat (first | with_reducible exact Below.refl _ _ | with_reducible assumption | refine Below.drew ?_ | refine Below.setCell ?_ (by first | exact Nat.le_refl _ | omega | (simp; done) | (simp; omega)) _ | refine Below.alloc ?_ (by first | exact Nat.le_refl _ | omega | (simp; done) | (simp; omega)) _ | refine Below.tr ?_ (Nat.le_refl _) (by assumption) | exact Below.refl _ _ | assumption))⟩
  · have hpb : decide (0 < A.lim x y c) = false := by simpa using hp
    go_enter Try.func70, Try.ntmps70
    go_wp2_with (go_at_call 33; refine (there_yes (h.below (by repeat (first | with_reducible exact Below.refl _ _ | with_reducible assumption | refine Below.drew ?_ | refine Below.setCell ?_ (by first | exact Nat.le_refl _ | omega | (simp; done) | (simp; omega)) _ | refine Below.alloc ?_ (by first | exact Nat.le_refl _ | omega | (simp; done) | (simp; omega)) _ | refine Below.tr ?_ (Nat.le_refl _) (by assumption) | exact Below.refl _ _ | assumption))).mapc).mono ?_; rintro e w' ⟨rfl, rfl⟩)
    refine bodyPost_ret (v := .tuple #[.agg #[.int .u8 0, .int .u8 0, .int .u8 0, .int .i64 0, .int .i64 0], .bool false]) (by simp [results, Try.results70, go_sem]) rfl ⟨by rw [if_neg (by omega), hpb], (by repeat (first | with_reducible exact Below.refl _ _ | with_reducible assumption | refine Below.drew ?_ | refine Below.setCell ?_ (by first | exact Nat.le_refl _ | omega | (simp; done) | (simp; omega)) _ | refine Below.alloc ?_ (by first | exact Nat.le_refl _ | omega | (simp; done) | (simp; omega)) _ | refine Below.tr ?_ (Nat.le_refl _) (by assumption) | exact Below.refl _ _ | assumption))⟩

end Go.Proofs.Ytelcdiceongfdaa
end
section
namespace Go.Proofs.Ytelcdiceongfdaa
open Go.RowKit Go.BigFrame
set_option maxRecDepth 100000

/-- capacities, by both ends -/
abbrev Caps := Nat → Nat → Int
def graphList (G : Caps) : List Value := (List.range 289).map (fun i => Value.int .i64 (G (i / 17) (i % 17))) ++ [.bool true]
def graphCells (G : Caps) : Array Value := (graphList G).toArray
def GraphAt (w : World) (b : Nat) (G : Caps) : Prop := w.heap[b]? = some (.cells (graphCells G) 117 (0, 0))

theorem graphList_get (G : Caps) {x y : Nat} (hx : x ≤ 16) (hy : y ≤ 16) : (graphList G)[x * 17 + y]? = some (.int .i64 (G x y)) := by
  unfold graphList
  rw [List.getElem?_append_left (by simp; omega), List.getElem?_map, List.getElem?_range (by omega)]
  simp only [Option.map_some]
  rw [show (x * 17 + y) / 17 = x by omega, show (x * 17 + y) % 17 = y by omega]
theorem graphList_made (G : Caps) : (graphList G)[289]? = some (.bool true) := by
  unfold graphList
  rw [List.getElem?_append_right (by simp)]; simp
theorem GraphAt.lt {w : World} {b : Nat} {G : Caps} (h : GraphAt w b G) : b < w.heap.size := lt_of_block h
theorem GraphAt.cell {w : World} {b : Nat} {G : Caps} (h : GraphAt w b G) {x y : Nat} (hx : x ≤ 16) (hy : y ≤ 16) : w.cell? ⟨b, x * 17 + y, none⟩ = some (.int .i64 (G x y)) := by
  unfold GraphAt at h
  simp only [World.cell?, h, graphCells]
  simpa using graphList_get G hx hy
theorem GraphAt.made {w : World} {b : Nat} {G : Caps} (h : GraphAt w b G) : w.cell? ⟨b, 289, none⟩ = some (.bool true) := by
  unfold GraphAt at h
  simp only [World.cell?, h, graphCells]
  simpa using graphList_made G
theorem GraphAt.free {w : World} {b : Nat} {G : Caps} (h : GraphAt w b G) (o : Nat) : w.frozen? ⟨b, o, none⟩ = false := by
  unfold GraphAt at h
  simp [World.frozen?, h]
theorem GraphAt.chg {S : List Nat} {w w' : World} {b : Nat} {G : Caps} (h : GraphAt w b G) (hc : Chg S w w') (hb : b ∉ S) : GraphAt w' b G := (hc.block b h.lt hb).trans h
theorem GraphAt.below {w w' : World} {b : Nat} {G : Caps} (h : GraphAt w b G) (hb : Below w.heap.size w w') : GraphAt w' b G := h.chg (S := []) (Chg.of_below hb) (by simp)

theorem gthere_yes {w : World} {b : Nat} (hc : w.cell? ⟨b, 289, none⟩ = some (.bool true)) :
    Calls Try.prog 75 #[.pointer (some ⟨b, 0, none⟩)] w fun e w' => e = .returned (.bool true) ∧ w = w' := by
  go_enter Try.func75, Try.ntmps75
  go_wp2
  go_ret
  exact ⟨rfl, rfl⟩

theorem graphsMay (p : Nat) (hp : p < 256) (w : World) :
    Calls Try.prog 83 #[.int .u8 p] w fun e w' => e = .returned (.bool (decide (1 ≤ p ∧ p ≤ 16))) ∧ w = w' := by
  by_cases h1 : 1 ≤ p
  · go_enter Try.func83, Try.ntmps83
    go_wp2
    go_ret
    exact ⟨ret_bool (by rw [Bool.eq_iff_iff]; simp [h1] <;> omega), rfl⟩
  · go_enter Try.func83, Try.ntmps83
    go_wp2
    go_ret
    exact ⟨ret_bool (by simp <;> omega), rfl⟩

/-- a capacity, as it is told -/
def capOf (G : Caps) (x y : Nat) : Int := if (1 ≤ x ∧ x ≤ 16) ∧ (1 ≤ y ∧ y ≤ 16) then G x y else 0
def CapPost (w : World) (n : Int) (e : Ending) (w' : World) : Prop := e = .returned (.int .i64 n) ∧ w = w'

theorem cap_any {w : World} {b : Nat} {G : Caps} (h : GraphAt w b G) (x y : Nat) (hx : x < 256) (hy : y < 256) :
    Calls Try.prog 78 #[.pointer (some ⟨b, 0, none⟩), .int .u8 x, .int .u8 y] w (CapPost w (capOf G x y)) := by
  have hm := h.made
  by_cases h1 : 1 ≤ x ∧ x ≤ 16
  · have e1 := Lib.hid (show (decide (1 ≤ x ∧ x ≤ 16)) = true by simpa using h1)
    by_cases h2 : 1 ≤ y ∧ y ≤ 16
    · have e2 := Lib.hid (show (decide (1 ≤ y ∧ y ≤ 16)) = true by simpa using h2)
      have hc := h.cell h1.2 h2.2
      have e : capOf G x y = G x y := by unfold capOf; rw [if_pos ⟨h1, h2⟩]
      rw [e]; clear e
      generalize G x y = v at hc ⊢
      go_enter Try.func78, Try.ntmps78
      go_wp2_with (first | (go_at_call 75; refine (gthere_yes hm).mono ?_; rintro e w' ⟨rfl, rfl⟩) | (go_at_call 83; refine (graphsMay _ (by omega) _).mono ?_; rintro e w' ⟨rfl, rfl⟩; first | rw [e1.out] | rw [e2.out]))
      go_ret
      exact ⟨rfl, rfl⟩
    · have e2 := Lib.hid (show (decide (1 ≤ y ∧ y ≤ 16)) = false by simpa using h2)
      have e : capOf G x y = 0 := by unfold capOf; rw [if_neg (fun h => h2 h.2)]
      rw [e]; clear e
      go_enter Try.func78, Try.ntmps78
      go_wp2_with (first | (go_at_call 75; refine (gthere_yes hm).mono ?_; rintro e w' ⟨rfl, rfl⟩) | (go_at_call 83; refine (graphsMay _ (by omega) _).mono ?_; rintro e w' ⟨rfl, rfl⟩; first | rw [e1.out] | rw [e2.out]))
      go_ret
      exact ⟨rfl, rfl⟩
  · have e1 := Lib.hid (show (decide (1 ≤ x ∧ x ≤ 16)) = false by simpa using h1)
    have e : capOf G x y = 0 := by unfold capOf; rw [if_neg (fun h => h1 h.1)]
    rw [e]; clear e
    go_enter Try.func78, Try.ntmps78
    go_wp2_with (first | (go_at_call 75; refine (gthere_yes hm).mono ?_; rintro e w' ⟨rfl, rfl⟩) | (go_at_call 83; refine (graphsMay _ (by omega) _).mono ?_; rintro e w' ⟨rfl, rfl⟩; first | rw [e1.out] | rw [e2.out]))
    go_ret
    exact ⟨rfl, rfl⟩

end Go.Proofs.Ytelcdiceongfdaa
end
section
namespace Go.Proofs.Ytelcdiceongfdaa
open Go.RowKit Go.BigFrame
set_option maxRecDepth 100000

def CopyPost (w : World) (A : Ledger) (e : Ending) (w' : World) : Prop := ∃ b' m', e = .returned (.pointer (some ⟨b', 0, none⟩)) ∧ Below w.heap.size w w' ∧ LedgerAt w' b' m' A ∧ w.heap.size ≤ b' ∧ w.heap.size ≤ m'

set_option maxHeartbeats 1000000 in
theorem ledgersCopy {w : World} {b m : Nat} {A : Ledger} (h : LedgerAt w b m A) :
    Calls Try.prog 16 #[.pointer (some ⟨b, 0, none⟩)] w (CopyPost w A) := by
  have c0 := h.has (p := 0) (by omega)
  have c1 := h.has (p := 1) (by omega)
  have c2 := h.has (p := 2) (by omega)
  have c3 := h.has (p := 3) (by omega)
  have c4 := h.has (p := 4) (by omega)
  have c5 := h.has (p := 5) (by omega)
  have c6 := h.has (p := 6) (by omega)
  have c7 := h.has (p := 7) (by omega)
  have c8 := h.has (p := 8) (by omega)
  have c9 := h.has (p := 9) (by omega)
  have c10 := h.has (p := 10) (by omega)
  have c11 := h.has (p := 11) (by omega)
  have c12 := h.has (p := 12) (by omega)
  have c13 := h.has (p := 13) (by omega)
  have c14 := h.has (p := 14) (by omega)
  have c15 := h.has (p := 15) (by omega)
  have c16 := h.has (p := 16) (by omega)
  have c17 := h.mapc
  have hb := h.lt
  have hM := h.map
  go_enter Try.func16, Try.ntmps16
  go_wp2_with (go_at_call 33; refine (there_yes h.mapc).mono ?_; rintro e w' ⟨rfl, rfl⟩)
  go_region_with ((go_at_call 37; refine (mapsClone (A := A) (show MapAt w.drew m A from hM)).mono ?_; rintro e w1 ⟨rfl, hb1, hz1, hM1⟩; have d0 : w1.cell? ⟨b, 0, none⟩ = _ := (hb1.cell (p := ⟨b, 0, none⟩) hb).trans c0; have d1 : w1.cell? ⟨b, 1, none⟩ = _ := (hb1.cell (p := ⟨b, 1, none⟩) hb).trans c1; have d2 : w1.cell? ⟨b, 2, none⟩ = _ := (hb1.cell (p := ⟨b, 2, none⟩) hb).trans c2; have d3 : w1.cell? ⟨b, 3, none⟩ = _ := (hb1.cell (p := ⟨b, 3, none⟩) hb).trans c3; have d4 : w1.cell? ⟨b, 4, none⟩ = _ := (hb1.cell (p := ⟨b, 4, none⟩) hb).trans c4; have d5 : w1.cell? ⟨b, 5, none⟩ = _ := (hb1.cell (p := ⟨b, 5, none⟩) hb).trans c5; have d6 : w1.cell? ⟨b, 6, none⟩ = _ := (hb1.cell (p := ⟨b, 6, none⟩) hb).trans c6; have d7 : w1.cell? ⟨b, 7, none⟩ = _ := (hb1.cell (p := ⟨b, 7, none⟩) hb).trans c7; have d8 : w1.cell? ⟨b, 8, none⟩ = _ := (hb1.cell (p := ⟨b, 8, none⟩) hb).trans c8; have d9 : w1.cell? ⟨b, 9, none⟩ = _ := (hb1.cell (p := ⟨b, 9, none⟩) hb).trans c9; have d10 : w1.cell? ⟨b, 10, none⟩ = _ := (hb1.cell (p := ⟨b, 10, none⟩) hb).trans c10; have d11 : w1.cell? ⟨b, 11, none⟩ = _ := (hb1.cell (p := ⟨b, 11, none⟩) hb).trans c11; have d12 : w1.cell? ⟨b, 12, none⟩ = _ := (hb1.cell (p := ⟨b, 12, none⟩) hb).trans c12; have d13 : w1.cell? ⟨b, 13, none⟩ = _ := (hb1.cell (p := ⟨b, 13, none⟩) hb).trans c13; have d14 : w1.cell? ⟨b, 14, none⟩ = _ := (hb1.cell (p := ⟨b, 14, none⟩) hb).trans c14; have d15 : w1.cell? ⟨b, 15, none⟩ = _ := (hb1.cell (p := ⟨b, 15, none⟩) hb).trans c15; have d16 : w1.cell? ⟨b, 16, none⟩ = _ := (hb1.cell (p := ⟨b, 16, none⟩) hb).trans c16; have d17 : w1.cell? ⟨b, 17, none⟩ = _ := (hb1.cell (p := ⟨b, 17, none⟩) hb).trans c17))
  all_goals
    go_wp2
    go_ret
    have hB : Below w.heap.size w w1 := Below.trans ((Below.refl _ _).drew) hb1
    have hz : w1.heap.size = w.heap.size + 1 := hz1
    have hM2 : MapAt w1 w.heap.size A := hM1
    refine ⟨_, w.heap.size, rfl, hB.alloc (by omega) _, ⟨by have := alloc_new w1 (.cells (ledgerCells A w.heap.size) 35 (0, 0)); rw [hz] at this; exact this, hM2.alloc _, h.wf⟩, by omega, Nat.le_refl _⟩

end Go.Proofs.Ytelcdiceongfdaa
end
section
namespace Go.Proofs.Ytelcdiceongfdaa
open Go.RowKit Go.BigFrame
set_option maxRecDepth 100000

set_option maxHeartbeats 400000 in
theorem forgive_yes {w : World} {b m : Nat} {A : Ledger} (h : LedgerAt w b m A) (x y c : Nat) (n : Int) (hn : n ≤ 9223372036854775807) (hp : 0 < A.lim x y c) :
    Calls Try.prog 48 #[.pointer (some ⟨b, 0, none⟩), .int .u8 x, .int .u8 y, .int .u8 c, .int .i64 n] w (LPost w b m (A.forgive x y c n)) := by
  have hb := h.lt
  have d1 := h.wf.debt x y c
  have l1 := h.wf.lim_le x y c
  have hl : Hid (∀ w', LedgerAt w' b m A → Calls Try.prog 70 #[.pointer (some ⟨b, 0, none⟩), .int .u8 x, .int .u8 y, .int .u8 c] w' fun e w2 => e = .returned (.tuple #[.agg #[.int .u8 x, .int .u8 y, .int .u8 c, .int .i64 (A.lim x y c), .int .i64 (A.debt x y c)], .bool true]) ∧ Below w'.heap.size w' w2) :=
      fun w' h' => (line_any h' x y c).mono fun e w2 ⟨he, hb⟩ => ⟨by rw [he, if_pos hp, decide_eq_true hp], hb⟩
  have hF : A.forgive x y c n = (if n < 1 then (1, A) else if A.debt x y c < n then (14, A) else (0, A.setDebt x y c (A.debt x y c - n))) := by
      unfold Ledger.forgive; rw [if_neg (show ¬ A.lim x y c = 0 by omega)]
  rw [hF]
  have HF := Lib.hid hF; clear hF
  by_cases h1 : n < 1
  · rw [if_pos h1]
    go_enter Try.func48, Try.ntmps48
    go_wp2_with (first | (go_at_call 70; refine (hl.out _ (h.below (by repeat (first | with_reducible exact Below.refl _ _ | with_reducible assumption | refine Below.drew ?_ | refine Below.setCell ?_ (by first | exact Nat.le_refl _ | omega | (simp; done) | (simp; omega)) _ | refine Below.alloc ?_ (by first | exact Nat.le_refl _ | omega | (simp; done) | (simp; omega)) _ | refine Below.tr ?_ (Nat.le_refl _) (by assumption) | exact Below.refl _ _ | assumption)))).mono ?_; rintro e w1 ⟨rfl, hb1⟩; have hB := Below.tr (Below.refl w.heap.size w) (Nat.le_refl _) hb1; have h' := h.below hB) | (go_at_call 33; refine (there_yes (h'.below (by repeat (first | with_reducible exact Below.refl _ _ | with_reducible assumption | refine Below.drew ?_ | refine Below.setCell ?_ (by first | exact Nat.le_refl _ | omega | (simp; done) | (simp; omega)) _ | refine Below.alloc ?_ (by first | exact Nat.le_refl _ | omega | (simp; done) | (simp; omega)) _ | refine Below.tr ?_ (Nat.le_refl _) (by assumption) | exact Below.refl _ _ | assumption))).mapc).mono ?_; rintro e w' ⟨rfl, rfl⟩))
    go_ret
    have hz := hB.size
    have hB2 : Below w.heap.size w (w1.alloc (.cells #[.int .u8 x, .int .u8 y, .int .u8 c, .int .i64 (A.lim x y c), .int .i64 (A.debt x y c)] 137)) := (by repeat (first | with_reducible exact Below.refl _ _ | with_reducible assumption | refine Below.drew ?_ | refine Below.setCell ?_ (by first | exact Nat.le_refl _ | omega | (simp; done) | (simp; omega)) _ | refine Below.alloc ?_ (by first | exact Nat.le_refl _ | omega | (simp; done) | (simp; omega)) _ | refine Below.tr ?_ (Nat.le_refl _) (by assumption) | exact Below.refl _ _ | assumption))
    exact ⟨rfl, Chg.of_below hB2, h.below hB2⟩
  · rw [if_neg h1]
    by_cases h2 : A.debt x y c < n
    · rw [if_pos h2]
      go_enter Try.func48, Try.ntmps48
      go_wp2_with (first | (go_at_call 70; refine (hl.out _ (h.below (by repeat (first | with_reducible exact Below.refl _ _ | with_reducible assumption | refine Below.drew ?_ | refine Below.setCell ?_ (by first | exact Nat.le_refl _ | omega | (simp; done) | (simp; omega)) _ | refine Below.alloc ?_ (by first | exact Nat.le_refl _ | omega | (simp; done) | (simp; omega)) _ | refine Below.tr ?_ (Nat.le_refl _) (by assumption) | exact Below.refl _ _ | assumption)))).mono ?_; rintro e w1 ⟨rfl, hb1⟩; have hB := Below.tr (Below.refl w.heap.size w) (Nat.le_refl _) hb1; have h' := h.below hB) | (go_at_call 33; refine (there_yes (h'.below (by repeat (first | with_reducible exact Below.refl _ _ | with_reducible assumption | refine Below.drew ?_ | refine Below.setCell ?_ (by first | exact Nat.le_refl _ | omega | (simp; done) | (simp; omega)) _ | refine Below.alloc ?_ (by first | exact Nat.le_refl _ | omega | (simp; done) | (simp; omega)) _ | refine Below.tr ?_ (Nat.le_refl _) (by assumption) | exact Below.refl _ _ | assumption))).mapc).mono ?_; rintro e w' ⟨rfl, rfl⟩))
      go_ret
      have hz := hB.size
      have hB2 : Below w.heap.size w (w1.alloc (.cells #[.int .u8 x, .int .u8 y, .int .u8 c, .int .i64 (A.lim x y c), .int .i64 (A.debt x y c)] 137)) := (by repeat (first | with_reducible exact Below.refl _ _ | with_reducible assumption | refine Below.drew ?_ | refine Below.setCell ?_ (by first | exact Nat.le_refl _ | omega | (simp; done) | (simp; omega)) _ | refine Below.alloc ?_ (by first | exact Nat.le_refl _ | omega | (simp; done) | (simp; omega)) _ | refine Below.tr ?_ (Nat.le_refl _) (by assumption) | exact Below.refl _ _ | assumption))
      exact ⟨rfl, Chg.of_below hB2, h.below hB2⟩
    · rw [if_neg h2]
      go_enter Try.func48, Try.ntmps48
      go_wp2_with (first | (go_at_call 70; refine (hl.out _ (h.below (by repeat (first | with_reducible exact Below.refl _ _ | with_reducible assumption | refine Below.drew ?_ | refine Below.setCell ?_ (by first | exact Nat.le_refl _ | omega | (simp; done) | (simp; omega)) _ | refine Below.alloc ?_ (by first | exact Nat.le_refl _ | omega | (simp; done) | (simp; omega)) _ | refine Below.tr ?_ (Nat.le_refl _) (by assumption) | exact Below.refl _ _ | assumption)))).mono ?_; rintro e w1 ⟨rfl, hb1⟩; have hB := Below.tr (Below.refl w.heap.size w) (Nat.le_refl _) hb1; have h' := h.below hB) | (go_at_call 33; refine (there_yes (h'.below (by repeat (first | with_reducible exact Below.refl _ _ | with_reducible assumption | refine Below.drew ?_ | refine Below.setCell ?_ (by first | exact Nat.le_refl _ | omega | (simp; done) | (simp; omega)) _ | refine Below.alloc ?_ (by first | exact Nat.le_refl _ | omega | (simp; done) | (simp; omega)) _ | refine Below.tr ?_ (Nat.le_refl _) (by assumption) | exact Below.refl _ _ | assumption))).mapc).mono ?_; rintro e w' ⟨rfl, rfl⟩))
      have hz := hB.size
      have hB2 : Below w.heap.size w (w1.alloc (.cells #[.int .u8 x, .int .u8 y, .int .u8 c, .int .i64 (A.lim x y c), .int .i64 (A.debt x y c)] 137)) := (by repeat (first | with_reducible exact Below.refl _ _ | with_reducible assumption | refine Below.drew ?_ | refine Below.setCell ?_ (by first | exact Nat.le_refl _ | omega | (simp; done) | (simp; omega)) _ | refine Below.alloc ?_ (by first | exact Nat.le_refl _ | omega | (simp; done) | (simp; omega)) _ | refine Below.tr ?_ (Nat.le_refl _) (by assumption) | exact Below.refl _ _ | assumption))
      have hA := h.below hB2
      have hz0 : A.debt x y c + -n = A.debt x y c - n := by omega
      refine (add_any hA x y c (-n) (fun _ => by omega) (by omega) (by omega)).mono ?_
      rintro e w2 ⟨rfl, hC2, hL2⟩
      rw [hz0] at hL2
      go_wp2
      go_ret
      exact ⟨rfl, (Chg.of_below (S := [m]) hB2).trans hC2 (by simp), hL2⟩

theorem forgive_no {w : World} {b m : Nat} {A : Ledger} (h : LedgerAt w b m A) (x y c : Nat) (n : Int) (hn : n ≤ 9223372036854775807) (hp : A.lim x y c = 0) :
    Calls Try.prog 48 #[.pointer (some ⟨b, 0, none⟩), .int .u8 x, .int .u8 y, .int .u8 c, .int .i64 n] w (LPost w b m (A.forgive x y c n)) := by
  have hb := h.lt
  have hl : Hid (∀ w', LedgerAt w' b m A → Calls Try.prog 70 #[.pointer (some ⟨b, 0, none⟩), .int .u8 x, .int .u8 y, .int .u8 c] w' fun e w2 => e = .returned (.tuple #[.agg #[.int .u8 0, .int .u8 0, .int .u8 0, .int .i64 0, .int .i64 0], .bool false]) ∧ Below w'.heap.size w' w2) :=
      fun w' h' => (line_any h' x y c).mono fun e w2 ⟨he, hb⟩ => ⟨by rw [he, if_neg (by omega), decide_eq_false (by omega)], hb⟩
  have hF : A.forgive x y c n = (if n < 1 then (1, A) else (7, A)) := by
      unfold Ledger.forgive; rw [if_pos hp]
  rw [hF]
  clear hF hp
  by_cases h1 : n < 1
  · rw [if_pos h1]
    go_enter Try.func48, Try.ntmps48
    go_wp2_with (first | (go_at_call 70; refine (hl.out _ (h.below (by repeat (first | with_reducible exact Below.refl _ _ | with_reducible assumption | refine Below.drew ?_ | refine Below.setCell ?_ (by first | exact Nat.le_refl _ | omega | (simp; done) | (simp; omega)) _ | refine Below.alloc ?_ (by first | exact Nat.le_refl _ | omega | (simp; done) | (simp; omega)) _ | refine Below.tr ?_ (Nat.le_refl _) (by assumption) | exact Below.refl _ _ | assumption)))).mono ?_; rintro e w1 ⟨rfl, hb1⟩; have hB := Below.tr (Below.refl w.heap.size w) (Nat.le_refl _) hb1; have h' := h.below hB) | (go_at_call 33; refine (there_yes (h'.below (by repeat (first | with_reducible exact Below.refl _ _ | with_reducible assumption | refine Below.drew ?_ | refine Below.setCell ?_ (by first | exact Nat.le_refl _ | omega | (simp; done) | (simp; omega)) _ | refine Below.alloc ?_ (by first | exact Nat.le_refl _ | omega | (simp; done) | (simp; omega)) _ | refine Below.tr ?_ (Nat.le_refl _) (by assumption) | exact Below.refl _ _ | assumption))).mapc).mono ?_; rintro e w' ⟨rfl, rfl⟩))
    go_ret
    have hz := hB.size
    have hB2 : Below w.heap.size w (w1.alloc (.cells #[.int .u8 0, .int .u8 0, .int .u8 0, .int .i64 0, .int .i64 0] 137)) := (by repeat (first | with_reducible exact Below.refl _ _ | with_reducible assumption | refine Below.drew ?_ | refine Below.setCell ?_ (by first | exact Nat.le_refl _ | omega | (simp; done) | (simp; omega)) _ | refine Below.alloc ?_ (by first | exact Nat.le_refl _ | omega | (simp; done) | (simp; omega)) _ | refine Below.tr ?_ (Nat.le_refl _) (by assumption) | exact Below.refl _ _ | assumption))
    exact ⟨rfl, Chg.of_below hB2, h.below hB2⟩
  · rw [if_neg h1]
    go_enter Try.func48, Try.ntmps48
    go_wp2_with (first | (go_at_call 70; refine (hl.out _ (h.below (by repeat (first | with_reducible exact Below.refl _ _ | with_reducible assumption | refine Below.drew ?_ | refine Below.setCell ?_ (by first | exact Nat.le_refl _ | omega | (simp; done) | (simp; omega)) _ | refine Below.alloc ?_ (by first | exact Nat.le_refl _ | omega | (simp; done) | (simp; omega)) _ | refine Below.tr ?_ (Nat.le_refl _) (by assumption) | exact Below.refl _ _ | assumption)))).mono ?_; rintro e w1 ⟨rfl, hb1⟩; have hB := Below.tr (Below.refl w.heap.size w) (Nat.le_refl _) hb1; have h' := h.below hB) | (go_at_call 33; refine (there_yes (h'.below (by repeat (first | with_reducible exact Below.refl _ _ | with_reducible assumption | refine Below.drew ?_ | refine Below.setCell ?_ (by first | exact Nat.le_refl _ | omega | (simp; done) | (simp; omega)) _ | refine Below.alloc ?_ (by first | exact Nat.le_refl _ | omega | (simp; done) | (simp; omega)) _ | refine Below.tr ?_ (Nat.le_refl _) (by assumption) | exact Below.refl _ _ | assumption))).mapc).mono ?_; rintro e w' ⟨rfl, rfl⟩))
    go_ret
    have hz := hB.size
    have hB2 : Below w.heap.size w (w1.alloc (.cells #[.int .u8 0, .int .u8 0, .int .u8 0, .int .i64 0, .int .i64 0] 137)) := (by repeat (first | with_reducible exact Below.refl _ _ | with_reducible assumption | refine Below.drew ?_ | refine Below.setCell ?_ (by first | exact Nat.le_refl _ | omega | (simp; done) | (simp; omega)) _ | refine Below.alloc ?_ (by first | exact Nat.le_refl _ | omega | (simp; done) | (simp; omega)) _ | refine Below.tr ?_ (Nat.le_refl _) (by assumption) | exact Below.refl _ _ | assumption))
    exact ⟨rfl, Chg.of_below hB2, h.below hB2⟩

theorem forgive_any {w : World} {b m : Nat} {A : Ledger} (h : LedgerAt w b m A) (x y c : Nat) (n : Int) (hn : n ≤ 9223372036854775807) :
    Calls Try.prog 48 #[.pointer (some ⟨b, 0, none⟩), .int .u8 x, .int .u8 y, .int .u8 c, .int .i64 n] w (LPost w b m (A.forgive x y c n)) := by
  by_cases hp : 0 < A.lim x y c
  · exact forgive_yes h x y c n hn hp
  · have := h.wf.debt x y c
    exact forgive_no h x y c n hn (by omega)

end Go.Proofs.Ytelcdiceongfdaa
end
