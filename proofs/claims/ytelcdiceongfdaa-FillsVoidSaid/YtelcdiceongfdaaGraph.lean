/- Walks of the layer graphs, first part: a graph in memory, a capacity. -/
import Derived.Test.YtelcdiceongfdaaLedger4
namespace Go.Proofs.Ytelcdiceongfdaa
open Go.RowKit Go.BigFrame
set_option maxRecDepth 100000

/-- capacities, by both ends -/
abbrev Caps := Nat → Nat → Int
def graphList (G : Caps) : List Value := (List.range 289).map (fun i => Value.int .i64 (G (i / 17) (i % 17))) ++ [.bool true]
def graphCells (G : Caps) : Array Value := (graphList G).toArray
def GraphAt (w : World) (b : Nat) (G : Caps) : Prop := w.heap[b]? = some (.cells (graphCells G) 117 (0, 0))

theorem graphList_get (G : Caps) {x y : Nat} (hx : x ≤ 16) (hy : y ≤ 16) : (graphList G)[x * 17 + y]? = some (.int .i64 (G x y)) := by
  unfold graphList
  rw [List.getElem?_append_left (by simp; omega), List.getElem?_map, List.getElem?_range (by omega)]
  simp only [Option.map_some]
  rw [show (x * 17 + y) / 17 = x by omega, show (x * 17 + y) % 17 = y by omega]
theorem graphList_made (G : Caps) : (graphList G)[289]? = some (.bool true) := by
  unfold graphList
  rw [List.getElem?_append_right (by simp)]; simp
theorem GraphAt.lt {w : World} {b : Nat} {G : Caps} (h : GraphAt w b G) : b < w.heap.size := lt_of_block h
theorem GraphAt.cell {w : World} {b : Nat} {G : Caps} (h : GraphAt w b G) {x y : Nat} (hx : x ≤ 16) (hy : y ≤ 16) : w.cell? ⟨b, x * 17 + y, none⟩ = some (.int .i64 (G x y)) := by
  unfold GraphAt at h
  simp only [World.cell?, h, graphCells]
  simpa using graphList_get G hx hy
theorem GraphAt.made {w : World} {b : Nat} {G : Caps} (h : GraphAt w b G) : w.cell? ⟨b, 289, none⟩ = some (.bool true) := by
  unfold GraphAt at h
  simp only [World.cell?, h, graphCells]
  simpa using graphList_made G
theorem GraphAt.free {w : World} {b : Nat} {G : Caps} (h : GraphAt w b G) (o : Nat) : w.frozen? ⟨b, o, none⟩ = false := by
  unfold GraphAt at h
  simp [World.frozen?, h]
theorem GraphAt.chg {S : List Nat} {w w' : World} {b : Nat} {G : Caps} (h : GraphAt w b G) (hc : Chg S w w') (hb : b ∉ S) : GraphAt w' b G := (hc.block b h.lt hb).trans h
theorem GraphAt.below {w w' : World} {b : Nat} {G : Caps} (h : GraphAt w b G) (hb : Below w.heap.size w w') : GraphAt w' b G := h.chg (S := []) (Chg.of_below hb) (by simp)

theorem gthere_yes {w : World} {b : Nat} (hc : w.cell? ⟨b, 289, none⟩ = some (.bool true)) :
    Calls Try.prog 75 #[.pointer (some ⟨b, 0, none⟩)] w fun e w' => e = .returned (.bool true) ∧ w = w' := by
  go_enter Try.func75, Try.ntmps75
  go_wp2
  go_ret
  exact ⟨rfl, rfl⟩

theorem graphsMay (p : Nat) (hp : p < 256) (w : World) :
    Calls Try.prog 83 #[.int .u8 p] w fun e w' => e = .returned (.bool (decide (1 ≤ p ∧ p ≤ 16))) ∧ w = w' := by
  by_cases h1 : 1 ≤ p
  · go_enter Try.func83, Try.ntmps83
    go_wp2
    go_ret
    exact ⟨ret_bool (by rw [Bool.eq_iff_iff]; simp [h1] <;> omega), rfl⟩
  · go_enter Try.func83, Try.ntmps83
    go_wp2
    go_ret
    exact ⟨ret_bool (by simp <;> omega), rfl⟩

/-- a capacity, as it is told -/
def capOf (G : Caps) (x y : Nat) : Int := if (1 ≤ x ∧ x ≤ 16) ∧ (1 ≤ y ∧ y ≤ 16) then G x y else 0
def CapPost (w : World) (n : Int) (e : Ending) (w' : World) : Prop := e = .returned (.int .i64 n) ∧ w = w'

theorem cap_any {w : World} {b : Nat} {G : Caps} (h : GraphAt w b G) (x y : Nat) (hx : x < 256) (hy : y < 256) :
    Calls Try.prog 78 #[.pointer (some ⟨b, 0, none⟩), .int .u8 x, .int .u8 y] w (CapPost w (capOf G x y)) := by
  have hm := h.made
  by_cases h1 : 1 ≤ x ∧ x ≤ 16
  · have e1 := Lib.hid (show (decide (1 ≤ x ∧ x ≤ 16)) = true by simpa using h1)
    by_cases h2 : 1 ≤ y ∧ y ≤ 16
    · have e2 := Lib.hid (show (decide (1 ≤ y ∧ y ≤ 16)) = true by simpa using h2)
      have hc := h.cell h1.2 h2.2
      have e : capOf G x y = G x y := by unfold capOf; rw [if_pos ⟨h1, h2⟩]
      rw [e]; clear e
      generalize G x y = v at hc ⊢
      go_enter Try.func78, Try.ntmps78
      go_wp2_with (first | (go_at_call 75; refine (gthere_yes hm).mono ?_; rintro e w' ⟨rfl, rfl⟩) | (go_at_call 83; refine (graphsMay _ (by omega) _).mono ?_; rintro e w' ⟨rfl, rfl⟩; first | rw [e1.out] | rw [e2.out]))
      go_ret
      exact ⟨rfl, rfl⟩
    · have e2 := Lib.hid (show (decide (1 ≤ y ∧ y ≤ 16)) = false by simpa using h2)
      have e : capOf G x y = 0 := by unfold capOf; rw [if_neg (fun h => h2 h.2)]
      rw [e]; clear e
      go_enter Try.func78, Try.ntmps78
      go_wp2_with (first | (go_at_call 75; refine (gthere_yes hm).mono ?_; rintro e w' ⟨rfl, rfl⟩) | (go_at_call 83; refine (graphsMay _ (by omega) _).mono ?_; rintro e w' ⟨rfl, rfl⟩; first | rw [e1.out] | rw [e2.out]))
      go_ret
      exact ⟨rfl, rfl⟩
  · have e1 := Lib.hid (show (decide (1 ≤ x ∧ x ≤ 16)) = false by simpa using h1)
    have e : capOf G x y = 0 := by unfold capOf; rw [if_neg (fun h => h1 h.1)]
    rw [e]; clear e
    go_enter Try.func78, Try.ntmps78
    go_wp2_with (first | (go_at_call 75; refine (gthere_yes hm).mono ?_; rintro e w' ⟨rfl, rfl⟩) | (go_at_call 83; refine (graphsMay _ (by omega) _).mono ?_; rintro e w' ⟨rfl, rfl⟩; first | rw [e1.out] | rw [e2.out]))
    go_ret
    exact ⟨rfl, rfl⟩

end Go.Proofs.Ytelcdiceongfdaa
