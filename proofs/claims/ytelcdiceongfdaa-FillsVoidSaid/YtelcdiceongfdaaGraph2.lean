/- Walks of the layer graphs, second part: a push, another graph with the same. -/
import Derived.Test.YtelcdiceongfdaaGraph
import Derived.Deep.WholeRow
namespace Go.Proofs.Ytelcdiceongfdaa
open Go.RowKit Go.BigFrame
set_option maxRecDepth 100000

def setG (G : Caps) (x y : Nat) (n : Int) : Caps := fun p q => if p = x ∧ q = y then n else G p q
def pushG (G : Caps) (f t : Nat) (n : Int) : Caps := setG (setG G f t (G f t - n)) t f (setG G f t (G f t - n) t f + n)
/-- a push: the error, and the graph behind it -/
def gpush (G : Caps) (f t : Nat) (n : Int) : Nat × Caps := if n < 1 then (1, G) else if capOf G f t < n then (11, G) else (0, pushG G f t n)

theorem graphList_set (G : Caps) {x y : Nat} (hx : x ≤ 16) (hy : y ≤ 16) (n : Int) : (graphList G).set (x * 17 + y) (.int .i64 n) = graphList (setG G x y n) := by
  unfold graphList
  rw [List.set_append_left _ _ (by simp; omega)]
  congr 1
  apply List.ext_getElem
  · simp
  · intro i h1 h2
    have hi : i < 289 := by simpa using h2
    rw [List.getElem_set]
    simp only [List.getElem_map, List.getElem_range, setG]
    by_cases e : x * 17 + y = i
    · subst e
      rw [if_pos rfl, if_pos ⟨by omega, by omega⟩]
    · rw [if_neg e, if_neg (by omega)]
theorem GraphAt.set {w : World} {b : Nat} {G : Caps} (h : GraphAt w b G) {x y : Nat} (hx : x ≤ 16) (hy : y ≤ 16) (n : Int) : GraphAt (w.setCell ⟨b, x * 17 + y, none⟩ (.int .i64 n)) b (setG G x y n) := by
  unfold GraphAt at *
  rw [heap_setCell_same h]
  unfold graphCells
  rw [List.setIfInBounds_toArray, graphList_set G hx hy]

theorem Chg.drew {S : List Nat} {w w' : World} (h : Chg S w w') : Chg S w w'.drew := ⟨h.os, h.tape, h.output, h.size, h.block⟩

def GPushPost (w : World) (b : Nat) (r : Nat × Caps) (e : Ending) (w' : World) : Prop := e = .returned (.int .i64 r.1) ∧ Chg [b] w w' ∧ GraphAt w' b r.2

set_option maxHeartbeats 1000000 in
theorem gpush_ok {w : World} {b : Nat} {G : Caps} (h : GraphAt w b G) (x y : Nat) (n : Int) (h1 : 1 ≤ x ∧ x ≤ 16) (h2 : 1 ≤ y ∧ y ≤ 16) (hn : 1 ≤ n) (hc : n ≤ G x y) (hG : G x y ≤ 2305843009213693952) (hG' : 0 ≤ G y x ∧ G y x ≤ 2305843009213693952) :
    Calls Try.prog 64 #[.pointer (some ⟨b, 0, none⟩), .int .u8 x, .int .u8 y, .int .i64 n] w (GPushPost w b (0, pushG G x y n)) := by
  have hm := h.made
  have hb := h.lt
  have c1 := h.cell h1.2 h2.2
  have hf := h.free
  have hcap : Hid (capOf G x y = G x y) := by unfold capOf; exact if_pos ⟨h1, h2⟩
  obtain ⟨m, hm2⟩ : ∃ m, setG G x y (G x y - n) y x = m := ⟨_, rfl⟩
  have hmb : -n ≤ m ∧ m ≤ 2305843009213693952 := by
    rw [← hm2]; unfold setG
    split <;> omega
  have hg1 := h.set h1.2 h2.2 (G x y - n)
  have hg2 := hg1.set h2.2 h1.2 (m + n)
  have c2 := hg1.cell h2.2 h1.2
  rw [hm2] at c2
  have hP : pushG G x y n = setG (setG G x y (G x y - n)) y x (m + n) := by unfold pushG; rw [hm2]
  have HP := Lib.hid hP
  clear hP hm2
  have Hg2 := Lib.hid hg2
  clear hg1 hg2
  generalize G x y = v at *
  go_enter Try.func64, Try.ntmps64
  go_wp2_with (first | (go_at_call 75; refine (gthere_yes hm).mono ?_; rintro e w' ⟨rfl, rfl⟩) | (go_at_call 78; refine (cap_any h x y (by omega) (by omega)).mono ?_; rintro e w' ⟨rfl, rfl⟩; rw [hcap.out]))
  go_region
  go_wp2
  go_region
  go_wp2
  go_ret
  refine ⟨rfl, (((Chg.setCell w b _ _ (by simp)).trans (Chg.setCell _ b _ _ (by simp)) (fun z hz _ => hz)).drew).drew, ?_⟩
  rw [HP.out]
  exact Hg2.out

theorem gpush_any {w : World} {b : Nat} {G : Caps} (h : GraphAt w b G) (x y : Nat) (n : Int) (hx : x < 256) (hy : y < 256) (hG : G x y ≤ 2305843009213693952) (hG' : 0 ≤ G y x ∧ G y x ≤ 2305843009213693952) :
    Calls Try.prog 64 #[.pointer (some ⟨b, 0, none⟩), .int .u8 x, .int .u8 y, .int .i64 n] w (GPushPost w b (gpush G x y n)) := by
  have hm := h.made
  by_cases h1 : n < 1
  · have e : gpush G x y n = (1, G) := by unfold gpush; rw [if_pos h1]
    rw [e]; clear e
    go_enter Try.func64, Try.ntmps64
    go_wp2_with (first | (go_at_call 75; refine (gthere_yes hm).mono ?_; rintro e w' ⟨rfl, rfl⟩))
    go_ret
    exact ⟨rfl, Chg.refl _ _, h⟩
  · by_cases h2 : capOf G x y < n
    · have e : gpush G x y n = (11, G) := by unfold gpush; rw [if_neg h1, if_pos h2]
      rw [e]; clear e
      have hca := cap_any h x y hx hy
      generalize capOf G x y = v at *
      go_enter Try.func64, Try.ntmps64
      go_wp2_with (first | (go_at_call 75; refine (gthere_yes hm).mono ?_; rintro e w' ⟨rfl, rfl⟩) | (go_at_call 78; refine hca.mono ?_; rintro e w' ⟨rfl, rfl⟩))
      go_ret
      exact ⟨rfl, Chg.refl _ _, h⟩
    · have e : gpush G x y n = (0, pushG G x y n) := by unfold gpush; rw [if_neg h1, if_neg h2]
      rw [e]
      have hin : (1 ≤ x ∧ x ≤ 16) ∧ (1 ≤ y ∧ y ≤ 16) := by
        by_cases hin : (1 ≤ x ∧ x ≤ 16) ∧ (1 ≤ y ∧ y ≤ 16)
        · exact hin
        · unfold capOf at h2; rw [if_neg hin] at h2; omega
      have hc : capOf G x y = G x y := by unfold capOf; exact if_pos hin
      exact gpush_ok h x y n hin.1 hin.2 (by omega) (by omega) hG hG'

/-! ### a whole graph, made, read, stored -/
def zeroG : Array Value := (List.replicate 289 (Value.int .i64 0) ++ [Value.bool false]).toArray
def graphBuild : Sem Value := Instr.build 117 #[(1, .bool true)]
@[go_sem] theorem to_graphBuild : Instr.build 117 #[(1, Value.bool true)] = graphBuild := rfl
theorem infoGraph0 : ((Try.prog).info? 117).map (fun i => (i.zero, i.size)) = some (some (.agg zeroG), 290) := by kernel_rfl
theorem infoGraph : ((Try.prog).info? 117).map (·.size) = some 290 := (zero_of_info infoGraph0).2
theorem graphCells_size (G : Caps) : (graphCells G).size = 290 := by simp [graphCells, graphList]
theorem zeroG_size : zeroG.size = 290 := by simp [zeroG]
theorem graphCells_one (G : Caps) : (graphCells G).all (·.oneCell') = true := by
  rw [Array.all_eq_true']
  intro v hv
  simp only [graphCells, graphList, List.mem_toArray, List.mem_append, List.mem_map, List.mem_singleton] at hv
  rcases hv with ⟨i, _, rfl⟩ | rfl <;> rfl
theorem zeroValue_graph (w : World) : (zeroValue 117).run Try.prog w = .ok (.agg zeroG) w := (zero_of_info infoGraph0).1 w
@[go_sem] theorem run_graphBuild (w : World) : graphBuild.run Try.prog w = .ok (.agg (graphCells fun _ _ => 0)) w := by
  unfold graphBuild Instr.build
  rw [Sem.run_bind, zeroValue_graph]
  kernel_rfl
theorem wpl_load_graph {ops : Array Oper} {Q : Exit → Act → World → Prop} {rest : List Oper} {a : Act} {w : World} {dst : Option Tmp} {t : TypeId} {pos : String} {after : Array Edge} {x : Operand} {b : Nat} {G : Caps}
    (hg : GraphAt w b G) (hx : a.eval x = .pointer (some ⟨b, 0, none⟩)) (h : wpList Try.prog ops Q rest (a.put dst (.agg (graphCells G))) w) :
    wpList Try.prog ops Q ({ dst, op := .load 117 x, type := t, pos, after, guard := none } :: rest) a w :=
  wpList_load_row rfl _ _ rfl b hx _ (graphCells G) (0, 0) _ hg Try.underlying117 rfl (by rw [graphCells_size]; exact infoGraph) h
theorem wpl_store_graph {ops : Array Oper} {Q : Exit → Act → World → Prop} {rest : List Oper} {a : Act} {w : World} {dst : Option Tmp} {t : TypeId} {pos : String} {after : Array Edge} {x v : Operand} {G : Caps} {cs : Array Value}
    (hx : a.eval x = .pointer (some ⟨w.heap.size, 0, none⟩)) (hv : a.eval v = .agg (graphCells G)) (hcs : cs.size = 290) (h : wpList Try.prog ops Q rest (a.put dst undef) (w.alloc (.cells (graphCells G) 117))) :
    wpList Try.prog ops Q ({ dst, op := .store 117 x v, type := t, pos, after, guard := none } :: rest) a (w.alloc (.cells cs 117)) := by
  have hr := run_storeAt_new (P := Try.prog) w 117 cs (graphCells G) (by rw [graphCells_size]; exact infoGraph) (by rw [hcs, graphCells_size]) (graphCells_one G)
  unfold wpList
  rw [if_pos (by simp [Region.wanted])]
  left
  unfold Oper.wp
  simp only [execOp, hx, hv, Sem.run_bind, hr, Result.andThen_ok]
  exact h

/-! ### Copy -/
def GCopyPost (w : World) (G : Caps) (e : Ending) (w' : World) : Prop := e = .returned (.pointer (some ⟨w.heap.size, 0, none⟩)) ∧ Below w.heap.size w w' ∧ GraphAt w' w.heap.size G ∧ w'.heap.size = w.heap.size + 1
theorem gcopy {w : World} {b : Nat} {G : Caps} (h : GraphAt w b G) :
    Calls Try.prog 61 #[.pointer (some ⟨b, 0, none⟩)] w (GCopyPost w G) := by
  have hm := h.made
  have hb := h.lt
  go_enter Try.func61, Try.ntmps61
  go_wp2_with (first | (go_at_call 75; refine (gthere_yes hm).mono ?_; rintro e w' ⟨rfl, rfl⟩) | refine wpl_load_graph h rfl ?_ | refine wpl_store_graph (G := G) (cs := Try.zeroCells117) rfl rfl (by kernel_rfl) ?_)
  go_ret
  exact ⟨rfl, (by repeat (first | with_reducible exact Below.refl _ _ | with_reducible assumption | refine Below.drew ?_ | refine Below.setCell ?_ (by first | exact Nat.le_refl _ | omega | (simp; done) | (simp; omega)) _ | refine Below.alloc ?_ (by first | exact Nat.le_refl _ | omega | (simp; done) | (simp; omega)) _ | refine Below.tr ?_ (Nat.le_refl _) (by assumption) | exact Below.refl _ _ | assumption)), alloc_new w _, by simp⟩

end Go.Proofs.Ytelcdiceongfdaa
