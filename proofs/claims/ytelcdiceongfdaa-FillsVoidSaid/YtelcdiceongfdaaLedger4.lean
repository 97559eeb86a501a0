/- Walks of the layer ledgers, fourth part: a new ledger, another one with the same, a line, what is forgiven. -/
import Derived.Test.YtelcdiceongfdaaLedger3
import Derived.Laws.Externs
import Derived.Deep.RegionWith
namespace Go.Proofs.Ytelcdiceongfdaa
open Go.RowKit Go.BigFrame
set_option maxRecDepth 100000

theorem alloc_new (w : World) (o : Obj) : (w.alloc o).heap[w.heap.size]? = some o := by
  show (w.heap.push o)[w.heap.size]? = _
  simp
theorem mapRep_empty (clk : Nat) : MapRep #[] clk Ledger.empty :=
  ⟨fun e he => by simp at he, fun a b c h => by simp [Ledger.empty] at h, by simp, fun e he => by simp at he, by simp⟩

theorem ledgersNew (w : World) :
    Calls Try.prog 5 #[] w fun e w' => e = .returned (.pointer (some ⟨w.heap.size + 1, 0, none⟩)) ∧ Below w.heap.size w w' ∧ w'.heap.size = w.heap.size + 2 ∧ LedgerAt w' (w.heap.size + 1) w.heap.size .empty := by
  have hmm := @run_makeMap Try.prog
  go_enter Try.func5, Try.ntmps5
  go_wp2
  go_ret
  refine ⟨rfl, (by repeat (first | with_reducible exact Below.refl _ _ | with_reducible assumption | refine Below.drew ?_ | refine Below.setCell ?_ (by first | exact Nat.le_refl _ | omega | (simp; done) | (simp; omega)) _ | refine Below.alloc ?_ (by first | exact Nat.le_refl _ | omega | (simp; done) | (simp; omega)) _ | refine Below.tr ?_ (Nat.le_refl _) (by assumption) | exact Below.refl _ _ | assumption)), by simp, ?_, ⟨#[], 0, ?_, mapRep_empty 0⟩, Ledger.empty_wf⟩
  · have := alloc_new (w.alloc (.map #[] 0)) (.cells (ledgerCells Ledger.empty w.heap.size) 35 (0, 0))
    rw [show ∀ (w : World) o, (w.alloc o).heap.size = w.heap.size + 1 from fun w o => by simp] at this
    exact this
  · exact (Below.heap_alloc _ _ _ (by simp)).trans (alloc_new w _)

/-! ### Copy -/
theorem run_mapsClone {w : World} {r : Nat} {es : Array MapEntry} {clock : Nat} (t : TypeId) (hb : w.heap[r]? = some (.map es clock)) :
    (Extern.MapsClone.clone #[.iface t (.map (some r))]).run Try.prog w = .ok (.iface t (.map (some w.heap.size))) (w.alloc (.map es clock)) := by
  have e : Extern.MapsClone.clone #[.iface t (.map (some r))] = (getObj r).bind (fun o => match o with
      | .map entries clock => (newObj (.map entries clock)).bind fun k => .pure (.iface t (.map (some k)))
      | _ => stuck "maps.clone: a map expected") := rfl
  rw [e]
  show ((getObj r) >>= _).run Try.prog w = _
  rw [Sem.run_bind, run_getObj_map hb]
  rfl
theorem run_callClone {w : World} {r : Nat} {es : Array MapEntry} {clock : Nat} (t : TypeId) (hb : w.heap[r]? = some (.map es clock)) :
    (callFunc 53 #[.iface t (.map (some r))]).run Try.prog w = .ok (.value (.iface t (.map (some w.heap.size)))) (w.alloc (.map es clock)) := by
  rw [run_callFunc_extern Try.func53 (by kernel_rfl) (by kernel_rfl) (by kernel_rfl) (e := Extern.MapsClone.clone) (by kernel_rfl), run_mapsClone t hb]
  rfl
@[go_sem] theorem assert_map (x : Value) (w : World) : (Instr.typeAssert (.iface 33 x) 20 33 false).run Try.prog w = .ok x w := by kernel_rfl

theorem mapsClone {w : World} {m : Nat} {A : Ledger} (h : MapAt w m A) :
    Calls Try.prog 37 #[.map (some m)] w fun e w' => e = .returned (.map (some w.heap.size)) ∧ Below w.heap.size w w' ∧ w'.heap.size = w.heap.size + 1 ∧ MapAt w' w.heap.size A := by
  obtain ⟨es, clk, hm, R⟩ := h
  have hcl := run_callClone 33 hm
  go_enter Try.func37, Try.ntmps37
  go_wp2
  go_ret
  exact ⟨rfl, (by repeat (first | with_reducible exact Below.refl _ _ | with_reducible assumption | refine Below.drew ?_ | refine Below.setCell ?_ (by first | exact Nat.le_refl _ | omega | (simp; done) | (simp; omega)) _ | refine Below.alloc ?_ (by first | exact Nat.le_refl _ | omega | (simp; done) | (simp; omega)) _ | refine Below.tr ?_ (Nat.le_refl _) (by assumption) | exact Below.refl _ _ | assumption)), by simp, es, clk, alloc_new w _, R⟩

theorem ledgersCopy_no {w : World} {q : Option Addr} (h : NoLedger w q) :
    Calls Try.prog 16 #[.pointer q] w fun e w' => e = .returned (.pointer none) ∧ w = w' := by
  go_enter Try.func16, Try.ntmps16
  go_wp2_with (first | (go_at_call 33; refine (there_no h).mono ?_; rintro e w' ⟨rfl, rfl⟩))
  go_ret
  exact ⟨rfl, rfl⟩

/-! ### Line, Forgive -/
def LinePost (w : World) (A : Ledger) (x y c : Nat) (e : Ending) (w' : World) : Prop :=
  e = .returned (.tuple #[if 0 < A.lim x y c then .agg #[.int .u8 x, .int .u8 y, .int .u8 c, .int .i64 (A.lim x y c), .int .i64 (A.debt x y c)] else .agg #[.int .u8 0, .int .u8 0, .int .u8 0, .int .i64 0, .int .i64 0], .bool (decide (0 < A.lim x y c))]) ∧ Below w.heap.size w w'

theorem line_any {w : World} {b m : Nat} {A : Ledger} (h : LedgerAt w b m A) (x y c : Nat) :
    Calls Try.prog 70 #[.pointer (some ⟨b, 0, none⟩), .int .u8 x, .int .u8 y, .int .u8 c] w (LinePost w A x y c) := by
  have hlk := look_rule2 (m := m) h.wf
  have hM := h.map
  have hc := h.mapc
  have hb := h.lt
  have hm := h.map.lt
  have lt0_b : b < w.heap.size + 1 := (by omega); have lt1_b : b ≤ w.heap.size := (by omega); have lt2_b : b < w.heap.size + 2 := (by omega); have lt3_b : b < w.heap.size + 3 := (by omega); have lt4_b : b < w.heap.size + 4 := (by omega); have lt5_b : b < w.heap.size + 5 := (by omega)
  have lt0_m : m < w.heap.size + 1 := (by omega); have lt1_m : m ≤ w.heap.size := (by omega); have lt2_m : m < w.heap.size + 2 := (by omega); have lt3_m : m < w.heap.size + 3 := (by omega); have lt4_m : m < w.heap.size + 4 := (by omega); have lt5_m : m < w.heap.size + 5 := (by omega)
  by_cases hp : 0 < A.lim x y c
  · have hpb : decide (0 < A.lim x y c) = true := by simpa using hp
    go_enter Try.func70, Try.ntmps70
    go_wp2_with (go_at_call 33; refine (there_yes (h.below (by repeat (first | with_reducible exact Below.refl _ _ | with_reducible assumption | refine Below.drew ?_ | refine Below.setCell ?_ (by first | exact Nat.le_refl _ | omega | (simp; done) | (simp; omega)) _ | refine Below.alloc ?_ (by first | exact Nat.le_refl _ | omega | (simp; done) | (simp; omega)) _ | refine Below.tr ?_ (Nat.le_refl _) (by assumption) | exact Below.refl _ _ | assumption))).mapc).mono ?_; rintro e w' ⟨rfl, rfl⟩)
    refine bodyPost_ret (v := .tuple #[.agg #[.int .u8 x, .int .u8 y, .int .u8 c, .int .i64 (A.lim x y c), .int .i64 (A.debt x y c)], .bool true]) (by simp [results, Try.results70, go_sem]) rfl ⟨by rw [if_pos hp, hpb], (by repeat (first | with_reducible exact Below.refl _ _ | with_reducible assumption | refine Below.drew ?_ | refine Below.setCell ?_ (by first | exact Nat.le_refl _ | omega | (simp; done) | (simp; omega)) _ | refine Below.alloc ?_ (by first | exact Nat.le_refl _ | omega | (simp; done) | (simp; omega)) _ | refine Below.tr ?_ (Nat.le_refl _) (by assumption) | exact Below.refl _ _ | assumption))⟩
  · have hpb : decide (0 < A.lim x y c) = false := by simpa using hp
    go_enter Try.func70, Try.ntmps70
    go_wp2_with (go_at_call 33; refine (there_yes (h.below (by repeat (first | with_reducible exact Below.refl _ _ | with_reducible assumption | refine Below.drew ?_ | refine Below.setCell ?_ (by first | exact Nat.le_refl _ | omega | (simp; done) | (simp; omega)) _ | refine Below.alloc ?_ (by first | exact Nat.le_refl _ | omega | (simp; done) | (simp; omega)) _ | refine Below.tr ?_ (Nat.le_refl _) (by assumption) | exact Below.refl _ _ | assumption))).mapc).mono ?_; rintro e w' ⟨rfl, rfl⟩)
    refine bodyPost_ret (v := .tuple #[.agg #[.int .u8 0, .int .u8 0, .int .u8 0, .int .i64 0, .int .i64 0], .bool false]) (by simp [results, Try.results70, go_sem]) rfl ⟨by rw [if_neg (by omega), hpb], (by repeat (first | with_reducible exact Below.refl _ _ | with_reducible assumption | refine Below.drew ?_ | refine Below.setCell ?_ (by first | exact Nat.le_refl _ | omega | (simp; done) | (simp; omega)) _ | refine Below.alloc ?_ (by first | exact Nat.le_refl _ | omega | (simp; done) | (simp; omega)) _ | refine Below.tr ?_ (Nat.le_refl _) (by assumption) | exact Below.refl _ _ | assumption))⟩

end Go.Proofs.Ytelcdiceongfdaa
