/- The law 'FillsVoid': whatever the ask, it answers true and leaves its argument as it was. -/
import Derived.Test.YtelcdiceongfdaaVoid10
import Derived.Test.YtelcdiceongfdaaRows
import Derived.WalkKit
import Derived.ProofKit
import Derived.OpenShut
import Derived.ChangeOld
import Derived.Below
namespace Go.Proofs.Ytelcdiceongfdaa
open Go.ChangeShapes Go.WideShapes Go.ChangeAt Go.RowKit

theorem own : ownKnob Try.prog.godebug = none := by kernel_rfl
theorem laidOut : laidOutB Try.prog = true := by kernel_rfl

theorem array6 {α : Type} {cs : Array α} (h : cs.size = 6) : ∃ c0 c1 c2 c3 c4 c5, cs = #[c0, c1, c2, c3, c4, c5] := by
  obtain ⟨l⟩ := cs
  match l, h with
  | [c0, c1, c2, c3, c4, c5], _ => exact ⟨c0, c1, c2, c3, c4, c5, rfl⟩
theorem list6 {α : Type} {l : List α} (h : l.length = 6) : ∃ c0 c1 c2 c3 c4 c5, l = [c0, c1, c2, c3, c4, c5] := by
  match l, h with
  | [c0, c1, c2, c3, c4, c5], _ => exact ⟨c0, c1, c2, c3, c4, c5, rfl⟩
theorem nat_of_wf {k : IntKind} {a : Int} (hk : k = .u64 ∨ k = .u8) (h : (Lit.int k a).wf = true) : ∃ n : Nat, a = n := by
  have e1 : IntKind.u64.min = 0 := rfl
  have e2 : IntKind.u8.min = 0 := rfl
  have : 0 ≤ a := by rcases hk with rfl | rfl <;> · simp [Lit.wf] at h; omega
  exact ⟨a.toNat, by omega⟩

set_option maxRecDepth 100000 in
theorem ask_open {H : Type} {enc : TypeId × Value → H} {W : World} {b0 : Nat} {v : Value} {d : DataW H} {p : List MemPlace} (hv : Value.okWide Try.prog W .any b0 25 v) (h : DataW.Trod enc Try.prog W 0 (fun _ => true) true 25 v d p) :
    ∃ (seq taker to : Nat) (n most : Int) (full : Bool), v = .agg #[.int .u64 seq, .int .u8 taker, .int .u8 to, .int .i64 n, .int .i64 most, .bool full] := by
  obtain ⟨cs, rfl, hsz⟩ := okWide_struct Try.underlying25 hv
  have hc : Try.prog.cellsOf 25 = 6 := by kernel_rfl
  rw [hc] at hsz
  obtain ⟨c0, c1, c2, c3, c4, c5, rfl⟩ := array6 hsz
  obtain ⟨fuel, hf⟩ := h
  obtain ⟨xs, m, _, _, hl, hlen, hg⟩ := DataW.trod_struct Try.underlying25 hf
  have k0 : Try.prog.cellsOf 22 = 1 := by kernel_rfl
  have k1 : Try.prog.cellsOf 23 = 1 := by kernel_rfl
  have k3 : Try.prog.cellsOf 2 = 1 := by kernel_rfl
  have k5 : Try.prog.cellsOf 4 = 1 := by kernel_rfl
  obtain ⟨y0, y1, y2, y3, y4, y5, rfl⟩ := list6 hlen
  have f0 := hg 0 _ rfl
  have f1 := hg 1 _ rfl
  have f2 := hg 2 _ rfl
  have f3 := hg 3 _ rfl
  have f4 := hg 4 _ rfl
  have f5 := hg 5 _ rfl
  simp only [List.getElem_toArray, List.getElem_cons_zero, List.getElem_cons_succ, List.getElem?_cons_zero, List.getElem?_cons_succ, Value.cells, k0, k1, k3, k5, List.drop_zero, List.drop_succ_cons, List.take_succ_cons, List.take_zero] at f0 f1 f2 f3 f4 f5
  obtain ⟨a0, e0, -, w0⟩ := DataW.trod_int Try.underlying22 f0
  obtain ⟨a1, e1, -, w1⟩ := DataW.trod_int Try.underlying23 f1
  obtain ⟨a2, e2, -, w2⟩ := DataW.trod_int Try.underlying23 f2
  obtain ⟨a3, e3, -, w3⟩ := DataW.trod_int Try.underlying2 f3
  obtain ⟨a4, e4, -, w4⟩ := DataW.trod_int Try.underlying2 f4
  obtain ⟨a5, e5, -⟩ := DataW.trod_bool Try.underlying4 f5
  simp at e0 e1 e2 e3 e4 e5
  obtain ⟨seq, rfl⟩ := nat_of_wf (.inl rfl) w0
  obtain ⟨taker, rfl⟩ := nat_of_wf (.inr rfl) w1
  obtain ⟨to, rfl⟩ := nat_of_wf (.inr rfl) w2
  subst e0 e1 e2 e3 e4 e5
  exact ⟨seq, taker, to, a3, a4, a5, rfl⟩

set_option maxRecDepth 100000 in
theorem fillsVoid_lifted (os : Os) (started : os.Started) (H : Type) (enc : TypeId × Value → H) :
    ReturnsInHanded {} Try.checked os 3 .any (Rows.fillsVoidSpec.pre6 enc Try.prog Try.f3 Rows.fillsVoidRow.domain false) (Rows.fillsVoidSpec.post enc Try.prog Try.f3 false true false false) := by
  refine returnsInHanded_of_change (C := Try.checked) own started (by kernel_rfl) Try.func3
    (ChangeSpec.witness6 (enc := enc) (C := Try.checked) false ⟨#[], #[.agg #[.int .u64 0, .int .u8 0, .int .u8 0, .int .i64 0, .int .i64 0, .bool false]], []⟩ 8 (by kernel_rfl) (by kernel_rfl) (by kernel_rfl) (by kernel_rfl)) ?_
  intro W base args ds gs before hval0 hW hcnd _
  have hval : ∀ (j : Nat) t v, Try.f3.params[j]? = some t → args[j]? = some v → Value.okWide Try.prog W .any base t v := hval0
  have hW' := hW
  obtain ⟨p, q, hA0, hV, rfl, hfz, hnd⟩ := hW
  have hA : DataW.TrodAll enc Try.prog W 0 (fun _ => true) true Try.f3.params.toList args.toList ds p := hA0
  rw [Try.params3] at hA hval
  obtain ⟨v0, vs0, d0, ds0, p0, q0, hargs, rfl, rfl, h0, r0⟩ := trodAll_cons hA
  obtain ⟨rfl, rfl, rfl⟩ := trodAll_nil r0
  obtain rfl : args = #[v0] := by cases args; simp_all
  obtain ⟨rfl, rfl⟩ := trodVars_none hV
  have k0 := h0
  have lt0 : ∀ x ∈ p0, x.block < W.heap.size := by obtain ⟨m, hm⟩ := k0; exact DataW.trod_lt m _ _ _ hm
  obtain ⟨seq, taker, to, n, most, full, rfl⟩ := ask_open (hval 0 25 v0 rfl rfl) h0
  clear hA0 hval0
  refine (fillsVoid_walk seq taker to n most full W).mono fun e W' ⟨he, bel⟩ => ?_
  subst he
  exact ⟨_, rfl, _, _, _, [], _, [], hW', trodAll_mk1 (shut_bool Try.underlying4 _), (trodAll_cons_mk (Below.trod laidOut (by kernel_rfl) (of_decide_eq_true (by kernel_rfl)) k0 bel lt0) trodAll_mk0), rfl, bel.frame _, fun h => by cases h⟩

theorem fillsVoid_over : Rows.fillsVoidRow.holds Try.pinned (OpenSpec.ofChange Rows.fillsVoidSpec) :=
  OpenClaim.holds_of_wide 3 Try.f3 rfl rfl rfl rfl rfl rfl rfl ⟨rfl, rfl, rfl, rfl, rfl⟩ rfl rfl rfl rfl rfl (by kernel_rfl) Try.func3 (by kernel_rfl)
    (of_decide_eq_true (by kernel_rfl)) (by unfold Func.isWrapper; first | (rw [if_pos (by decide +kernel)]; kernel_rfl) | (rw [if_neg (by decide +kernel)]; exact ⟨rfl, rfl⟩))
    (fun os started H enc _ => fillsVoid_lifted os started H enc)

/-- the statement -/
theorem fillsVoid_holds : Rows.FillsVoidSaid := fillsVoid_over
#print axioms fillsVoid_holds
end Go.Proofs.Ytelcdiceongfdaa
