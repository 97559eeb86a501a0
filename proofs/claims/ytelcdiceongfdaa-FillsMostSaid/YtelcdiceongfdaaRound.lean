/-
  In the rounds of a range over a function, at the wide fence: a region may be walked as everywhere, drawing its order or not. Conditions: no defer statement in the region.
-/
import Derived.Test.YtelcdiceongfdaaMoP3
import Derived.RangeFuncNested
import Derived.RangeFuncBound
import Derived.RangeFuncCalls
import Derived.RangeFuncLeaves
import Derived.OwnWalkIn
import Derived.TacticsInMore
import Derived.LoopNIn
import Derived.LoopIn
import Derived.Shelf.Abstract
import Derived.Sort.LoopGhostIn
namespace Go.Proofs.Ytelcdiceongfdaa
open Go.RowKit

def calmOp (o : Oper) : Bool := match o.op with | .defer _ => false | _ => true
theorem calmOp_spec {o : Oper} (h : calmOp o = true) : ∀ c, o.op ≠ .defer c := fun c e => by
  unfold calmOp at h; rw [e] at h; cases h
theorem Rows.round {l n : Nat} {P : Program} {row : String} {args : Array Value} {w : World} {R : Value → World → Prop} (h : Rows P row args w R) : RowsIn (Fence.wide.inRound l) n P row args w R :=
  fun c cs _ => let ⟨v, w', r, s⟩ := h c cs; ⟨v, w', r, stepsIn_wide.2 s⟩
theorem Calls.round {l n : Nat} {P : Program} {f : FuncId} {args : Array Value} {w : World} {R : Ending → World → Prop} (h : Calls P f args w R) : CallsIn (Fence.wide.inRound l) n P f args w R :=
  CallsIn.inRound l (callsIn_wide.2 h)
theorem Oper.wpIn_round {l n : Nat} {P : Program} {o : Oper} {a : Act} {w : World} {next : Act → World → Prop} {Q : Exit → Act → World → Prop} (hd : calmOp o = true) (h : o.wp P a w next Q) : o.wpIn (Fence.wide.inRound l) n P a w next Q := by
  refine ⟨fun _ _ => trivial, ?_⟩
  rw [Oper.semAt_eq _ _ _ (calmOp_spec hd)]
  unfold Oper.wp at h
  generalize (execOp a.eval o).run P w = r at h ⊢
  have hdep : (Fence.wide.inRound l).depth.isSome = true → 1 ≤ n := fun h => by cases h
  cases r with
  | ok x w' =>
    cases x
    case enter f args => exact ⟨hdep, Calls.round h⟩
    case row row args => exact ⟨hdep, Rows.round h⟩
    all_goals first | exact h | exact h.elim
  | halt x w' => cases x <;> exact h
def Held (Q : Exit → Act → World → Prop) : Exit → Act → World → Prop := fun e a w => e ≠ .outgrown ∧ Q e a w
theorem held_out (Q : Exit → Act → World → Prop) : ¬ LetsOut (Held Q) := fun ⟨_, _, h⟩ => h.1 rfl
theorem wpListIn_round {l n : Nat} {P : Program} {ops : Array Oper} {Q : Exit → Act → World → Prop} (hQ : ¬ LetsOut Q) : ∀ (rest : List Oper) (a : Act) (w : World), rest.all calmOp = true → wpList P ops Q rest a w → wpListIn (Fence.wide.inRound l) n P ops Q rest a w
  | [], _, _, _, h => h
  | o :: rest, a, w, hd, h => by
    simp only [List.all_cons, Bool.and_eq_true] at hd
    unfold wpList at h
    unfold wpListIn
    by_cases hw : Region.wanted o (yielded ops a.tmps) = true
    · rw [if_pos hw] at h ⊢
      rcases h with h | h
      · exact Oper.wpIn_mono (fun a' w' => wpListIn_round hQ rest a' w' hd.2) (Oper.wpIn_round hd.1 h)
      · exact absurd h.2 hQ
    · rw [if_neg hw] at h ⊢
      exact ⟨fun _ _ => trivial, wpListIn_round hQ rest _ _ hd.2 h⟩
theorem wpAnyIn_round {l n : Nat} {P : Program} {md : Region.Mode} {ops : Array Oper} {Q : Exit → Act → World → Prop} (hQ : ¬ LetsOut Q) (hd : ops.toList.all calmOp = true) : ∀ (fuel : Nat) (listed : Array Bool) (a : Act) (w : World), wpAny P md ops Q fuel listed a w → wpAnyIn (Fence.wide.inRound l) n P md ops Q fuel listed a w
  | 0, _, _, _, h => h
  | fuel + 1, listed, a, w, h => by
    refine ⟨h.1, fun i hi => ?_⟩
    have h2 := h.2 i hi
    unfold wpOp at h2
    unfold wpOpIn
    cases ho : ops[i]? with
    | none => rw [ho] at h2; exact wpAnyIn_round hQ hd fuel _ _ _ h2
    | some o =>
      rw [ho] at h2
      have hdo : calmOp o = true := List.all_eq_true.1 hd o (List.mem_of_getElem? (by simpa using ho))
      dsimp only at h2 ⊢
      by_cases hw : Region.wanted o (yielded ops a.tmps) = true
      · rw [if_pos hw] at h2 ⊢
        rcases h2 with h2 | h2
        · exact Oper.wpIn_mono (fun a' w' => wpAnyIn_round hQ hd fuel _ a' w') (Oper.wpIn_round hdo h2)
        · exact absurd h2.2 hQ
      · rw [if_neg hw] at h2 ⊢
        exact ⟨fun _ _ => trivial, wpAnyIn_round hQ hd fuel _ _ _ h2⟩

/-- a region that draws no order -/
theorem wpIn_region_round {r n : Nat} {P : Program} {id : Nat} {Q : Exit → Act → World → Prop} {a : Act} {w : World} {l : List Oper} (hd : l.all calmOp = true)
    (h : wpList P l.toArray (Held Q) l a w) : (Code.region id l.toArray false).wpIn (Fence.wide.inRound r) n P Q a w :=
  wpIn_mono (wpIn_region_lit (wpListIn_round (held_out Q) l a w hd h)) fun _ _ _ h => h.2
/-- a region that draws its order, quiet in all later worlds -/
theorem wpIn_region_round_later {r n : Nat} {P : Program} {id : Nat} {Q : Exit → Act → World → Prop} {a : Act} {w : World} {l : List Oper} (hd : l.all calmOp = true) (hm : P.follows .mixedOrders = true) (hB : Region.lexB .any l.toArray = true)
    (h : wpQuiet P l.toArray (fun w' => ∃ x : Later w, w' = x.w) (fun a' => ∀ w', (∃ x : Later w, w' = x.w) → Q .normal a' w') l a) : (Code.region id l.toArray true).wpIn (Fence.wide.inRound r) n P Q a w := by
  simp only [Region.lexB, Bool.and_eq_true] at hB
  refine wpIn_mono (Q := Held Q) (wpIn_region_any hm (wpAnyIn_round (held_out Q) (by simpa using hd) _ _ _ _ ?_)) fun _ _ _ h => h.2
  refine wpAny_of_quiet (C := fun w' => ∃ x : Later w, w' = x.w) (Q := fun a' => ∀ w', (∃ x : Later w, w' = x.w) → Q .normal a' w') (fun _ w' hw' h => ⟨by simp, h w' hw'⟩) _ _ _ _ ⟨⟨w.drew, (Below.refl _ w).drew⟩, rfl⟩ ?_
  have := wpAnyQ_lex (P := P) (C := fun w' => ∃ x : Later w, w' = x.w) (md := .any) hB.1 l 0 (Array.replicate l.toArray.size false) a (by simp) (by simpa using hB.2) h
  simpa using this
/-- .. whose first k operations are quiet, and whose others wait for them -/
theorem wpIn_region_round_tail {r n : Nat} {P : Program} {id : Nat} {Q : Exit → Act → World → Prop} {a : Act} {w : World} {l : List Oper} (k : Nat) (hd : l.all calmOp = true) (hm : P.follows .mixedOrders = true) (hB : tailOK l k = true) (hG : guardsBack l k = true)
    (h : wpQuiet P (l.take k).toArray (fun w' => ∃ x : Later w, w' = x.w) (fun a' => ∀ w', (∃ x : Later w, w' = x.w) → wpList P l.toArray (Held Q) (l.drop k) a' w') (l.take k) a) : (Code.region id l.toArray true).wpIn (Fence.wide.inRound r) n P Q a w :=
  wpIn_mono (Q := Held Q) (wpIn_region_any hm (wpAnyIn_round (held_out Q) (by simpa using hd) _ _ _ _ (wpAny_later_tail k hB hG h))) fun _ _ _ h => h.2
def OnlyK (K : Act → World → Prop) : Exit → Act → World → Prop := fun e a w => e = .normal ∧ K a w
theorem onlyK_out (K : Act → World → Prop) : ¬ LetsOut (OnlyK K) := fun ⟨_, _, h⟩ => by cases h.1
/-- a region that draws its order, in whatever order -/
theorem wpIn_region_round_any {r n : Nat} {P : Program} {id : Nat} {Q : Exit → Act → World → Prop} {a : Act} {w : World} {l : List Oper} (hd : l.all calmOp = true) (hm : P.follows .mixedOrders = true)
    (h : ∀ K : Act → World → Prop, (∀ a w, Q .normal a w → K a w) → wpAny P .any l.toArray (OnlyK K) l.toArray.size (Array.replicate l.toArray.size false) a w.drew) : (Code.region id l.toArray true).wpIn (Fence.wide.inRound r) n P Q a w :=
  wpIn_mono (Q := OnlyK (Q .normal)) (wpIn_region_any hm (wpAnyIn_round (onlyK_out _) (by simpa using hd) _ _ _ _ (h _ fun _ _ h => h))) fun e a w h => by obtain ⟨rfl, h⟩ := h; exact h
/-- a call at the wide fence -/
theorem wide_call {n : Nat} {P : Program} {f : FuncId} {args : Array Value} {w : World} {R : Ending → World → Prop} (h : Calls P f args w R) : Fence.wide.fn f ∧ (Fence.wide.depth.isSome = true → 1 ≤ n) ∧ CallsIn Fence.wide (n - 1) P f args w R :=
  ⟨trivial, fun h => by (cases h), callsIn_wide.2 h⟩
theorem round_call {l n : Nat} {P : Program} {f : FuncId} {args : Array Value} {w : World} {R : Ending → World → Prop} (h : Calls P f args w R) : (Fence.wide.inRound l).fn f ∧ ((Fence.wide.inRound l).depth.isSome = true → 1 ≤ n) ∧ CallsIn (Fence.wide.inRound l) (n - 1) P f args w R :=
  ⟨trivial, fun h => by (cases h), Calls.round h⟩
end Go.Proofs.Ytelcdiceongfdaa
