/-
  Ground of the walks: the class of worlds 'later than w' (blocks of w stay as they are), regions that draw their order walked once in that class, small laws for the walk's simp set. No conditions.
  The plain law of a two-word division: the digit that is guessed and mended is the quotient's digit. No program in sight.
  The plain law of the shift ahead of a two-word division. No program in sight.
-/
import Derived.Test.YtelcdiceongfdaaProg
import Derived.WalkKit
import Derived.WalkSpells
import Derived.WalkLawsBesides
import Derived.Deep.QuietTactic
import Derived.BigQuiet
import Derived.RegionTactic
import Derived.BigRegion
import Derived.Below
import Derived.OneCell
import Derived.Outline
import Derived.Lib.Hide
import Derived.Laws.StructEq
import Derived.Scope
import Derived.ScopeJumps
import Derived.WalkMore
section
open Go.RowKit
namespace Go.RowKit
theorem Below.tr {B : Nat} {a b c : World} (h : Below B a b) (hB : B ≤ a.heap.size) (k : Below b.heap.size b c) : Below B a c := h.trans (k.mono (Nat.le_trans hB h.size))
end Go.RowKit
namespace Go.Proofs.Ytelcdiceongfdaa
open Go.RowKit
set_option maxRecDepth 100000

/-- worlds that may lie behind w: what w had is as it was -/
def Later (w : World) : Type := { w' : World // Below w.heap.size w w' }
def Later.w {w : World} (x : Later w) : World := x.1
theorem Later.b {w : World} (x : Later w) : Below w.heap.size w x.w := x.2
instance (w : World) : Nonempty (Later w) := ⟨⟨w, Below.refl _ _⟩⟩
theorem lt_of_cell {w : World} {b o : Nat} {v : Value} (h : w.cell? ⟨b, o, none⟩ = some v) : b < w.heap.size := by
  rcases Nat.lt_or_ge b w.heap.size with h' | h'
  · exact h'
  · simp [World.cell?, Array.getElem?_eq_none h'] at h
@[go_sem] theorem Later.cell {w : World} (x : Later w) (b o : Nat) (h : b < w.heap.size) : x.w.cell? ⟨b, o, none⟩ = w.cell? ⟨b, o, none⟩ := x.b.cell (p := ⟨b, o, none⟩) h
@[go_sem] theorem Later.frozen {w : World} (x : Later w) (b o : Nat) (h : b < w.heap.size) : x.w.frozen? ⟨b, o, none⟩ = w.frozen? ⟨b, o, none⟩ := x.b.frozen (p := ⟨b, o, none⟩) h
theorem Later.block {w : World} (x : Later w) (b : Nat) (h : b < w.heap.size) : x.w.heap[b]? = w.heap[b]? := x.b.block b h

/-- a region that draws its order, all of whose operations give one value in every later world and write nothing that was there -/
theorem wp_region_later {P : Program} {id : Nat} {Q : Exit → Act → World → Prop} {a : Act} {w : World} {l : List Oper} (hm : P.follows .mixedOrders = true) (hB : Region.lexB .any l.toArray = true)
    (h : wpQuiet P l.toArray (fun w' => ∃ x : Later w, w' = x.w) (fun a' => ∀ w', (∃ x : Later w, w' = x.w) → Q .normal a' w') l a) : (Code.region id l.toArray true).wp P Q a w :=
  wp_region_quiet (C := fun w' => ∃ x : Later w, w' = x.w) hm hB ⟨⟨w.drew, (Below.refl _ w).drew⟩, rfl⟩ (by simpa using h)

/-- a callee's contract in a later world -/
theorem Calls.later {P : Program} {f : FuncId} {args : Array Value} {w : World} {x : Later w} {v : Value}
    (h : Calls P f args x.w fun e w' => e = .returned v ∧ Below x.w.heap.size x.w w') : Calls P f args x.w fun e w'' => e = .returned v ∧ ∃ y : Later w, w'' = y.w :=
  h.mono fun _ w'' ⟨he, hb⟩ => ⟨he, ⟨w'', x.b.trans (hb.mono x.b.size)⟩, rfl⟩
theorem Calls.later_same {P : Program} {f : FuncId} {args : Array Value} {w : World} {x : Later w} {v : Value}
    (h : Calls P f args x.w fun e w' => e = .returned v ∧ x.w = w') : Calls P f args x.w fun e w'' => e = .returned v ∧ ∃ y : Later w, w'' = y.w :=
  h.mono fun _ _ ⟨he, hb⟩ => ⟨he, x, hb.symm⟩

/-- old cells read as before: the two rules that the walk uses -/
theorem bcell {W w1 : World} (hb : Below W.heap.size W w1) : (∀ b o, b < W.heap.size → w1.cell? ⟨b, o, none⟩ = W.cell? ⟨b, o, none⟩) ∧ (∀ b o, b < W.heap.size → w1.frozen? ⟨b, o, none⟩ = W.frozen? ⟨b, o, none⟩) :=
  ⟨fun b o h => hb.cell (p := ⟨b, o, none⟩) h, fun b o h => hb.frozen (p := ⟨b, o, none⟩) h⟩

theorem ret_int {k : IntKind} {a b : Int} (h : a = b) : Ending.returned (.int k a) = .returned (.int k b) := by rw [h]
theorem ret_bool {a b : Bool} (h : a = b) : Ending.returned (.bool a) = .returned (.bool b) := by rw [h]

end Go.Proofs.Ytelcdiceongfdaa
end
section
namespace Go.Proofs.Ytelcdiceongfdaa

/-- what stays as a digit q is mended: it is no less than the true one, and r is what is left behind it -/
structure DigJ (y1 y u u1 q r : Nat) : Prop where
  eq : q * y1 + r = u
  ge : (u * 4294967296 + u1) / y ≤ q
  le : q ≤ 4294967297

theorem digJ_start {y1 y0 y u u1 : Nat} (hy : y = y1 * 4294967296 + y0) (h1 : 2147483648 ≤ y1) (h0 : y0 < 4294967296) (hu : u < y) (hu1 : u1 < 4294967296) : DigJ y1 y u u1 (u / y1) (u % y1) := by
  have hp : 0 < y1 := by omega
  have hpy : 0 < y := by omega
  have hlt : u < (u / y1 + 1) * y1 := by
    have h2 := Nat.div_add_mod u y1
    have h3 := Nat.mod_lt u hp
    rw [Nat.add_mul, Nat.one_mul, Nat.mul_comm]
    omega
  refine ⟨by rw [Nat.mul_comm]; exact Nat.div_add_mod u y1, ?_, ?_⟩
  · refine Nat.le_of_lt_succ ((Nat.div_lt_iff_lt_mul hpy).2 ?_)
    show u * 4294967296 + u1 < (u / y1 + 1) * y
    have h4 : (u / y1 + 1) * y = (u / y1 + 1) * y1 * 4294967296 + (u / y1 + 1) * y0 := by rw [hy, Nat.mul_add, Nat.mul_assoc]
    rw [h4]
    clear h4
    generalize (u / y1 + 1) * y1 = X at *
    generalize (u / y1 + 1) * y0 = Y at *
    omega
  · refine Nat.le_of_lt_succ ((Nat.div_lt_iff_lt_mul hp).2 ?_)
    rw [show Nat.succ 4294967297 = 4294967298 from rfl]
    omega

theorem true_lt {y u u1 : Nat} (hu : u < y) (hu1 : u1 < 4294967296) : (u * 4294967296 + u1) / y < 4294967296 := by
  refine (Nat.div_lt_iff_lt_mul (by omega)).2 ?_
  omega

theorem digJ_step {y1 y0 y u u1 q r : Nat} (hy : y = y1 * 4294967296 + y0) (hpy : 0 < y) (hu : u < y) (hu1 : u1 < 4294967296) (J : DigJ y1 y u u1 q r) (hc : 4294967296 ≤ q ∨ 4294967296 * r + u1 < q * y0) : 1 ≤ q ∧ q - 1 ≤ 4294967296 ∧ DigJ y1 y u u1 (q - 1) (r + y1) := by
  obtain ⟨he, hg, hl⟩ := J
  have hlt : (u * 4294967296 + u1) / y < q := by
    rcases hc with hc | hc
    · exact Nat.lt_of_lt_of_le (true_lt hu hu1) hc
    · refine (Nat.div_lt_iff_lt_mul hpy).2 ?_
      clear hg
      have h4 : q * y = q * y1 * 4294967296 + q * y0 := by rw [hy, Nat.mul_add, Nat.mul_assoc]
      rw [h4]
      clear h4
      generalize q * y1 = X at *
      generalize q * y0 = Y at *
      omega
  cases q with
  | zero => exact absurd hlt (Nat.not_lt_zero _)
  | succ p =>
    rw [Nat.add_mul] at he
    clear hg
    refine ⟨by omega, by omega, ⟨?_, ?_, by omega⟩⟩
    · show p * y1 + (r + y1) = u
      omega
    · exact Nat.le_of_lt_succ hlt

theorem digJ_end {y1 y0 y u u1 q r : Nat} (hy : y = y1 * 4294967296 + y0) (hpy : 0 < y) (J : DigJ y1 y u u1 q r) (hc : q * y0 ≤ 4294967296 * r + u1) : q = (u * 4294967296 + u1) / y := by
  obtain ⟨he, hg, hl⟩ := J
  refine Nat.le_antisymm ((Nat.le_div_iff_mul_le hpy).2 ?_) hg
  have h4 : q * y = q * y1 * 4294967296 + q * y0 := by rw [hy, Nat.mul_add, Nat.mul_assoc]
  rw [h4]
  clear h4 hg
  generalize q * y1 = X at *
  generalize q * y0 = Y at *
  omega

/-- .. where what is left has grown past a digit -/
theorem digJ_break {y1 y0 y u u1 q r : Nat} (hy : y = y1 * 4294967296 + y0) (hpy : 0 < y) (h0 : y0 < 4294967296) (J : DigJ y1 y u u1 q r) (hq : q ≤ 4294967296) (hr : 4294967296 ≤ r) : q = (u * 4294967296 + u1) / y := by
  refine digJ_end hy hpy J ?_
  have h2 := Nat.mul_le_mul_right y0 hq
  clear J hy
  generalize q * y0 = Y at *
  omega

/-- two digits are the quotient -/
theorem two_digits {a u0 y : Nat} (hy : 0 < y) :
    (a * 4294967296 + u0) / y = a / y * 4294967296 + (a % y * 4294967296 + u0) / y ∧ (a * 4294967296 + u0) % y = (a % y * 4294967296 + u0) % y := by
  have ha := Nat.div_add_mod a y
  have e : a * 4294967296 + u0 = (a % y * 4294967296 + u0) + y * (a / y * 4294967296) := by
    have h2 : a * 4294967296 = (y * (a / y) + a % y) * 4294967296 := by rw [ha]
    rw [h2, Nat.add_mul, Nat.mul_assoc]
    omega
  rw [e, Nat.add_mul_div_left _ _ hy, Nat.add_mul_mod_self_left]
  exact ⟨Nat.add_comm _ _, rfl⟩

end Go.Proofs.Ytelcdiceongfdaa
end
section
namespace Go.Proofs.Ytelcdiceongfdaa

theorem norm_shift {hi lo y s : Nat} (hlt : hi < y) (hs : s ≤ 64) (hlo : lo < 2 ^ 64) :
    (hi * 2 ^ s + lo / 2 ^ (64 - s)) * 2 ^ 64 + lo * 2 ^ s % 2 ^ 64 = (hi * 2 ^ 64 + lo) * 2 ^ s ∧ hi * 2 ^ s + lo / 2 ^ (64 - s) < y * 2 ^ s ∧ lo / 2 ^ (64 - s) < 2 ^ s := by
  have e : 2 ^ 64 = 2 ^ (64 - s) * 2 ^ s := by rw [← Nat.pow_add, Nat.sub_add_cancel hs]
  have hp : 0 < 2 ^ s := Nat.pow_pos (by omega)
  have hd : lo * 2 ^ s / 2 ^ 64 = lo / 2 ^ (64 - s) := by rw [e, Nat.mul_div_mul_right _ _ hp]
  have h3 : lo / 2 ^ (64 - s) < 2 ^ s := by
    refine (Nat.div_lt_iff_lt_mul (Nat.pow_pos (by omega))).2 ?_
    rw [Nat.mul_comm, ← e]; exact hlo
  have h4 := Nat.div_add_mod (lo * 2 ^ s) (2 ^ 64)
  rw [hd] at h4
  refine ⟨?_, ?_, h3⟩
  · rw [Nat.add_mul (hi * 2 ^ 64), Nat.add_mul (hi * 2 ^ s), Nat.mul_right_comm hi, Nat.add_assoc, Nat.mul_comm (lo / 2 ^ (64 - s)), h4]
  · have h5 : (hi + 1) * 2 ^ s ≤ y * 2 ^ s := Nat.mul_le_mul_right _ hlt
    rw [Nat.add_mul, Nat.one_mul] at h5
    exact Nat.lt_of_lt_of_le (Nat.add_lt_add_left h3 _) h5

theorem norm_or {hi lo s : Nat} (h : lo < 2 ^ s) : (hi * 2 ^ s) ||| lo = hi * 2 ^ s + lo := by
  have := Nat.shiftLeft_add_eq_or_of_lt h hi
  rw [Nat.shiftLeft_eq] at this
  exact this.symm

/-- the quotient and the rest of what is shifted -/
theorem shift_div {n y s : Nat} (_hy : 0 < y) : n * 2 ^ s / (y * 2 ^ s) = n / y ∧ n * 2 ^ s % (y * 2 ^ s) / 2 ^ s = n % y := by
  have hp : 0 < 2 ^ s := Nat.pow_pos (by omega)
  refine ⟨Nat.mul_div_mul_right _ _ hp, ?_⟩
  rw [Nat.mul_mod_mul_right, Nat.mul_div_cancel _ hp]

end Go.Proofs.Ytelcdiceongfdaa
end
