/- The plain law of a two-word division: the digit that is guessed and mended is the quotient's digit. No program in sight. -/
import Derived.Test.YtelcdiceongfdaaBase
namespace Go.Proofs.Ytelcdiceongfdaa

/-- what stays as a digit q is mended: it is no less than the true one, and r is what is left behind it -/
structure DigJ (y1 y u u1 q r : Nat) : Prop where
  eq : q * y1 + r = u
  ge : (u * 4294967296 + u1) / y ≤ q
  le : q ≤ 4294967297

theorem digJ_start {y1 y0 y u u1 : Nat} (hy : y = y1 * 4294967296 + y0) (h1 : 2147483648 ≤ y1) (h0 : y0 < 4294967296) (hu : u < y) (hu1 : u1 < 4294967296) : DigJ y1 y u u1 (u / y1) (u % y1) := by
  have hp : 0 < y1 := by omega
  have hpy : 0 < y := by omega
  have hlt : u < (u / y1 + 1) * y1 := by
    have h2 := Nat.div_add_mod u y1
    have h3 := Nat.mod_lt u hp
    rw [Nat.add_mul, Nat.one_mul, Nat.mul_comm]
    omega
  refine ⟨by rw [Nat.mul_comm]; exact Nat.div_add_mod u y1, ?_, ?_⟩
  · refine Nat.le_of_lt_succ ((Nat.div_lt_iff_lt_mul hpy).2 ?_)
    show u * 4294967296 + u1 < (u / y1 + 1) * y
    have h4 : (u / y1 + 1) * y = (u / y1 + 1) * y1 * 4294967296 + (u / y1 + 1) * y0 := by rw [hy, Nat.mul_add, Nat.mul_assoc]
    rw [h4]
    clear h4
    generalize (u / y1 + 1) * y1 = X at *
    generalize (u / y1 + 1) * y0 = Y at *
    omega
  · refine Nat.le_of_lt_succ ((Nat.div_lt_iff_lt_mul hp).2 ?_)
    rw [show Nat.succ 4294967297 = 4294967298 from rfl]
    omega

theorem true_lt {y u u1 : Nat} (hu : u < y) (hu1 : u1 < 4294967296) : (u * 4294967296 + u1) / y < 4294967296 := by
  refine (Nat.div_lt_iff_lt_mul (by omega)).2 ?_
  omega

theorem digJ_step {y1 y0 y u u1 q r : Nat} (hy : y = y1 * 4294967296 + y0) (hpy : 0 < y) (hu : u < y) (hu1 : u1 < 4294967296) (J : DigJ y1 y u u1 q r) (hc : 4294967296 ≤ q ∨ 4294967296 * r + u1 < q * y0) : 1 ≤ q ∧ q - 1 ≤ 4294967296 ∧ DigJ y1 y u u1 (q - 1) (r + y1) := by
  obtain ⟨he, hg, hl⟩ := J
  have hlt : (u * 4294967296 + u1) / y < q := by
    rcases hc with hc | hc
    · exact Nat.lt_of_lt_of_le (true_lt hu hu1) hc
    · refine (Nat.div_lt_iff_lt_mul hpy).2 ?_
      clear hg
      have h4 : q * y = q * y1 * 4294967296 + q * y0 := by rw [hy, Nat.mul_add, Nat.mul_assoc]
      rw [h4]
      clear h4
      generalize q * y1 = X at *
      generalize q * y0 = Y at *
      omega
  cases q with
  | zero => exact absurd hlt (Nat.not_lt_zero _)
  | succ p =>
    rw [Nat.add_mul] at he
    clear hg
    refine ⟨by omega, by omega, ⟨?_, ?_, by omega⟩⟩
    · show p * y1 + (r + y1) = u
      omega
    · exact Nat.le_of_lt_succ hlt

theorem digJ_end {y1 y0 y u u1 q r : Nat} (hy : y = y1 * 4294967296 + y0) (hpy : 0 < y) (J : DigJ y1 y u u1 q r) (hc : q * y0 ≤ 4294967296 * r + u1) : q = (u * 4294967296 + u1) / y := by
  obtain ⟨he, hg, hl⟩ := J
  refine Nat.le_antisymm ((Nat.le_div_iff_mul_le hpy).2 ?_) hg
  have h4 : q * y = q * y1 * 4294967296 + q * y0 := by rw [hy, Nat.mul_add, Nat.mul_assoc]
  rw [h4]
  clear h4 hg
  generalize q * y1 = X at *
  generalize q * y0 = Y at *
  omega

/-- .. where what is left has grown past a digit -/
theorem digJ_break {y1 y0 y u u1 q r : Nat} (hy : y = y1 * 4294967296 + y0) (hpy : 0 < y) (h0 : y0 < 4294967296) (J : DigJ y1 y u u1 q r) (hq : q ≤ 4294967296) (hr : 4294967296 ≤ r) : q = (u * 4294967296 + u1) / y := by
  refine digJ_end hy hpy J ?_
  have h2 := Nat.mul_le_mul_right y0 hq
  clear J hy
  generalize q * y0 = Y at *
  omega

/-- two digits are the quotient -/
theorem two_digits {a u0 y : Nat} (hy : 0 < y) :
    (a * 4294967296 + u0) / y = a / y * 4294967296 + (a % y * 4294967296 + u0) / y ∧ (a * 4294967296 + u0) % y = (a % y * 4294967296 + u0) % y := by
  have ha := Nat.div_add_mod a y
  have e : a * 4294967296 + u0 = (a % y * 4294967296 + u0) + y * (a / y * 4294967296) := by
    have h2 : a * 4294967296 = (y * (a / y) + a % y) * 4294967296 := by rw [ha]
    rw [h2, Nat.add_mul, Nat.mul_assoc]
    omega
  rw [e, Nat.add_mul_div_left _ _ hy, Nat.add_mul_mod_self_left]
  exact ⟨Nat.add_comm _ _, rfl⟩

end Go.Proofs.Ytelcdiceongfdaa
