/- The walk of math bits' Div64. Conditions: the divisor is above the high word. -/
import Derived.Test.YtelcdiceongfdaaDivPure
import Derived.Test.YtelcdiceongfdaaShelf
namespace Go.Proofs.Ytelcdiceongfdaa
open Go.RowKit Go.BigFrame
set_option maxRecDepth 100000

def DivPost (w : World) (q r : Nat) (e : Ending) (w' : World) : Prop := e = .returned (.tuple #[.int .u64 (q : Int), .int .u64 (r : Int)]) ∧ Below w.heap.size w w'

theorem wrapU {x : Int} (h0 : 0 ≤ x) (h1 : x < 18446744073709551616) : IntKind.u64.wrap x = x := by
  have e : IntKind.u64.wrap x = x % 18446744073709551616 := by simp [IntKind.wrap, IntKind.bits, IntKind.signed]
  rw [e]
  exact Int.emod_eq_of_lt h0 h1

theorem div64_low (lo y : Nat) (hy0 : 0 < y) (hy : y < 18446744073709551616) (hlo : lo < 18446744073709551616) (w : World) :
    Calls Try.prog 73 #[.int .u64 0, .int .u64 lo, .int .u64 y] w (DivPost w (lo / y) (lo % y)) := by
  have h0 : ((y : Int) == 0) = false := by simp; omega
  have hne : ¬ (y : Int) = 0 := by omega
  go_enter Try.func73, Try.ntmps73
  go_wp2
  refine wp_region_later (by kernel_rfl) (by kernel_rfl) ?_; (repeat (go_big_quiet_step (fail))); refine wpQuiet_nil ?_; rintro _ ⟨W, rfl⟩
  go_wp2
  go_ret2
  refine ⟨?_, W.b⟩
  have hq : ((lo / y : Nat) : Int) = (lo : Int) / y := by simp
  have hle := Nat.div_le_self lo y
  have hw : IntKind.u64.wrap ((lo : Int) / y) = (lo : Int) / y := by
    rw [← hq]; exact wrapU (Int.natCast_nonneg _) (by clear hq; generalize lo / y = q at *; omega)
  show Ending.returned (.tuple #[_, _]) = Ending.returned (.tuple #[_, _])
  simp [hw]

/-- the same where the high word is no 0 -/
def DivHigh : Prop := ∀ (hi lo y : Nat), 0 < hi → hi < y → y < 18446744073709551616 → lo < 18446744073709551616 → ∀ w : World,
    Calls Try.prog 73 #[.int .u64 hi, .int .u64 lo, .int .u64 y] w (DivPost w ((hi * 18446744073709551616 + lo) / y) ((hi * 18446744073709551616 + lo) % y))

theorem div64_any (hi lo y : Nat) (H : hi ≠ 0 → DivHigh) (hlt : hi < y) (hy : y < 18446744073709551616) (hlo : lo < 18446744073709551616) (w : World) :
    Calls Try.prog 73 #[.int .u64 hi, .int .u64 lo, .int .u64 y] w fun e w' => e = .returned (.tuple #[.int .u64 (((hi * 18446744073709551616 + lo) / y : Nat) : Int), .int .u64 (((hi * 18446744073709551616 + lo) % y : Nat) : Int)]) ∧ Below w.heap.size w w' := by
  by_cases h : hi = 0
  · subst h
    rw [Nat.zero_mul, Nat.zero_add]
    exact div64_low lo y hlt hy hlo w
  · exact H h hi lo y (by omega) hlt hy hlo w
end Go.Proofs.Ytelcdiceongfdaa
