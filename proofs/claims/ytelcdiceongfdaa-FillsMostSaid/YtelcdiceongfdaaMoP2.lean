/-
  The walk of math bits' Div64. Conditions: the divisor is above the high word.
  Walks of the layers exacts and rats: each function gives what plain arithmetic says, and writes nothing that was there. No conditions but that numbers fit their kinds.
  Walks of the layer rats, second part: n times a rate, floored and raised; the most that fits. Where a product is above a word the law of a long division is asked.
-/
import Derived.Test.YtelcdiceongfdaaMoP1
import Derived.Test.YtelcdiceongfdaaShelf
section
namespace Go.Proofs.Ytelcdiceongfdaa
open Go.RowKit Go.BigFrame
set_option maxRecDepth 100000

def DivPost (w : World) (q r : Nat) (e : Ending) (w' : World) : Prop := e = .returned (.tuple #[.int .u64 (q : Int), .int .u64 (r : Int)]) ∧ Below w.heap.size w w'

theorem wrapU {x : Int} (h0 : 0 ≤ x) (h1 : x < 18446744073709551616) : IntKind.u64.wrap x = x := by
  have e : IntKind.u64.wrap x = x % 18446744073709551616 := by simp [IntKind.wrap, IntKind.bits, IntKind.signed]
  rw [e]
  exact Int.emod_eq_of_lt h0 h1

theorem div64_low (lo y : Nat) (hy0 : 0 < y) (hy : y < 18446744073709551616) (hlo : lo < 18446744073709551616) (w : World) :
    Calls Try.prog 73 #[.int .u64 0, .int .u64 lo, .int .u64 y] w (DivPost w (lo / y) (lo % y)) := by
  have h0 : ((y : Int) == 0) = false := by simp; omega
  have hne : ¬ (y : Int) = 0 := by omega
  go_enter Try.func73, Try.ntmps73
  go_wp2
  refine wp_region_later (by kernel_rfl) (by kernel_rfl) ?_; (repeat (go_big_quiet_step (fail))); refine wpQuiet_nil ?_; rintro _ ⟨W, rfl⟩
  go_wp2
  go_ret2
  refine ⟨?_, W.b⟩
  have hq : ((lo / y : Nat) : Int) = (lo : Int) / y := by simp
  have hle := Nat.div_le_self lo y
  have hw : IntKind.u64.wrap ((lo : Int) / y) = (lo : Int) / y := by
    rw [← hq]; exact wrapU (Int.natCast_nonneg _) (by clear hq; generalize lo / y = q at *; omega)
  show Ending.returned (.tuple #[_, _]) = Ending.returned (.tuple #[_, _])
  simp [hw]

/-- the same where the high word is no 0 -/
def DivHigh : Prop := ∀ (hi lo y : Nat), 0 < hi → hi < y → y < 18446744073709551616 → lo < 18446744073709551616 → ∀ w : World,
    Calls Try.prog 73 #[.int .u64 hi, .int .u64 lo, .int .u64 y] w (DivPost w ((hi * 18446744073709551616 + lo) / y) ((hi * 18446744073709551616 + lo) % y))

theorem div64_any (hi lo y : Nat) (H : hi ≠ 0 → DivHigh) (hlt : hi < y) (hy : y < 18446744073709551616) (hlo : lo < 18446744073709551616) (w : World) :
    Calls Try.prog 73 #[.int .u64 hi, .int .u64 lo, .int .u64 y] w fun e w' => e = .returned (.tuple #[.int .u64 (((hi * 18446744073709551616 + lo) / y : Nat) : Int), .int .u64 (((hi * 18446744073709551616 + lo) % y : Nat) : Int)]) ∧ Below w.heap.size w w' := by
  by_cases h : hi = 0
  · subst h
    rw [Nat.zero_mul, Nat.zero_add]
    exact div64_low lo y hlt hy hlo w
  · exact H h hi lo y (by omega) hlt hy hlo w
end Go.Proofs.Ytelcdiceongfdaa
end
section
namespace Go.Proofs.Ytelcdiceongfdaa
open Go.RowKit Go.BigFrame
set_option maxRecDepth 100000

@[go_sem] theorem guardRat : (Try.prog).eqGuardType (Try.prog).depth 55 = false := by kernel_rfl
theorem eqIn_Rat (a b c d : Int) (w : World) : (Op.equalIn 10000 55 (.agg #[.int .i64 a, .int .i64 b]) (.agg #[.int .i64 c, .int .i64 d])).run Try.prog w = .ok (a == c && b == d) w := by
  have u3 := Try.underlying2
  have a3 := Try.isAgg2
  have z3 := Try.sizeOf2
  have hS : (Try.prog).underlying 55 = some (.struct ((Try.prog).fieldsOf 55)) := by kernel_rfl
  have hp : (Try.prog).stoodInHeld 55 = false := by kernel_rfl
  rw [show (10000 : Nat) = 9999 + 1 from rfl, run_equalIn_agg w 9999 55 _ _ hS hp]
  simp only [Program.fieldsOf, Try.underlying55]
  go_simp
  by_cases h1 : a = c <;> by_cases h2 : b = d <;> simp [h1, h2]
def eqlRat (a b c d : Int) : Sem Value := binOp .eql 55 (.agg #[.int .i64 a, .int .i64 b]) (.agg #[.int .i64 c, .int .i64 d])
def neqRat (a b c d : Int) : Sem Value := binOp .neq 55 (.agg #[.int .i64 a, .int .i64 b]) (.agg #[.int .i64 c, .int .i64 d])
@[go_sem] theorem eql_Rat (a b c d : Int) : binOp .eql 55 (.agg #[.int .i64 a, .int .i64 b]) (.agg #[.int .i64 c, .int .i64 d]) = eqlRat a b c d := rfl
@[go_sem] theorem neq_Rat (a b c d : Int) : binOp .neq 55 (.agg #[.int .i64 a, .int .i64 b]) (.agg #[.int .i64 c, .int .i64 d]) = neqRat a b c d := rfl
@[go_sem] theorem run_eqlRat (a b c d : Int) (w : World) : (eqlRat a b c d).run Try.prog w = .ok (.bool (a == c && b == d)) w := by
  rw [eqlRat, run_eql_struct, eqIn_Rat]; rfl
@[go_sem] theorem run_neqRat (a b c d : Int) (w : World) : (neqRat a b c d).run Try.prog w = .ok (.bool !(a == c && b == d)) w := by
  rw [neqRat, run_neq_struct, eqIn_Rat]; rfl

/-! ### rats.divisor -/
theorem gcd_step (a b : Int) (ha : 0 ≤ a) (hb : 0 ≤ b) (h : b ≠ 0) : Int.gcd b (a % b) = Int.gcd a b := by
  rw [Int.gcd_comm a b]
  obtain ⟨a, rfl⟩ := Int.eq_ofNat_of_zero_le ha
  obtain ⟨b, rfl⟩ := Int.eq_ofNat_of_zero_le hb
  have : ((a : Int) % (b : Int)) = ((a % b : Nat) : Int) := by omega
  rw [this, Int.gcd_natCast_natCast, Int.gcd_natCast_natCast, Nat.gcd_comm b a, Nat.gcd_comm b (a % b), ← Nat.gcd_rec, Nat.gcd_comm]

def GcdPost (g : Nat) (w : World) (e : Ending) (w' : World) : Prop := e = .returned (.int .i64 g) ∧ Below w.heap.size w w'
def GcdJ (a b : Int) (w : World) (a' : Act) (w' : World) : Prop := Below w.heap.size w w' ∧ ∃ (x y : Int) (u5 u6 u7 u8 u9 u10 u11 : Value), a' = { tmps := #[.int .i64 x, .int .i64 y, undef, undef, .int .i64 0, u5, u6, u7, u8, u9, u10, u11], defers := [] } ∧ 1 ≤ x ∧ 0 ≤ y ∧ x ≤ 9223372036854775807 ∧ y ≤ 9223372036854775807 ∧ Int.gcd x y = Int.gcd a b
def GcdM (n : Nat) (a' : Act) : Prop := (intOf (a'.tmps.getD 1 undef)).toNat < n
theorem gcdJ_step {a b x y : Int} {w W : World} {v5 v6 v7 v8 v9 v10 v11 : Value} (hB : Below w.heap.size w W) (hx : 1 ≤ x) (hy : 0 ≤ y) (hx' : x ≤ 9223372036854775807) (hy' : y ≤ 9223372036854775807) (hy0 : ¬ y = 0) (h : Int.gcd x y = Int.gcd a b) :
    GcdJ a b w { tmps := #[.int .i64 y, .int .i64 (x % y), undef, undef, .int .i64 0, v5, v6, v7, v8, v9, v10, v11], defers := [] } W ∧ GcdM y.toNat { tmps := #[.int .i64 y, .int .i64 (x % y), undef, undef, .int .i64 0, v5, v6, v7, v8, v9, v10, v11], defers := [] } := by
  have h1 := Int.emod_nonneg x hy0
  have h2 := Int.emod_lt_of_pos x (show 0 < y by omega)
  exact ⟨⟨hB, y, x % y, _, _, _, _, _, _, _, rfl, by omega, h1, hy', by omega, by rw [gcd_step x y (by omega) hy hy0, h]⟩, by simp [GcdM, intOf]; omega⟩

theorem divisor_any (a b : Int) (ha : 1 ≤ a) (hb : 1 ≤ b) (ha' : a ≤ 9223372036854775807) (hb' : b ≤ 9223372036854775807) (w : World) :
    Calls Try.prog 72 #[.int .i64 a, .int .i64 b] w (GcdPost (Int.gcd a b) w) := by
  have hb0 : ¬ b = 0 := by omega
  go_enter Try.func72, Try.ntmps72
  go_wp2
  refine wp_scope_jumps 0 (GcdJ a b w) (fun a' _ => (intOf (a'.tmps.getD 1 undef)).toNat) rfl ?_ ?_
  · go_wp2
    go_step3
    go_wp2
    refine wp_region_later (by kernel_rfl) (by kernel_rfl) ?_
    repeat (go_big_quiet_step (fail))
    refine wpQuiet_nil ?_
    rintro _ ⟨W, rfl⟩
    go_wp2
    go_step3
    exact ⟨rfl, (gcdJ_step W.b ha (by omega) ha' hb' hb0 rfl).1⟩
  · rintro a' W ⟨hB, x, y, u5, u6, u7, u8, u9, u10, u11, rfl, hx, hy, hx', hy', hg⟩
    have Hg := Lib.hid hg; clear hg
    by_cases hy0 : y = 0
    · subst hy0
      go_wp2
      simp only [Exit.jump]
      go_ret
      exact ⟨by have h := Hg.out; simp at h; rw [← h]; simp; omega, hB⟩
    · go_wp2
      refine wp_region_later (by kernel_rfl) (by kernel_rfl) ?_
      repeat (go_big_quiet_step (fail))
      refine wpQuiet_nil ?_
      rintro _ ⟨W', rfl⟩
      go_wp2
      go_step3
      exact ⟨rfl, (gcdJ_step (hB.trans (W'.b.mono hB.size)) hx hy hx' hy' hy0 Hg.out).1, (gcdJ_step (v5 := undef) (v6 := undef) (v7 := undef) (v8 := undef) (v9 := undef) (v10 := undef) (v11 := undef) hB hx hy hx' hy' hy0 Hg.out).2⟩

/-! ### rats.least, great, May -/
theorem least_lo (n d : Int) (h : n < 1 ∨ (1 ≤ n ∧ d < 1)) (w : World) :
    Calls Try.prog 54 #[.int .i64 n, .int .i64 d] w fun e w' => e = .returned (.agg #[.int .i64 0, .int .i64 0]) ∧ Below w.heap.size w w' := by
  rcases h with h | ⟨h, h'⟩
  all_goals
    go_enter Try.func54, Try.ntmps54
    go_wp2
    exact bodyPost_ret (v := .agg #[.int .i64 0, .int .i64 0]) (by simp [results, Try.results54, go_sem]) rfl ⟨rfl, (Below.refl _ _).alloc (Nat.le_refl _) _⟩

theorem least_ok (n d g : Int) (hn : 1 ≤ n) (hd : 1 ≤ d) (hn' : n ≤ 9223372036854775807) (hd' : d ≤ 9223372036854775807) (hg : Hid ((Int.gcd n d : Int) = g)) (hg1 : 1 ≤ g) (w : World) :
    Calls Try.prog 54 #[.int .i64 n, .int .i64 d] w fun e w' => e = .returned (.agg #[.int .i64 (n / g), .int .i64 (d / g)]) ∧ Below w.heap.size w w' := by
  have hg0 : ¬ g = 0 := by omega
  have hg2 : g ≤ n := by rw [← hg.out]; exact Int.gcd_le_left _ (by omega)
  have hg3 : g ≤ d := by rw [← hg.out]; exact Int.gcd_le_right _ (by omega)
  go_enter Try.func54, Try.ntmps54
  go_wp2_with (go_at_call 72; refine (divisor_any _ _ (by omega) (by omega) (by omega) (by omega) _).mono ?_; rintro e w1 ⟨rfl, hb⟩; rw [hg.out])
  obtain ⟨hc, hf⟩ := bcell hb
  have hz := hb.size
  go_region
  go_wp2
  exact bodyPost_ret (v := .agg #[.int .i64 (n / g), .int .i64 (d / g)]) (by simp [results, Try.results54, go_sem, hc]) rfl ⟨rfl, (by repeat (first | with_reducible exact Below.refl _ _ | with_reducible assumption | refine Below.drew ?_ | refine Below.setCell ?_ (by first | exact Nat.le_refl _ | omega | (simp; done) | (simp; omega)) _ | refine Below.alloc ?_ (by first | exact Nat.le_refl _ | omega | (simp; done) | (simp; omega)) _ | refine Below.tr ?_ (Nat.le_refl _) (by assumption) | exact Below.refl _ _ | assumption))⟩

theorem great_any (n d : Int) (w : World) :
    Calls Try.prog 55 #[.agg #[.int .i64 n, .int .i64 d]] w fun e w' => e = .returned (.bool (decide (1099511627776 < n ∨ 1099511627776 < d))) ∧ Below w.heap.size w w' := by
  go_enter Try.func55, Try.ntmps55
  go_wp2
  all_goals
    go_ret
    exact ⟨ret_bool (by rw [Bool.eq_iff_iff]; simp; omega), (by repeat (first | with_reducible exact Below.refl _ _ | with_reducible assumption | refine Below.drew ?_ | refine Below.setCell ?_ (by first | exact Nat.le_refl _ | omega | (simp; done) | (simp; omega)) _ | refine Below.alloc ?_ (by first | exact Nat.le_refl _ | omega | (simp; done) | (simp; omega)) _ | refine Below.tr ?_ (Nat.le_refl _) (by assumption) | exact Below.refl _ _ | assumption))⟩

/-- may a rate be? -/
def mayR (n d : Int) : Bool := decide (1 ≤ n ∧ 1 ≤ d ∧ n ≤ 1099511627776 ∧ d ≤ 1099511627776 ∧ Int.gcd n d = 1)

def MayPost (b : Bool) (w : World) (e : Ending) (w' : World) : Prop := e = .returned (.bool b) ∧ Below w.heap.size w w'

theorem may_any (n d : Int) (hn : -9223372036854775808 ≤ n) (hd : -9223372036854775808 ≤ d) (hn' : n ≤ 9223372036854775807) (hd' : d ≤ 9223372036854775807) (w : World) :
    Calls Try.prog 39 #[.agg #[.int .i64 n, .int .i64 d]] w (MayPost (mayR n d) w) := by
  by_cases h0 : n = 0 ∧ d = 0
  · obtain ⟨rfl, rfl⟩ := h0
    go_enter Try.func39, Try.ntmps39
    go_wp2
    refine wp_region_later (by kernel_rfl) (by kernel_rfl) ?_
    repeat (go_big_quiet_step (fail))
    refine wpQuiet_nil ?_
    rintro _ ⟨W, rfl⟩
    go_wp2
    go_ret
    have hb := W.b
    exact ⟨rfl, (by repeat (first | with_reducible exact Below.refl _ _ | with_reducible assumption | refine Below.drew ?_ | refine Below.setCell ?_ (by first | exact Nat.le_refl _ | omega | (simp; done) | (simp; omega)) _ | refine Below.alloc ?_ (by first | exact Nat.le_refl _ | omega | (simp; done) | (simp; omega)) _ | refine Below.tr ?_ (Nat.le_refl _) (by assumption) | exact Below.refl _ _ | assumption))⟩
  have e0 : (n == 0 && d == 0) = false := by simp; omega
  by_cases h1 : n < 1 ∨ d < 1
  · have h2 : n < 1 ∨ (1 ≤ n ∧ d < 1) := by omega
    have hR : mayR n d = false := by unfold mayR; simp; omega
    rw [hR]
    go_enter Try.func39, Try.ntmps39
    go_wp2
    refine wp_region_later (by kernel_rfl) (by kernel_rfl) ?_
    repeat (go_big_quiet_step ((go_at_call 54; exact Calls.later (least_lo _ _ h2 _))))
    refine wpQuiet_nil ?_
    rintro _ ⟨W, rfl⟩
    go_wp2
    go_ret
    have hb := W.b
    exact ⟨rfl, (by repeat (first | with_reducible exact Below.refl _ _ | with_reducible assumption | refine Below.drew ?_ | refine Below.setCell ?_ (by first | exact Nat.le_refl _ | omega | (simp; done) | (simp; omega)) _ | refine Below.alloc ?_ (by first | exact Nat.le_refl _ | omega | (simp; done) | (simp; omega)) _ | refine Below.tr ?_ (Nat.le_refl _) (by assumption) | exact Below.refl _ _ | assumption))⟩
  · obtain ⟨g, hg⟩ : ∃ g : Int, (Int.gcd n d : Int) = g := ⟨_, rfl⟩
    have hg1 : 1 ≤ g := by
      have : Int.gcd n d ≠ 0 := by intro h; rw [Int.gcd_eq_zero_iff] at h; omega
      omega
    have Hg := Lib.hid hg
    by_cases h2 : g = 1
    · subst h2
      have hR : mayR n d = decide (n ≤ 1099511627776 ∧ d ≤ 1099511627776) := by
        unfold mayR; rw [decide_eq_decide]; constructor
        · intro h; omega
        · intro h; exact ⟨by omega, by omega, by omega, by omega, by omega⟩
      have e1 : (n == n / 1 && d == d / 1) = true := by simp
      rw [hR]
      clear hR hg h0
      go_enter Try.func39, Try.ntmps39
      go_wp2
      refine wp_region_later (by kernel_rfl) (by kernel_rfl) ?_
      repeat (go_big_quiet_step (first | (go_at_call 54; exact Calls.later (least_ok n d 1 (by omega) (by omega) (by omega) (by omega) Hg (by omega) _)) | (go_at_call 55; exact Calls.later (great_any _ _ _))))
      refine wpQuiet_nil ?_
      rintro _ ⟨W, rfl⟩
      go_wp2
      go_ret
      have hb := W.b
      exact ⟨ret_bool (by rw [Bool.eq_iff_iff]; simp), (by repeat (first | with_reducible exact Below.refl _ _ | with_reducible assumption | refine Below.drew ?_ | refine Below.setCell ?_ (by first | exact Nat.le_refl _ | omega | (simp; done) | (simp; omega)) _ | refine Below.alloc ?_ (by first | exact Nat.le_refl _ | omega | (simp; done) | (simp; omega)) _ | refine Below.tr ?_ (Nat.le_refl _) (by assumption) | exact Below.refl _ _ | assumption))⟩
    · have hR : mayR n d = false := by unfold mayR; simp; omega
      have hdv : ¬ (n = n / g ∧ d = d / g) := by
        rintro ⟨h3, _⟩
        have h4 : n / g < n := by
          refine Int.ediv_lt_of_lt_mul (by omega) ?_
          have : n * 2 ≤ n * g := Int.mul_le_mul_of_nonneg_left (by omega) (by omega)
          omega
        omega
      have e1 : (n == n / g && d == d / g) = false := by simp; omega
      rw [hR]
      clear hR hg h0 hdv
      go_enter Try.func39, Try.ntmps39
      go_wp2
      refine wp_region_later (by kernel_rfl) (by kernel_rfl) ?_
      repeat (go_big_quiet_step ((go_at_call 54; exact Calls.later (least_ok n d g (by omega) (by omega) (by omega) (by omega) Hg (by omega) _))))
      refine wpQuiet_nil ?_
      rintro _ ⟨W, rfl⟩
      go_wp2
      go_ret
      have hb := W.b
      exact ⟨rfl, (by repeat (first | with_reducible exact Below.refl _ _ | with_reducible assumption | refine Below.drew ?_ | refine Below.setCell ?_ (by first | exact Nat.le_refl _ | omega | (simp; done) | (simp; omega)) _ | refine Below.alloc ?_ (by first | exact Nat.le_refl _ | omega | (simp; done) | (simp; omega)) _ | refine Below.tr ?_ (Nat.le_refl _) (by assumption) | exact Below.refl _ _ | assumption))⟩

/-! ### exacts -/
theorem by_bad (a n d : Int) (h : a < 0 ∨ (0 ≤ a ∧ n < 0) ∨ (0 ≤ a ∧ 0 ≤ n ∧ d < 1)) (w : World) :
    Calls Try.prog 56 #[.int .i64 a, .int .i64 n, .int .i64 d] w fun e w' => e = .returned (.tuple #[.int .i64 0, .int .u64 0, .int .i64 1]) ∧ Below w.heap.size w w' := by
  rcases h with h | ⟨h, h'⟩ | ⟨h, h', h''⟩
  all_goals
    go_enter Try.func56, Try.ntmps56
    go_wp2
    go_ret3
    exact ⟨rfl, (by repeat (first | with_reducible exact Below.refl _ _ | with_reducible assumption | refine Below.drew ?_ | refine Below.setCell ?_ (by first | exact Nat.le_refl _ | omega | (simp; done) | (simp; omega)) _ | refine Below.alloc ?_ (by first | exact Nat.le_refl _ | omega | (simp; done) | (simp; omega)) _ | refine Below.tr ?_ (Nat.le_refl _) (by assumption) | exact Below.refl _ _ | assumption))⟩

theorem by_over (a n d : Nat) (HD : 18446744073709551616 ≤ a * n → DivHigh) (ha : a ≤ 9223372036854775807) (hn : n ≤ 9223372036854775807) (hd : d ≤ 9223372036854775807) (hd1 : 1 ≤ d) (h : 9223372036854775807 < a * n / d) (w : World) :
    Calls Try.prog 56 #[.int .i64 a, .int .i64 n, .int .i64 d] w fun e w' => e = .returned (.tuple #[.int .i64 0, .int .u64 0, .int .i64 10]) ∧ Below w.heap.size w w' := by
  have H := Lib.hid h; clear h
  obtain ⟨p, hp⟩ : ∃ p, a * n = p := ⟨_, rfl⟩
  have Hp := Lib.hid hp
  rw [hp] at H HD; clear hp
  have HH : p / 18446744073709551616 ≠ 0 → DivHigh := fun h => HD (by omega)
  clear HD
  by_cases hc : d ≤ p / 18446744073709551616
  · go_enter Try.func56, Try.ntmps56
    go_wp2_with (go_at_call 15; refine (Try.bits_Mul64 _ _ (by omega) (by omega) _).mono ?_; rintro e w1 ⟨rfl, rfl⟩; rw [Hp.out])
    go_ret3
    exact ⟨rfl, (by repeat (first | with_reducible exact Below.refl _ _ | with_reducible assumption | refine Below.drew ?_ | refine Below.setCell ?_ (by first | exact Nat.le_refl _ | omega | (simp; done) | (simp; omega)) _ | refine Below.alloc ?_ (by first | exact Nat.le_refl _ | omega | (simp; done) | (simp; omega)) _ | refine Below.tr ?_ (Nat.le_refl _) (by assumption) | exact Below.refl _ _ | assumption))⟩
  · have hr : p / 18446744073709551616 * 18446744073709551616 + p % 18446744073709551616 = p := by omega
    have Hr := Lib.hid hr; clear hr
    obtain ⟨q, hq⟩ : ∃ q, p / d = q := ⟨_, rfl⟩
    have Hq := Lib.hid hq
    have hq1 : 9223372036854775807 < q := by rw [← hq]; exact H.out
    clear hq
    go_enter Try.func56, Try.ntmps56
    go_wp2_with (first | (go_at_call 15; refine (Try.bits_Mul64 _ _ (by omega) (by omega) _).mono ?_; rintro e w1 ⟨rfl, rfl⟩; rw [Hp.out]) | (go_at_call 73; refine (div64_any (p / 18446744073709551616) (p % 18446744073709551616) d HH (by omega) (by omega) (by omega) _).mono ?_; rintro e w2 ⟨rfl, hb⟩; rw [Hr.out, Hq.out]))
    all_goals
      go_ret3
      exact ⟨rfl, (by repeat (first | with_reducible exact Below.refl _ _ | with_reducible assumption | refine Below.drew ?_ | refine Below.setCell ?_ (by first | exact Nat.le_refl _ | omega | (simp; done) | (simp; omega)) _ | refine Below.alloc ?_ (by first | exact Nat.le_refl _ | omega | (simp; done) | (simp; omega)) _ | refine Below.tr ?_ (Nat.le_refl _) (by assumption) | exact Below.refl _ _ | assumption))⟩

theorem by_ok (a n d : Nat) (HD : 18446744073709551616 ≤ a * n → DivHigh) (ha : a ≤ 9223372036854775807) (hn : n ≤ 9223372036854775807) (hd : d ≤ 9223372036854775807) (hd1 : 1 ≤ d) (h : a * n / d ≤ 9223372036854775807) (w : World) :
    Calls Try.prog 56 #[.int .i64 a, .int .i64 n, .int .i64 d] w fun e w' => e = .returned (.tuple #[.int .i64 ((a * n / d : Nat) : Int), .int .u64 ((a * n % d : Nat) : Int), .int .i64 0]) ∧ Below w.heap.size w w' := by
  obtain ⟨p, hp⟩ : ∃ p, a * n = p := ⟨_, rfl⟩
  rw [hp] at h HD ⊢
  have HH : p / 18446744073709551616 ≠ 0 → DivHigh := fun h => HD (by omega)
  have Hp := Lib.hid hp; clear hp HD
  have hc : p / 18446744073709551616 < d := by
    rw [Nat.div_lt_iff_lt_mul (by omega)]
    have := Nat.lt_mul_div_succ p (show 0 < d by omega)
    have h2 : d * (p / d + 1) ≤ d * 9223372036854775808 := Nat.mul_le_mul_left _ (by omega)
    omega
  have hr : p / 18446744073709551616 * 18446744073709551616 + p % 18446744073709551616 = p := by omega
  have Hr := Lib.hid hr; clear hr
  obtain ⟨q, hq⟩ : ∃ q, p / d = q := ⟨_, rfl⟩
  obtain ⟨r, hr⟩ : ∃ r, p % d = r := ⟨_, rfl⟩
  rw [hq] at h
  rw [hq, hr]
  have Hq := Lib.hid hq
  have HR := Lib.hid hr
  clear hq hr
  go_enter Try.func56, Try.ntmps56
  go_wp2_with (first | (go_at_call 15; refine (Try.bits_Mul64 _ _ (by omega) (by omega) _).mono ?_; rintro e w1 ⟨rfl, rfl⟩; rw [Hp.out]) | (go_at_call 73; refine (div64_any (p / 18446744073709551616) (p % 18446744073709551616) d HH (by omega) (by omega) (by omega) _).mono ?_; rintro e w2 ⟨rfl, hb⟩; rw [Hr.out, Hq.out, HR.out]))
  all_goals
    go_ret3
    exact ⟨rfl, (by repeat (first | with_reducible exact Below.refl _ _ | with_reducible assumption | refine Below.drew ?_ | refine Below.setCell ?_ (by first | exact Nat.le_refl _ | omega | (simp; done) | (simp; omega)) _ | refine Below.alloc ?_ (by first | exact Nat.le_refl _ | omega | (simp; done) | (simp; omega)) _ | refine Below.tr ?_ (Nat.le_refl _) (by assumption) | exact Below.refl _ _ | assumption))⟩

theorem down_any (a n d : Int) (r : Int × Int)  (w : World)
    (hby : ∀ w, ∃ l, Calls Try.prog 56 #[.int .i64 a, .int .i64 n, .int .i64 d] w fun e w' => e = .returned (.tuple #[.int .i64 r.1, .int .u64 l, .int .i64 r.2]) ∧ Below w.heap.size w w') :
    Calls Try.prog 79 #[.int .i64 a, .int .i64 n, .int .i64 d] w fun e w' => e = .returned (.tuple #[.int .i64 r.1, .int .i64 r.2]) ∧ Below w.heap.size w w' := by
  obtain ⟨r1, r2⟩ := r
  obtain ⟨l, hl⟩ := hby w
  go_enter Try.func79, Try.ntmps79
  go_wp2_with (go_at_call 56; refine hl.mono ?_; rintro e w1 ⟨rfl, hb⟩)
  go_ret2
  exact ⟨rfl, (by repeat (first | with_reducible exact Below.refl _ _ | with_reducible assumption | refine Below.drew ?_ | refine Below.setCell ?_ (by first | exact Nat.le_refl _ | omega | (simp; done) | (simp; omega)) _ | refine Below.alloc ?_ (by first | exact Nat.le_refl _ | omega | (simp; done) | (simp; omega)) _ | refine Below.tr ?_ (Nat.le_refl _) (by assumption) | exact Below.refl _ _ | assumption))⟩

theorem up_err (a n d : Int) (q l x : Int) (hx : (x == 0) = false) (w : World)
    (hl : Calls Try.prog 56 #[.int .i64 a, .int .i64 n, .int .i64 d] w fun e w' => e = .returned (.tuple #[.int .i64 q, .int .u64 l, .int .i64 x]) ∧ Below w.heap.size w w') :
    Calls Try.prog 40 #[.int .i64 a, .int .i64 n, .int .i64 d] w fun e w' => e = .returned (.tuple #[.int .i64 q, .int .i64 x]) ∧ Below w.heap.size w w' := by
  go_enter Try.func40, Try.ntmps40
  go_wp2_with (go_at_call 56; refine hl.mono ?_; rintro e w1 ⟨rfl, hb⟩)
  go_ret2
  exact ⟨rfl, (by repeat (first | with_reducible exact Below.refl _ _ | with_reducible assumption | refine Below.drew ?_ | refine Below.setCell ?_ (by first | exact Nat.le_refl _ | omega | (simp; done) | (simp; omega)) _ | refine Below.alloc ?_ (by first | exact Nat.le_refl _ | omega | (simp; done) | (simp; omega)) _ | refine Below.tr ?_ (Nat.le_refl _) (by assumption) | exact Below.refl _ _ | assumption))⟩

theorem add_one (q : Int) (h0 : 0 ≤ q) (hq : q ≤ 9223372036854775807) (w : World) :
    Calls Try.prog 57 #[.int .i64 q, .int .i64 1] w fun e w' => e = .returned (.tuple #[.int .i64 (if q < 9223372036854775807 then q + 1 else 0), .int .i64 (if q < 9223372036854775807 then 0 else 10)]) ∧ Below w.heap.size w w' := by
  by_cases h : q < 9223372036854775807
  · rw [if_pos h, if_pos h]
    go_enter Try.func57, Try.ntmps57
    go_wp2
    go_ret2
    exact ⟨rfl, (by repeat (first | with_reducible exact Below.refl _ _ | with_reducible assumption | refine Below.drew ?_ | refine Below.setCell ?_ (by first | exact Nat.le_refl _ | omega | (simp; done) | (simp; omega)) _ | refine Below.alloc ?_ (by first | exact Nat.le_refl _ | omega | (simp; done) | (simp; omega)) _ | refine Below.tr ?_ (Nat.le_refl _) (by assumption) | exact Below.refl _ _ | assumption))⟩
  · obtain rfl : q = 9223372036854775807 := by omega
    rw [if_neg h, if_neg h]
    have e : wrap64 9223372036854775808 = -9223372036854775808 := by unfold wrap64; omega
    go_enter Try.func57, Try.ntmps57
    go_wp2
    go_ret2
    exact ⟨rfl, (by repeat (first | with_reducible exact Below.refl _ _ | with_reducible assumption | refine Below.drew ?_ | refine Below.setCell ?_ (by first | exact Nat.le_refl _ | omega | (simp; done) | (simp; omega)) _ | refine Below.alloc ?_ (by first | exact Nat.le_refl _ | omega | (simp; done) | (simp; omega)) _ | refine Below.tr ?_ (Nat.le_refl _) (by assumption) | exact Below.refl _ _ | assumption))⟩

theorem up_ok (a n d : Int) (q l : Int) (h0 : 0 ≤ q) (hq : q ≤ 9223372036854775807) (h1 : 0 ≤ l) (w : World)
    (hl : Calls Try.prog 56 #[.int .i64 a, .int .i64 n, .int .i64 d] w fun e w' => e = .returned (.tuple #[.int .i64 q, .int .u64 l, .int .i64 0]) ∧ Below w.heap.size w w') :
    Calls Try.prog 40 #[.int .i64 a, .int .i64 n, .int .i64 d] w fun e w' => e = .returned (.tuple #[.int .i64 (if 0 < l then (if q < 9223372036854775807 then q + 1 else 0) else q), .int .i64 (if 0 < l then (if q < 9223372036854775807 then 0 else 10) else 0)]) ∧ Below w.heap.size w w' := by
  by_cases h : 0 < l
  · rw [if_pos h, if_pos h]
    go_enter Try.func40, Try.ntmps40
    go_wp2_with (first | (go_at_call 56; refine hl.mono ?_; rintro e w1 ⟨rfl, hb⟩) | (go_at_call 57; refine (add_one q h0 hq _).mono ?_; rintro e w2 ⟨rfl, hb2⟩))
    all_goals
      go_ret2
      exact ⟨by simp [*], (by repeat (first | with_reducible exact Below.refl _ _ | with_reducible assumption | refine Below.drew ?_ | refine Below.setCell ?_ (by first | exact Nat.le_refl _ | omega | (simp; done) | (simp; omega)) _ | refine Below.alloc ?_ (by first | exact Nat.le_refl _ | omega | (simp; done) | (simp; omega)) _ | refine Below.tr ?_ (Nat.le_refl _) (by assumption) | exact Below.refl _ _ | assumption))⟩
  · rw [if_neg h, if_neg h]
    go_enter Try.func40, Try.ntmps40
    go_wp2_with (first | (go_at_call 56; refine hl.mono ?_; rintro e w1 ⟨rfl, hb⟩))
    go_ret2
    exact ⟨rfl, (by repeat (first | with_reducible exact Below.refl _ _ | with_reducible assumption | refine Below.drew ?_ | refine Below.setCell ?_ (by first | exact Nat.le_refl _ | omega | (simp; done) | (simp; omega)) _ | refine Below.alloc ?_ (by first | exact Nat.le_refl _ | omega | (simp; done) | (simp; omega)) _ | refine Below.tr ?_ (Nat.le_refl _) (by assumption) | exact Below.refl _ _ | assumption))⟩

/-! ### rats.Down, Up, Inverse -/
theorem ratsDown_no (n a b : Int) (h : mayR a b = false) (ha : -9223372036854775808 ≤ a) (hb : -9223372036854775808 ≤ b) (ha' : a ≤ 9223372036854775807) (hb' : b ≤ 9223372036854775807) (w : World) :
    Calls Try.prog 67 #[.int .i64 n, .agg #[.int .i64 a, .int .i64 b]] w fun e w' => e = .returned (.tuple #[.int .i64 0, .int .i64 1]) ∧ Below w.heap.size w w' := by
  have H := Lib.hid h; clear h
  go_enter Try.func67, Try.ntmps67
  go_wp2_with (go_at_call 39; refine (may_any _ _ (by omega) (by omega) (by omega) (by omega) _).mono ?_; rintro e w1 ⟨rfl, hb⟩; rw [H.out])
  go_ret2
  exact ⟨rfl, (by repeat (first | with_reducible exact Below.refl _ _ | with_reducible assumption | refine Below.drew ?_ | refine Below.setCell ?_ (by first | exact Nat.le_refl _ | omega | (simp; done) | (simp; omega)) _ | refine Below.alloc ?_ (by first | exact Nat.le_refl _ | omega | (simp; done) | (simp; omega)) _ | refine Below.tr ?_ (Nat.le_refl _) (by assumption) | exact Below.refl _ _ | assumption))⟩
theorem ratsUp_no (n a b : Int) (h : mayR a b = false) (ha : -9223372036854775808 ≤ a) (hb : -9223372036854775808 ≤ b) (ha' : a ≤ 9223372036854775807) (hb' : b ≤ 9223372036854775807) (w : World) :
    Calls Try.prog 18 #[.int .i64 n, .agg #[.int .i64 a, .int .i64 b]] w fun e w' => e = .returned (.tuple #[.int .i64 0, .int .i64 1]) ∧ Below w.heap.size w w' := by
  have H := Lib.hid h; clear h
  go_enter Try.func18, Try.ntmps18
  go_wp2_with (go_at_call 39; refine (may_any _ _ (by omega) (by omega) (by omega) (by omega) _).mono ?_; rintro e w1 ⟨rfl, hb⟩; rw [H.out])
  go_ret2
  exact ⟨rfl, (by repeat (first | with_reducible exact Below.refl _ _ | with_reducible assumption | refine Below.drew ?_ | refine Below.setCell ?_ (by first | exact Nat.le_refl _ | omega | (simp; done) | (simp; omega)) _ | refine Below.alloc ?_ (by first | exact Nat.le_refl _ | omega | (simp; done) | (simp; omega)) _ | refine Below.tr ?_ (Nat.le_refl _) (by assumption) | exact Below.refl _ _ | assumption))⟩
theorem ratsInverse_no (a b : Int) (h : mayR a b = false) (ha : -9223372036854775808 ≤ a) (hb : -9223372036854775808 ≤ b) (ha' : a ≤ 9223372036854775807) (hb' : b ≤ 9223372036854775807) (w : World) :
    Calls Try.prog 68 #[.agg #[.int .i64 a, .int .i64 b]] w fun e w' => e = .returned (.agg #[.int .i64 0, .int .i64 0]) ∧ Below w.heap.size w w' := by
  have H := Lib.hid h; clear h
  go_enter Try.func68, Try.ntmps68
  go_wp2_with (go_at_call 39; refine (may_any _ _ (by omega) (by omega) (by omega) (by omega) _).mono ?_; rintro e w1 ⟨rfl, hb⟩; rw [H.out]; obtain ⟨hc, hf⟩ := bcell hb; have hz := hb.size)
  exact bodyPost_ret (v := .agg #[.int .i64 0, .int .i64 0]) (by simp [results, Try.results68, go_sem, hc]) rfl ⟨rfl, (by repeat (first | with_reducible exact Below.refl _ _ | with_reducible assumption | refine Below.drew ?_ | refine Below.setCell ?_ (by first | exact Nat.le_refl _ | omega | (simp; done) | (simp; omega)) _ | refine Below.alloc ?_ (by first | exact Nat.le_refl _ | omega | (simp; done) | (simp; omega)) _ | refine Below.tr ?_ (Nat.le_refl _) (by assumption) | exact Below.refl _ _ | assumption))⟩
theorem mayR_spec {a b : Int} (h : mayR a b = true) : 1 ≤ a ∧ 1 ≤ b ∧ a ≤ 1099511627776 ∧ b ≤ 1099511627776 ∧ Int.gcd a b = 1 := by simpa [mayR] using h
theorem ratsInverse_ok (a b : Int) (h : mayR a b = true) (w : World) :
    Calls Try.prog 68 #[.agg #[.int .i64 a, .int .i64 b]] w fun e w' => e = .returned (.agg #[.int .i64 b, .int .i64 a]) ∧ Below w.heap.size w w' := by
  obtain ⟨h1, h2, h3, h4, -⟩ := mayR_spec h
  have H := Lib.hid h; clear h
  go_enter Try.func68, Try.ntmps68
  go_wp2_with (go_at_call 39; refine (may_any _ _ (by omega) (by omega) (by omega) (by omega) _).mono ?_; rintro e w1 ⟨rfl, hb⟩; rw [H.out]; obtain ⟨hc, hf⟩ := bcell hb; have hz := hb.size)
  exact bodyPost_ret (v := .agg #[.int .i64 b, .int .i64 a]) (by simp [results, Try.results68, go_sem, hc]) rfl ⟨rfl, (by repeat (first | with_reducible exact Below.refl _ _ | with_reducible assumption | refine Below.drew ?_ | refine Below.setCell ?_ (by first | exact Nat.le_refl _ | omega | (simp; done) | (simp; omega)) _ | refine Below.alloc ?_ (by first | exact Nat.le_refl _ | omega | (simp; done) | (simp; omega)) _ | refine Below.tr ?_ (Nat.le_refl _) (by assumption) | exact Below.refl _ _ | assumption))⟩

end Go.Proofs.Ytelcdiceongfdaa
end
section
namespace Go.Proofs.Ytelcdiceongfdaa
open Go.RowKit Go.BigFrame
set_option maxRecDepth 100000

def IntPost (w : World) (n : Int) (e : Ending) (w' : World) : Prop := e = .returned (.int .i64 n) ∧ Below w.heap.size w w'
def PairPost (w : World) (n x : Int) (e : Ending) (w' : World) : Prop := e = .returned (.tuple #[.int .i64 n, .int .i64 x]) ∧ Below w.heap.size w w'

/-- n times a / b, floored; the error 10 where it is too great -/
def downI (n a b : Nat) : Int × Int := if n * a / b ≤ 9223372036854775807 then (((n * a / b : Nat) : Int), 0) else (0, 10)
theorem ratsDown_ok (n a b : Nat) (HD : 18446744073709551616 ≤ n * a → DivHigh) (h : mayR a b = true) (hn : n ≤ 9223372036854775807) (w : World) :
    Calls Try.prog 67 #[.int .i64 n, .agg #[.int .i64 a, .int .i64 b]] w (PairPost w (downI n a b).1 (downI n a b).2) := by
  obtain ⟨h1, h2, h3, h4, -⟩ := mayR_spec h
  have hby : Hid (∀ W, Calls Try.prog 79 #[.int .i64 n, .int .i64 a, .int .i64 b] W fun e w' => e = .returned (.tuple #[.int .i64 (downI n a b).1, .int .i64 (downI n a b).2]) ∧ Below W.heap.size W w') := fun W => by
    refine down_any n a b (downI n a b) W fun W' => ?_
    unfold downI
    by_cases hc : n * a / b ≤ 9223372036854775807
    · rw [if_pos hc]
      exact ⟨_, by_ok n a b HD (by omega) (by omega) (by omega) (by omega) hc W'⟩
    · rw [if_neg hc]
      exact ⟨_, by_over n a b HD (by omega) (by omega) (by omega) (by omega) (by omega) W'⟩
  have H := Lib.hid h; clear h HD
  generalize (downI n a b).1 = x at *
  generalize (downI n a b).2 = y at *
  go_enter Try.func67, Try.ntmps67
  go_wp2_with (first | (go_at_call 39; refine (may_any _ _ (by omega) (by omega) (by omega) (by omega) _).mono ?_; rintro e w1 ⟨rfl, hb⟩; rw [H.out]; obtain ⟨hc, hf⟩ := bcell hb; have hz := hb.size; have hz1 : w.heap.size < w1.heap.size := (by simp at hz; omega)) | (go_at_call 79; refine (hby.out _).mono ?_; rintro e w2 ⟨rfl, hb2⟩))
  go_ret2
  exact ⟨rfl, (by repeat (first | with_reducible exact Below.refl _ _ | with_reducible assumption | refine Below.drew ?_ | refine Below.setCell ?_ (by first | exact Nat.le_refl _ | omega | (simp; done) | (simp; omega)) _ | refine Below.alloc ?_ (by first | exact Nat.le_refl _ | omega | (simp; done) | (simp; omega)) _ | refine Below.tr ?_ (Nat.le_refl _) (by assumption) | exact Below.refl _ _ | assumption))⟩

/-- .. raised, where it fits -/
def upI (n a b : Nat) : Nat := if 0 < n * a % b then n * a / b + 1 else n * a / b
theorem ratsUp_ok (n a b : Nat) (HD : 18446744073709551616 ≤ n * a → DivHigh) (h : mayR a b = true) (hn : n ≤ 9223372036854775807) (hq : n * a / b ≤ 4611686018427387904) (w : World) :
    Calls Try.prog 18 #[.int .i64 n, .agg #[.int .i64 a, .int .i64 b]] w (PairPost w (upI n a b) 0) := by
  obtain ⟨h1, h2, h3, h4, -⟩ := mayR_spec h
  have hby : Hid (∀ W, Calls Try.prog 40 #[.int .i64 n, .int .i64 a, .int .i64 b] W fun e w' => e = .returned (.tuple #[.int .i64 (upI n a b : Nat), .int .i64 0]) ∧ Below W.heap.size W w') := fun W => by
    have hb := by_ok n a b HD (by omega) (by omega) (by omega) (by omega) (by omega) W
    unfold upI
    generalize n * a / b = q at *
    generalize n * a % b = r at *
    have hu := up_ok n a b _ _ (by omega) (by omega) (by omega) W hb
    refine hu.mono fun e w' hp => ?_
    obtain ⟨rfl, hB⟩ := hp
    refine ⟨?_, hB⟩
    by_cases hc : 0 < r
    · rw [if_pos (by omega), if_pos (by omega), if_pos (by omega), if_pos (by omega), if_pos hc]; rfl
    · rw [if_neg (by omega), if_neg (by omega), if_neg hc]
  have H := Lib.hid h; clear h HD hq
  generalize upI n a b = x at *
  go_enter Try.func18, Try.ntmps18
  go_wp2_with (first | (go_at_call 39; refine (may_any _ _ (by omega) (by omega) (by omega) (by omega) _).mono ?_; rintro e w1 ⟨rfl, hb⟩; rw [H.out]; obtain ⟨hc, hf⟩ := bcell hb; have hz := hb.size; have hz1 : w.heap.size < w1.heap.size := (by simp at hz; omega)) | (go_at_call 40; refine (hby.out _).mono ?_; rintro e w2 ⟨rfl, hb2⟩))
  go_ret2
  exact ⟨rfl, (by repeat (first | with_reducible exact Below.refl _ _ | with_reducible assumption | refine Below.drew ?_ | refine Below.setCell ?_ (by first | exact Nat.le_refl _ | omega | (simp; done) | (simp; omega)) _ | refine Below.alloc ?_ (by first | exact Nat.le_refl _ | omega | (simp; done) | (simp; omega)) _ | refine Below.tr ?_ (Nat.le_refl _) (by assumption) | exact Below.refl _ _ | assumption))⟩

/-- the most of which the raised product is n at most -/
def fitsI (n : Int) (a b : Nat) : Int := min (((n.toNat * b / a : Nat) : Int)) 1099511627776
theorem mayR_swap {a b : Int} (h : mayR a b = true) : mayR b a = true := by
  have := mayR_spec h
  unfold mayR
  rw [decide_eq_true_eq, Int.gcd_comm]
  omega
theorem ratsFits_ok (n a b : Nat) (HD : 18446744073709551616 ≤ n * b → DivHigh) (h : mayR a b = true) (hn : n ≤ 9223372036854775807) (w : World) :
    Calls Try.prog 45 #[.int .i64 n, .agg #[.int .i64 a, .int .i64 b]] w (IntPost w (fitsI n a b)) := by
  obtain ⟨h1, h2, h3, h4, -⟩ := mayR_spec h
  have hdn : Hid (∀ W, Calls Try.prog 67 #[.int .i64 n, .agg #[.int .i64 b, .int .i64 a]] W (PairPost W (downI n b a).1 (downI n b a).2)) := fun W => ratsDown_ok n b a HD (mayR_swap h) hn W
  have hiv : Hid (∀ W, Calls Try.prog 68 #[.agg #[.int .i64 a, .int .i64 b]] W fun e w' => e = .returned (.agg #[.int .i64 b, .int .i64 a]) ∧ Below W.heap.size W w') := fun W => ratsInverse_ok a b h W
  have H := Lib.hid h; clear h HD
  have hf : fitsI n a b = min (((n * b / a : Nat) : Int)) 1099511627776 := rfl
  rw [hf]; clear hf
  by_cases hc : n * b / a ≤ 9223372036854775807
  · have e1 : downI n b a = (((n * b / a : Nat) : Int), 0) := by unfold downI; rw [if_pos hc]
    rw [e1] at hdn
    generalize n * b / a = q at *
    clear e1
    go_enter Try.func45, Try.ntmps45
    go_wp2_with (first | (go_at_call 39; refine (may_any _ _ (by omega) (by omega) (by omega) (by omega) _).mono ?_; rintro e w1 ⟨rfl, hb⟩; rw [H.out]; obtain ⟨hcc, hff⟩ := bcell hb; have hz := hb.size; have hz1 : w.heap.size < w1.heap.size := (by simp at hz; omega)) | (go_at_call 68; refine (hiv.out _).mono ?_; rintro e w2 ⟨rfl, hb2⟩) | (go_at_call 67; refine (hdn.out _).mono ?_; rintro e w3 ⟨rfl, hb3⟩))
    all_goals
      go_ret
      exact ⟨ret_int (by omega), (by repeat (first | with_reducible exact Below.refl _ _ | with_reducible assumption | refine Below.drew ?_ | refine Below.setCell ?_ (by first | exact Nat.le_refl _ | omega | (simp; done) | (simp; omega)) _ | refine Below.alloc ?_ (by first | exact Nat.le_refl _ | omega | (simp; done) | (simp; omega)) _ | refine Below.tr ?_ (Nat.le_refl _) (by assumption) | exact Below.refl _ _ | assumption))⟩
  · have e1 : downI n b a = (0, 10) := by unfold downI; rw [if_neg hc]
    rw [e1] at hdn
    have e2 : min (((n * b / a : Nat) : Int)) 1099511627776 = 1099511627776 := by omega
    rw [e2]
    clear e1 e2 hc
    go_enter Try.func45, Try.ntmps45
    go_wp2_with (first | (go_at_call 39; refine (may_any _ _ (by omega) (by omega) (by omega) (by omega) _).mono ?_; rintro e w1 ⟨rfl, hb⟩; rw [H.out]; obtain ⟨hcc, hff⟩ := bcell hb; have hz := hb.size; have hz1 : w.heap.size < w1.heap.size := (by simp at hz; omega)) | (go_at_call 68; refine (hiv.out _).mono ?_; rintro e w2 ⟨rfl, hb2⟩) | (go_at_call 67; refine (hdn.out _).mono ?_; rintro e w3 ⟨rfl, hb3⟩))
    go_ret
    exact ⟨rfl, (by repeat (first | with_reducible exact Below.refl _ _ | with_reducible assumption | refine Below.drew ?_ | refine Below.setCell ?_ (by first | exact Nat.le_refl _ | omega | (simp; done) | (simp; omega)) _ | refine Below.alloc ?_ (by first | exact Nat.le_refl _ | omega | (simp; done) | (simp; omega)) _ | refine Below.tr ?_ (Nat.le_refl _) (by assumption) | exact Below.refl _ _ | assumption))⟩
theorem ratsFits_neg (n a b : Int) (hn : n < 0) (w : World) :
    Calls Try.prog 45 #[.int .i64 n, .agg #[.int .i64 a, .int .i64 b]] w (IntPost w 0) := by
  go_enter Try.func45, Try.ntmps45
  go_wp2
  go_ret
  exact ⟨rfl, (by repeat (first | with_reducible exact Below.refl _ _ | with_reducible assumption | refine Below.drew ?_ | refine Below.setCell ?_ (by first | exact Nat.le_refl _ | omega | (simp; done) | (simp; omega)) _ | refine Below.alloc ?_ (by first | exact Nat.le_refl _ | omega | (simp; done) | (simp; omega)) _ | refine Below.tr ?_ (Nat.le_refl _) (by assumption) | exact Below.refl _ _ | assumption))⟩
end Go.Proofs.Ytelcdiceongfdaa
end
