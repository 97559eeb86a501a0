/-
  Div64, last part: a two-word division whatever its words, where the divisor is above the high word.
-/
import Derived.Test.YtelcdiceongfdaaDivT
import Derived.Test.YtelcdiceongfdaaShelf2
import Derived.Laws.BitsLemmas
namespace Go.Proofs.Ytelcdiceongfdaa
open Go.RowKit Go.BigFrame
set_option maxRecDepth 100000

theorem lt_bitLenAux : ∀ (f x : Nat), x < 2 ^ f → x < 2 ^ Lib.bitLenAux f x
  | 0, x, h => by simpa [Lib.bitLenAux] using h
  | f + 1, x, h => by
    simp only [Lib.bitLenAux]
    split
    · subst_vars; decide
    · rename_i hx
      have := lt_bitLenAux f (x / 2) (by rw [Nat.pow_succ] at h; omega)
      rw [Nat.add_comm 1, Nat.pow_succ]
      omega
theorem bitLen_bounds {y : Nat} (h0 : 0 < y) (h : y < 18446744073709551616) : 1 ≤ Lib.bitLen y ∧ Lib.bitLen y ≤ 64 ∧ y < 2 ^ Lib.bitLen y ∧ 2 ^ (Lib.bitLen y - 1) ≤ y := by
  have h64 : y < 2 ^ 64 := h
  have h1 : Lib.bitLen y ≤ 64 := Lib.bitLen_le y 64 (Nat.le_refl _) h64
  have h2 : Lib.bitLen y = 1 + Lib.bitLen (y / 2) := Lib.bitLen_half y (by omega) h64
  refine ⟨by omega, h1, lt_bitLenAux 64 y h64, ?_⟩
  rcases Nat.lt_or_ge y (2 ^ (Lib.bitLen y - 1)) with hl | hg
  · have := Lib.bitLen_le y (Lib.bitLen y - 1) (by omega) hl
    omega
  · exact hg
theorem norm_bounds {y s : Nat} (h0 : 0 < y) (h : y < 18446744073709551616) (hs : s = 64 - Lib.bitLen y) : s < 64 ∧ 9223372036854775808 ≤ y * 2 ^ s ∧ y * 2 ^ s < 18446744073709551616 := by
  obtain ⟨h1, h2, h3, h4⟩ := bitLen_bounds h0 h
  generalize Lib.bitLen y = n at *
  subst hs
  have hp : 0 < 2 ^ (64 - n) := Nat.two_pow_pos _
  refine ⟨by omega, ?_, ?_⟩
  · have := Nat.mul_le_mul_right (2 ^ (64 - n)) h4
    rw [← Nat.pow_add, show n - 1 + (64 - n) = 63 by omega] at this
    exact this
  · have := Nat.mul_lt_mul_of_pos_right h3 hp
    rw [← Nat.pow_add, show n + (64 - n) = 64 by omega] at this
    exact this
theorem wraps64 (n : Int) (h0 : 0 ≤ n) (h1 : n < 2 ^ 64) : IntKind.u64.wrap n = n := wrapU h0 h1
theorem and32 (Y : Nat) (h : Y < 18446744073709551616) : bits .and .u64 (Y : Int) 4294967295 = ((Y % 4294967296 : Nat) : Int) := by
  have e := bits_mask .u64 64 (by decide) wraps64 32 (by decide) (Y : Int) (Int.natCast_nonneg _) (by show (Y : Int) < 18446744073709551616; omega)
  rw [show ((2 : Int) ^ 32 - 1) = 4294967295 from rfl, show ((2 : Int) ^ 32) = 4294967296 from rfl] at e
  rw [e]; omega
theorem or_shift (hi lo s : Nat) (hs : s ≤ 64) (hlo : lo / 2 ^ (64 - s) < 2 ^ s) (hH : hi * 2 ^ s < 18446744073709551616) :
    bits .or .u64 ((hi * 2 ^ s : Nat) : Int) ((lo : Int) / 2 ^ (64 - s)) = ((hi * 2 ^ s + lo / 2 ^ (64 - s) : Nat) : Int) := by
  have e1 : (lo : Int) / 2 ^ (64 - s) = ((lo / 2 ^ (64 - s) : Nat) : Int) := by simp
  have hl : lo / 2 ^ (64 - s) < 2 ^ 64 := Nat.lt_of_lt_of_le hlo (Nat.pow_le_pow_right (by decide) hs)
  rw [e1, (bits_nat .u64 64 (by decide) wraps64 (hi * 2 ^ s) (lo / 2 ^ (64 - s)) hH hl).2, norm_or hlo]
theorem word_div {U y1 : Nat} (_hy : 0 < y1) (hU : U < 18446744073709551616) : IntKind.u64.wrap ((U : Int) / (y1 : Int)) = ((U / y1 : Nat) : Int) ∧ IntKind.u64.wrap (((U / y1 : Nat) : Int) * (y1 : Int)) = ((U / y1 * y1 : Nat) : Int) ∧ (U : Int) - ((U / y1 * y1 : Nat) : Int) = ((U % y1 : Nat) : Int) := by
  have h1 := Nat.div_le_self U y1
  have h2 := Nat.div_add_mod U y1
  have h3 : U / y1 * y1 = y1 * (U / y1) := Nat.mul_comm _ _
  refine ⟨?_, ?_, ?_⟩
  · rw [show (U : Int) / (y1 : Int) = ((U / y1 : Nat) : Int) by simp]
    exact wrapU (Int.natCast_nonneg _) (by omega)
  · rw [← Int.natCast_mul]
    exact wrapU (Int.natCast_nonneg _) (by omega)
  · omega
theorem wrap_pow {x s X : Nat} (hX : X = x * 2 ^ s) (h : X < 18446744073709551616) : IntKind.u64.wrap ((x : Int) * 2 ^ s) = (X : Int) := by
  have e : (x : Int) * 2 ^ s = (X : Int) := by rw [hX]; simp
  rw [e]; exact wrapU (Int.natCast_nonneg _) (by omega)
theorem wrap_pow_mod (x s : Nat) : IntKind.u64.wrap ((x : Int) * 2 ^ s) = ((x * 2 ^ s % 18446744073709551616 : Nat) : Int) := by
  have e : (x : Int) * 2 ^ s = ((x * 2 ^ s : Nat) : Int) := by simp
  rw [e, wrap_mod]; omega

theorem words_join (U L : Nat) : (U * 4294967296 + L / 4294967296) * 4294967296 + L % 4294967296 = U * 18446744073709551616 + L := by omega

theorem div_high : DivHigh := by
  intro hi lo y h0 hlt hy hlo w
  obtain ⟨s, hs⟩ : ∃ s, s = 64 - Lib.bitLen y := ⟨_, rfl⟩
  obtain ⟨hs64, hY0, hY1⟩ := norm_bounds (by omega) hy hs
  have hbl := bitLen_bounds (by omega) hy
  obtain ⟨n1, n2, n3⟩ := norm_shift (s := s) hlt (by omega) hlo
  have hsd := shift_div (n := hi * 2 ^ 64 + lo) (y := y) (s := s) (by omega)
  have hHY : hi * 2 ^ s < 18446744073709551616 := Nat.lt_of_le_of_lt (Nat.le_add_right _ _) (Nat.lt_trans n2 hY1)
  have hor := or_shift hi lo s (by omega) n3 hHY
  have hwp := wrap_pow_mod lo s
  have hwy : IntKind.u64.wrap ((y : Int) * 2 ^ s) = ((y * 2 ^ s : Nat) : Int) := wrap_pow rfl hY1
  have hwh : IntKind.u64.wrap ((hi : Int) * 2 ^ s) = ((hi * 2 ^ s : Nat) : Int) := wrap_pow rfl hHY
  have hsx : (2 ^ 64 : Nat) = 18446744073709551616 := rfl
  rw [hsx] at n1 hsd
  have hlz : Hid (∀ W, Calls Try.prog 80 #[.int .u64 y] W fun e w' => e = .returned (.int .i64 (s : Int)) ∧ W = w') := fun W =>
    (Try.bits_LeadingZeros64 (y : Int) W (by omega) (by omega)).mono fun e w' ⟨he, hw⟩ => ⟨by rw [he, Int.toNat_natCast]; exact ret_int (by omega), hw.symm⟩
  have hL : lo * 2 ^ s % 18446744073709551616 < 18446744073709551616 := Nat.mod_lt _ (by decide)
  have hdiv : ∀ V2 : Nat, V2 < 18446744073709551616 → IntKind.u64.wrap ((V2 : Int) / 2 ^ s) = ((V2 / 2 ^ s : Nat) : Int) := fun V2 hV => by
    have e : (V2 : Int) / 2 ^ s = ((V2 / 2 ^ s : Nat) : Int) := by simp
    have := Nat.div_le_self V2 (2 ^ s)
    rw [e]; exact wrapU (Int.natCast_nonneg _) (by omega)
  clear hs hbl
  generalize hYe : y * 2 ^ s = Y at *
  generalize hHe : hi * 2 ^ s = H at *
  generalize hLe : lo * 2 ^ s % 18446744073709551616 = L at *
  generalize lo / 2 ^ (64 - s) = lw at *
  have hU : H + lw < 18446744073709551616 := by omega
  obtain ⟨U, hUe⟩ : ∃ U, U = H + lw := ⟨_, rfl⟩
  rw [← hUe] at n1 n2 hor hU
  have hy1 : 0 < Y / 4294967296 := by omega
  have hYd : Y = Y / 4294967296 * 4294967296 + Y % 4294967296 := by omega
  obtain ⟨c0, c1, c2⟩ := word_div hy1 hU
  have J := digJ_start (u := U) (u1 := L / 4294967296) hYd (by omega) (by omega) n2 (by omega)
  have hVY : (U * 4294967296 + L / 4294967296) % Y < Y := Nat.mod_lt _ (by omega)
  obtain ⟨d0, d1, d2⟩ := word_div (U := (U * 4294967296 + L / 4294967296) % Y) hy1 (by omega)
  have J2 := digJ_start (u := (U * 4294967296 + L / 4294967296) % Y) (u1 := L % 4294967296) hYd (by omega) (by omega) hVY (by omega)
  have hV2 : ((U * 4294967296 + L / 4294967296) % Y * 4294967296 + L % 4294967296) % Y < 18446744073709551616 := Nat.lt_of_lt_of_le (Nat.mod_lt _ (by omega)) (by omega)
  obtain ⟨V, hV⟩ : ∃ V, V = (U * 4294967296 + L / 4294967296) % Y := ⟨_, rfl⟩
  rw [← hV] at hVY d0 d1 d2 J2 hV2
  have key := div64_core hi lo y s Y (Y / 4294967296) (Y % 4294967296) H L U (L / 4294967296) (L % 4294967296) (U / (Y / 4294967296)) (U % (Y / 4294967296)) (U / (Y / 4294967296) * (Y / 4294967296)) h0 hlt hy hlo hs64 w hlz
    hwy hwh hwp (and32 Y hY1) (by omega) hor (and32 L hL) (by omega) (by omega) (by omega) (by omega) n2 (by omega) (by omega) hY1 hYd c0 c1 c2 (Nat.mod_lt _ hy1) J
    V _ (V / (Y / 4294967296)) (V / (Y / 4294967296) * (Y / 4294967296)) (V % (Y / 4294967296)) _ _ (Eq.refl _) hV d0 d1 d2 (Nat.mod_lt _ hy1) J2 (Eq.refl _) (Eq.refl _) (hdiv _ hV2)
  obtain ⟨t1, t2⟩ := two_digits (a := U * 4294967296 + L / 4294967296) (u0 := L % 4294967296) (y := Y) (by omega)
  have hall : (U * 4294967296 + L / 4294967296) * 4294967296 + L % 4294967296 = (hi * 18446744073709551616 + lo) * 2 ^ s := (words_join U L).trans n1
  rw [hall, ← hV] at t1 t2
  rw [← t1, ← t2, hsd.1, hsd.2] at key
  exact key
end Go.Proofs.Ytelcdiceongfdaa
