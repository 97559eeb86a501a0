/-
  The walk of Div64's two loops, over the words that the shift has laid (under way).
-/
import Derived.Test.YtelcdiceongfdaaMoP2
import Derived.Test.YtelcdiceongfdaaMoP1
import Derived.Deep.LoopGhost
import Derived.Deep.CutBlock
import Derived.Deep.DeepCutAuto
namespace Go.Proofs.Ytelcdiceongfdaa
open Go.RowKit Go.BigFrame
set_option maxRecDepth 100000
theorem wrap_mod (x : Int) : IntKind.u64.wrap x = x % 18446744073709551616 := by simp [IntKind.wrap, IntKind.bits, IntKind.signed]
/-- what is left behind a digit, as the words' arithmetic finds it -/
theorem word_rest {U u1 Y V Q : Nat} (hpY : 0 < Y) (hY : Y < 18446744073709551616) (hQ : Q = (U * 4294967296 + u1) / Y) (hV : V = (U * 4294967296 + u1) % Y) :
    IntKind.u64.wrap (IntKind.u64.wrap (IntKind.u64.wrap ((U : Int) * 4294967296) + (u1 : Int)) - IntKind.u64.wrap ((Q : Int) * (Y : Int))) = (V : Int) := by
  have h1 : Y * Q + V = U * 4294967296 + u1 := by rw [hQ, hV]; exact Nat.div_add_mod _ _
  have h2 : V < Y := by rw [hV]; exact Nat.mod_lt _ hpY
  have h3 : ((Y * Q : Nat) : Int) = (Q : Int) * (Y : Int) := by rw [Int.natCast_mul, Int.mul_comm]
  rw [← h3]
  clear hQ hV h3
  simp only [wrap_mod]
  generalize Y * Q = Z at *
  omega
set_option maxHeartbeats 1000000 in
theorem div64_core (hi lo y s Y y1 y0 H L U u1 u0 q0 r0 P0 : Nat) (h0 : 0 < hi) (hlt : hi < y) (_hy : y < 18446744073709551616) (_hlo : lo < 18446744073709551616) (hs : s < 64) (w : World)
    (hlz : Hid (∀ W, Calls Try.prog 80 #[.int .u64 y] W fun e w' => e = .returned (.int .i64 (s : Int)) ∧ W = w'))
    (a1 : IntKind.u64.wrap ((y : Int) * 2 ^ s) = (Y : Int)) (a2 : IntKind.u64.wrap ((hi : Int) * 2 ^ s) = (H : Int)) (a3 : IntKind.u64.wrap ((lo : Int) * 2 ^ s) = (L : Int))
    (a4 : bits .and .u64 (Y : Int) 4294967295 = (y0 : Int)) (a5 : (Y : Int) / 4294967296 = (y1 : Int)) (a6 : bits .or .u64 (H : Int) ((lo : Int) / 2 ^ (64 - s)) = (U : Int))
    (a7 : bits .and .u64 (L : Int) 4294967295 = (u0 : Int)) (a8 : (L : Int) / 4294967296 = (u1 : Int))
    (b1 : 2147483648 ≤ y1) (b1' : y1 < 4294967296) (b2 : y0 < 4294967296) (b3 : U < Y) (b4 : u1 < 4294967296) (b5 : u0 < 4294967296) (b6 : Y < 18446744073709551616) (b7 : Y = y1 * 4294967296 + y0)
    (c0 : IntKind.u64.wrap ((U : Int) / (y1 : Int)) = (q0 : Int)) (c1 : IntKind.u64.wrap ((q0 : Int) * (y1 : Int)) = (P0 : Int)) (c2 : (U : Int) - P0 = (r0 : Int)) (c3 : r0 < y1) (J : DigJ y1 Y U u1 q0 r0)
    (V Q1 q2 P2 r2 V2 Q2 : Nat) (v0 : Q1 = (U * 4294967296 + u1) / Y) (v1 : V = (U * 4294967296 + u1) % Y) (d0 : IntKind.u64.wrap ((V : Int) / (y1 : Int)) = (q2 : Int)) (d1 : IntKind.u64.wrap ((q2 : Int) * (y1 : Int)) = (P2 : Int)) (d2 : (V : Int) - P2 = (r2 : Int)) (d3 : r2 < y1) (J2 : DigJ y1 Y V u0 q2 r2)
    (v2 : Q2 = (V * 4294967296 + u0) / Y) (v3 : V2 = (V * 4294967296 + u0) % Y) (_hR : IntKind.u64.wrap ((V2 : Int) / 2 ^ s) = ((V2 / 2 ^ s : Nat) : Int)) :
    Calls Try.prog 73 #[.int .u64 hi, .int .u64 lo, .int .u64 y] w (DivPost w (Q1 * 4294967296 + Q2) (V2 / 2 ^ s)) := by
  have e1 : ((y : Int) == 0) = false := by simp; omega
  have e2 : ((hi : Int) == 0) = false := by simp; omega
  have e3 : ((y1 : Int) == 0) = false := by simp; omega
  have e4 : ¬ (y1 : Int) = 0 := by omega
  have JJ : Aside (DigJ y1 Y U u1 q0 r0) := J
  have B7 : Aside (Y = y1 * 4294967296 + y0) := b7
  have hpY : 0 < Y := by omega
  have JJ2 : Aside (DigJ y1 Y V u0 q2 r2) := J2
  have hV := Lib.hid (word_rest hpY b6 v0 v1)
  have hV2 := Lib.hid (word_rest hpY b6 v2 v3)
  have hQ1 : Q1 < 4294967296 := by rw [v0]; exact true_lt b3 b4
  have hVY : V < Y := by rw [v1]; exact Nat.mod_lt _ hpY
  have hQ2 : Q2 < 4294967296 := by rw [v2]; exact true_lt hVY b5
  have W0 := Lib.hid v0; have W1 := Lib.hid v1; have W2 := Lib.hid v2; have W3 := Lib.hid v3
  clear J b7 J2 v0 v1 v2 v3
  go_enter Try.func73, Try.ntmps73
  go_upto_block 0 with (go_at_call 80; refine (hlz.out _).mono ?_; rintro e w' ⟨rfl, rfl⟩)
  go_cut [15, 16] from 67 to 85 (fun s15 s16 wx => s15 = .int .u64 Q1 ∧ Aside (Below w.heap.size w wx))
  case first =>
    have BW0 : Aside (Below w.heap.size w w) := Below.refl _ w
    go_wp2_with fail
    go_loopg [15, 16] q0 (fun gg sq s16 wr => ∃ q r : Nat, sq = .int .u64 q ∧ s16 = .int .u64 r ∧ r < 4294967296 ∧ q ≤ gg ∧ q ≤ 4294967297 ∧ Aside (DigJ y1 Y U u1 q r) ∧ Aside (Below w.heap.size w wr))
    case atStart => exact ⟨q0, r0, rfl, rfl, by omega, Nat.le_refl _, JJ.out.le, JJ, BW0⟩
    case round =>
      obtain ⟨q, r, rfl, rfl, hr, hgg, hq, J, BW⟩ := hrel
      by_cases h1 : 4294967296 ≤ q
      · have i0 : (4294967296 : Int) ≤ (q : Int) := by omega
        obtain ⟨k1, k2, J2⟩ := digJ_step B7.out hpY b3 b4 J.out (Or.inl h1)
        obtain ⟨p, hp⟩ : ∃ p, p = q - 1 := ⟨_, rfl⟩
        rw [← hp] at J2 k2
        have J3 : Aside (DigJ y1 Y U u1 p (r + y1)) := J2
        have hpq : (q : Int) - 1 = (p : Int) := by omega
        have i1 : (1 : Int) ≤ (q : Int) := by omega
        have g1 : Aside (p < gk) := (show p < gk by omega)
        have K2 : Aside (p ≤ 4294967296) := k2
        clear h1 J2 k1 k2 hp
        by_cases h2 : (4294967296 : Int) ≤ (r : Int) + (y1 : Int)
        · have ep : Aside (p = Q1) := (digJ_break B7.out hpY b2 J3.out K2.out (by omega)).trans W0.out.symm
          go_wp2
          go_meet
          exact ⟨by rw [ep.out], BW⟩
        · go_wp2
          go_roundg p
          case measure => exact g1.out
          case rel => exact ⟨p, r + y1, by go_num, by go_num, by omega, Nat.le_refl _, by have := K2.out; omega, J3, BW⟩
      · have i0 : (q : Int) < 4294967296 := by omega
        obtain ⟨Z, hZ⟩ : ∃ Z : Nat, Z = q * y0 := ⟨_, rfl⟩
        have hz : IntKind.u64.wrap ((q : Int) * (y0 : Int)) = (Z : Int) := by
          have h3 := Nat.mul_le_mul (show q ≤ 4294967295 by omega) (show y0 ≤ 4294967295 by omega)
          rw [← Int.natCast_mul, ← hZ]
          rw [← hZ] at h3
          exact wrapU (by omega) (by omega)
        by_cases h3 : 4294967296 * (r : Int) + (u1 : Int) < (Z : Int)
        · have h4 : 4294967296 * r + u1 < q * y0 := by rw [← hZ]; omega
          clear hZ h1
          obtain ⟨k1, k2, J2⟩ := digJ_step B7.out hpY b3 b4 J.out (Or.inr h4)
          obtain ⟨p, hp⟩ : ∃ p, p = q - 1 := ⟨_, rfl⟩
          rw [← hp] at J2 k2
          have J3 : Aside (DigJ y1 Y U u1 p (r + y1)) := J2
          have hpq : (q : Int) - 1 = (p : Int) := by omega
          have i1 : (1 : Int) ≤ (q : Int) := by omega
          have g1 : Aside (p < gk) := (show p < gk by omega)
          have K2 : Aside (p ≤ 4294967296) := k2
          clear h4 J2 k1 k2 hp
          by_cases h2 : (4294967296 : Int) ≤ (r : Int) + (y1 : Int)
          · have ep : Aside (p = Q1) := (digJ_break B7.out hpY b2 J3.out K2.out (by omega)).trans W0.out.symm
            go_wp2
            go_meet
            exact ⟨by rw [ep.out], BW⟩
          · go_wp2
            go_roundg p
            case measure => exact g1.out
            case rel => exact ⟨p, r + y1, by go_num, by go_num, by omega, Nat.le_refl _, by have := K2.out; omega, J3, BW⟩
        · have ep : Aside (q = Q1) := (digJ_end B7.out hpY J.out (by rw [← hZ]; omega)).trans W0.out.symm
          obtain ⟨T, hT0⟩ : ∃ T : Nat, T = 4294967296 * r + u1 := ⟨_, rfl⟩
          obtain ⟨R, hr0⟩ : ∃ R : Nat, R = 4294967296 * r := ⟨_, rfl⟩
          have hw1 : IntKind.u64.wrap (4294967296 * (r : Int)) = (R : Int) := by rw [wrapU (by omega) (by omega)]; omega
          have hw2 : IntKind.u64.wrap ((R : Int) + (u1 : Int)) = (T : Int) := by rw [wrapU (by omega) (by omega)]; omega
          have h5 : decide (T < Z) = false := by simp; omega
          have h6 : decide ((4294967296 : Int) ≤ (q : Int)) = false := by simp; omega
          clear hT0 hZ h1 h3 hr hr0 hq hgg b4 i0
          go_wp2
          go_meet
          exact ⟨by rw [ep.out], BW⟩
  case rest =>
    obtain ⟨rfl, BW1⟩ := hcut
    have V1 := hV.out
    go_upto_block 2 with fail
    go_cut [18, 16] from 102 to 120 (fun s18 s16 wx => s18 = .int .u64 Q2 ∧ Aside (Below w.heap.size w wx))
    case first =>
      have BW0 := BW1
      go_wp2_with fail
      go_loopg [18, 16] q2 (fun gg sq s16 wr => ∃ q r : Nat, sq = .int .u64 q ∧ s16 = .int .u64 r ∧ r < 4294967296 ∧ q ≤ gg ∧ q ≤ 4294967297 ∧ Aside (DigJ y1 Y V u0 q r) ∧ Aside (Below w.heap.size w wr))
      case atStart => exact ⟨q2, r2, rfl, rfl, by omega, Nat.le_refl _, JJ2.out.le, JJ2, BW0⟩
      case round =>
        obtain ⟨q, r, rfl, rfl, hr, hgg, hq, J, BW⟩ := hrel
        by_cases h1 : 4294967296 ≤ q
        · have i0 : (4294967296 : Int) ≤ (q : Int) := by omega
          obtain ⟨k1, k2, J2⟩ := digJ_step B7.out hpY hVY b5 J.out (Or.inl h1)
          obtain ⟨p, hp⟩ : ∃ p, p = q - 1 := ⟨_, rfl⟩
          rw [← hp] at J2 k2
          have J3 : Aside (DigJ y1 Y V u0 p (r + y1)) := J2
          have hpq : (q : Int) - 1 = (p : Int) := by omega
          have i1 : (1 : Int) ≤ (q : Int) := by omega
          have g1 : Aside (p < gk) := (show p < gk by omega)
          have K2 : Aside (p ≤ 4294967296) := k2
          clear h1 J2 k1 k2 hp
          by_cases h2 : (4294967296 : Int) ≤ (r : Int) + (y1 : Int)
          · have ep : Aside (p = Q2) := (digJ_break B7.out hpY b2 J3.out K2.out (by omega)).trans W2.out.symm
            go_wp2
            go_meet
            exact ⟨by rw [ep.out], BW⟩
          · go_wp2
            go_roundg p
            case measure => exact g1.out
            case rel => exact ⟨p, r + y1, by go_num, by go_num, by omega, Nat.le_refl _, by have := K2.out; omega, J3, BW⟩
        · have i0 : (q : Int) < 4294967296 := by omega
          obtain ⟨Z, hZ⟩ : ∃ Z : Nat, Z = q * y0 := ⟨_, rfl⟩
          have hz : IntKind.u64.wrap ((q : Int) * (y0 : Int)) = (Z : Int) := by
            have h3 := Nat.mul_le_mul (show q ≤ 4294967295 by omega) (show y0 ≤ 4294967295 by omega)
            rw [← Int.natCast_mul, ← hZ]
            rw [← hZ] at h3
            exact wrapU (by omega) (by omega)
          by_cases h3 : 4294967296 * (r : Int) + (u0 : Int) < (Z : Int)
          · have h4 : 4294967296 * r + u0 < q * y0 := by rw [← hZ]; omega
            clear hZ h1
            obtain ⟨k1, k2, J2⟩ := digJ_step B7.out hpY hVY b5 J.out (Or.inr h4)
            obtain ⟨p, hp⟩ : ∃ p, p = q - 1 := ⟨_, rfl⟩
            rw [← hp] at J2 k2
            have J3 : Aside (DigJ y1 Y V u0 p (r + y1)) := J2
            have hpq : (q : Int) - 1 = (p : Int) := by omega
            have i1 : (1 : Int) ≤ (q : Int) := by omega
            have g1 : Aside (p < gk) := (show p < gk by omega)
            have K2 : Aside (p ≤ 4294967296) := k2
            clear h4 J2 k1 k2 hp
            by_cases h2 : (4294967296 : Int) ≤ (r : Int) + (y1 : Int)
            · have ep : Aside (p = Q2) := (digJ_break B7.out hpY b2 J3.out K2.out (by omega)).trans W2.out.symm
              go_wp2
              go_meet
              exact ⟨by rw [ep.out], BW⟩
            · go_wp2
              go_roundg p
              case measure => exact g1.out
              case rel => exact ⟨p, r + y1, by go_num, by go_num, by omega, Nat.le_refl _, by have := K2.out; omega, J3, BW⟩
          · have ep : Aside (q = Q2) := (digJ_end B7.out hpY J.out (by rw [← hZ]; omega)).trans W2.out.symm
            obtain ⟨T, hT0⟩ : ∃ T : Nat, T = 4294967296 * r + u0 := ⟨_, rfl⟩
            obtain ⟨R, hr2⟩ : ∃ R : Nat, R = 4294967296 * r := ⟨_, rfl⟩
            have hw1 : IntKind.u64.wrap (4294967296 * (r : Int)) = (R : Int) := by rw [wrapU (by omega) (by omega)]; omega
            have hw2 : IntKind.u64.wrap ((R : Int) + (u0 : Int)) = (T : Int) := by rw [wrapU (by omega) (by omega)]; omega
            have h5 : decide (T < Z) = false := by simp; omega
            have h6 : decide ((4294967296 : Int) ≤ (q : Int)) = false := by simp; omega
            clear hT0 hZ h1 h3 hr hr2 hq hgg b5 i0
            go_wp2
            go_meet
            exact ⟨by rw [ep.out], BW⟩
    case rest =>
      obtain ⟨rfl, BW2⟩ := hcut
      have V2' := hV2.out
      go_wp2
      go_ret2
      exact ⟨by simp, BW2.out⟩
end Go.Proofs.Ytelcdiceongfdaa
