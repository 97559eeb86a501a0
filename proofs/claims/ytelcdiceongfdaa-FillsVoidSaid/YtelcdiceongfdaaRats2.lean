/- Walks of the layer rats, second part: n times a rate, floored and raised; the most that fits. Where a product is above a word the law of a long division is asked. -/
import Derived.Test.YtelcdiceongfdaaRats
namespace Go.Proofs.Ytelcdiceongfdaa
open Go.RowKit Go.BigFrame
set_option maxRecDepth 100000

def IntPost (w : World) (n : Int) (e : Ending) (w' : World) : Prop := e = .returned (.int .i64 n) ∧ Below w.heap.size w w'
def PairPost (w : World) (n x : Int) (e : Ending) (w' : World) : Prop := e = .returned (.tuple #[.int .i64 n, .int .i64 x]) ∧ Below w.heap.size w w'

/-- n times a / b, floored; the error 10 where it is too great -/
def downI (n a b : Nat) : Int × Int := if n * a / b ≤ 9223372036854775807 then (((n * a / b : Nat) : Int), 0) else (0, 10)
theorem ratsDown_ok (n a b : Nat) (HD : 18446744073709551616 ≤ n * a → DivHigh) (h : mayR a b = true) (hn : n ≤ 9223372036854775807) (w : World) :
    Calls Try.prog 67 #[.int .i64 n, .agg #[.int .i64 a, .int .i64 b]] w (PairPost w (downI n a b).1 (downI n a b).2) := by
  obtain ⟨h1, h2, h3, h4, -⟩ := mayR_spec h
  have hby : Hid (∀ W, Calls Try.prog 79 #[.int .i64 n, .int .i64 a, .int .i64 b] W fun e w' => e = .returned (.tuple #[.int .i64 (downI n a b).1, .int .i64 (downI n a b).2]) ∧ Below W.heap.size W w') := fun W => by
    refine down_any n a b (downI n a b) W fun W' => ?_
    unfold downI
    by_cases hc : n * a / b ≤ 9223372036854775807
    · rw [if_pos hc]
      exact ⟨_, by_ok n a b HD (by omega) (by omega) (by omega) (by omega) hc W'⟩
    · rw [if_neg hc]
      exact ⟨_, by_over n a b HD (by omega) (by omega) (by omega) (by omega) (by omega) W'⟩
  have H := Lib.hid h; clear h HD
  generalize (downI n a b).1 = x at *
  generalize (downI n a b).2 = y at *
  go_enter Try.func67, Try.ntmps67
  go_wp2_with (first | (go_at_call 39; refine (may_any _ _ (by omega) (by omega) (by omega) (by omega) _).mono ?_; rintro e w1 ⟨rfl, hb⟩; rw [H.out]; obtain ⟨hc, hf⟩ := bcell hb; have hz := hb.size; have hz1 : w.heap.size < w1.heap.size := (by simp at hz; omega)) | (go_at_call 79; refine (hby.out _).mono ?_; rintro e w2 ⟨rfl, hb2⟩))
  go_ret2
  exact ⟨rfl, (by repeat (first | with_reducible exact Below.refl _ _ | with_reducible assumption | refine Below.drew ?_ | refine Below.setCell ?_ (by first | exact Nat.le_refl _ | omega | (simp; done) | (simp; omega)) _ | refine Below.alloc ?_ (by first | exact Nat.le_refl _ | omega | (simp; done) | (simp; omega)) _ | refine Below.tr ?_ (Nat.le_refl _) (by assumption) | exact Below.refl _ _ | assumption))⟩

/-- .. raised, where it fits -/
def upI (n a b : Nat) : Nat := if 0 < n * a % b then n * a / b + 1 else n * a / b
theorem ratsUp_ok (n a b : Nat) (HD : 18446744073709551616 ≤ n * a → DivHigh) (h : mayR a b = true) (hn : n ≤ 9223372036854775807) (hq : n * a / b ≤ 4611686018427387904) (w : World) :
    Calls Try.prog 18 #[.int .i64 n, .agg #[.int .i64 a, .int .i64 b]] w (PairPost w (upI n a b) 0) := by
  obtain ⟨h1, h2, h3, h4, -⟩ := mayR_spec h
  have hby : Hid (∀ W, Calls Try.prog 40 #[.int .i64 n, .int .i64 a, .int .i64 b] W fun e w' => e = .returned (.tuple #[.int .i64 (upI n a b : Nat), .int .i64 0]) ∧ Below W.heap.size W w') := fun W => by
    have hb := by_ok n a b HD (by omega) (by omega) (by omega) (by omega) (by omega) W
    unfold upI
    generalize n * a / b = q at *
    generalize n * a % b = r at *
    have hu := up_ok n a b _ _ (by omega) (by omega) (by omega) W hb
    refine hu.mono fun e w' hp => ?_
    obtain ⟨rfl, hB⟩ := hp
    refine ⟨?_, hB⟩
    by_cases hc : 0 < r
    · rw [if_pos (by omega), if_pos (by omega), if_pos (by omega), if_pos (by omega), if_pos hc]; rfl
    · rw [if_neg (by omega), if_neg (by omega), if_neg hc]
  have H := Lib.hid h; clear h HD hq
  generalize upI n a b = x at *
  go_enter Try.func18, Try.ntmps18
  go_wp2_with (first | (go_at_call 39; refine (may_any _ _ (by omega) (by omega) (by omega) (by omega) _).mono ?_; rintro e w1 ⟨rfl, hb⟩; rw [H.out]; obtain ⟨hc, hf⟩ := bcell hb; have hz := hb.size; have hz1 : w.heap.size < w1.heap.size := (by simp at hz; omega)) | (go_at_call 40; refine (hby.out _).mono ?_; rintro e w2 ⟨rfl, hb2⟩))
  go_ret2
  exact ⟨rfl, (by repeat (first | with_reducible exact Below.refl _ _ | with_reducible assumption | refine Below.drew ?_ | refine Below.setCell ?_ (by first | exact Nat.le_refl _ | omega | (simp; done) | (simp; omega)) _ | refine Below.alloc ?_ (by first | exact Nat.le_refl _ | omega | (simp; done) | (simp; omega)) _ | refine Below.tr ?_ (Nat.le_refl _) (by assumption) | exact Below.refl _ _ | assumption))⟩

/-- the most of which the raised product is n at most -/
def fitsI (n : Int) (a b : Nat) : Int := min (((n.toNat * b / a : Nat) : Int)) 1099511627776
theorem mayR_swap {a b : Int} (h : mayR a b = true) : mayR b a = true := by
  have := mayR_spec h
  unfold mayR
  rw [decide_eq_true_eq, Int.gcd_comm]
  omega
theorem ratsFits_ok (n a b : Nat) (HD : 18446744073709551616 ≤ n * b → DivHigh) (h : mayR a b = true) (hn : n ≤ 9223372036854775807) (w : World) :
    Calls Try.prog 45 #[.int .i64 n, .agg #[.int .i64 a, .int .i64 b]] w (IntPost w (fitsI n a b)) := by
  obtain ⟨h1, h2, h3, h4, -⟩ := mayR_spec h
  have hdn : Hid (∀ W, Calls Try.prog 67 #[.int .i64 n, .agg #[.int .i64 b, .int .i64 a]] W (PairPost W (downI n b a).1 (downI n b a).2)) := fun W => ratsDown_ok n b a HD (mayR_swap h) hn W
  have hiv : Hid (∀ W, Calls Try.prog 68 #[.agg #[.int .i64 a, .int .i64 b]] W fun e w' => e = .returned (.agg #[.int .i64 b, .int .i64 a]) ∧ Below W.heap.size W w') := fun W => ratsInverse_ok a b h W
  have H := Lib.hid h; clear h HD
  have hf : fitsI n a b = min (((n * b / a : Nat) : Int)) 1099511627776 := rfl
  rw [hf]; clear hf
  by_cases hc : n * b / a ≤ 9223372036854775807
  · have e1 : downI n b a = (((n * b / a : Nat) : Int), 0) := by unfold downI; rw [if_pos hc]
    rw [e1] at hdn
    generalize n * b / a = q at *
    clear e1
    go_enter Try.func45, Try.ntmps45
    go_wp2_with (first | (go_at_call 39; refine (may_any _ _ (by omega) (by omega) (by omega) (by omega) _).mono ?_; rintro e w1 ⟨rfl, hb⟩; rw [H.out]; obtain ⟨hcc, hff⟩ := bcell hb; have hz := hb.size; have hz1 : w.heap.size < w1.heap.size := (by simp at hz; omega)) | (go_at_call 68; refine (hiv.out _).mono ?_; rintro e w2 ⟨rfl, hb2⟩) | (go_at_call 67; refine (hdn.out _).mono ?_; rintro e w3 ⟨rfl, hb3⟩))
    all_goals
      go_ret
      exact ⟨ret_int (by omega), (by repeat (first | with_reducible exact Below.refl _ _ | with_reducible assumption | refine Below.drew ?_ | refine Below.setCell ?_ (by first | exact Nat.le_refl _ | omega | (simp; done) | (simp; omega)) _ | refine Below.alloc ?_ (by first | exact Nat.le_refl _ | omega | (simp; done) | (simp; omega)) _ | refine Below.tr ?_ (Nat.le_refl _) (by assumption) | exact Below.refl _ _ | assumption))⟩
  · have e1 : downI n b a = (0, 10) := by unfold downI; rw [if_neg hc]
    rw [e1] at hdn
    have e2 : min (((n * b / a : Nat) : Int)) 1099511627776 = 1099511627776 := by omega
    rw [e2]
    clear e1 e2 hc
    go_enter Try.func45, Try.ntmps45
    go_wp2_with (first | (go_at_call 39; refine (may_any _ _ (by omega) (by omega) (by omega) (by omega) _).mono ?_; rintro e w1 ⟨rfl, hb⟩; rw [H.out]; obtain ⟨hcc, hff⟩ := bcell hb; have hz := hb.size; have hz1 : w.heap.size < w1.heap.size := (by simp at hz; omega)) | (go_at_call 68; refine (hiv.out _).mono ?_; rintro e w2 ⟨rfl, hb2⟩) | (go_at_call 67; refine (hdn.out _).mono ?_; rintro e w3 ⟨rfl, hb3⟩))
    go_ret
    exact ⟨rfl, (by repeat (first | with_reducible exact Below.refl _ _ | with_reducible assumption | refine Below.drew ?_ | refine Below.setCell ?_ (by first | exact Nat.le_refl _ | omega | (simp; done) | (simp; omega)) _ | refine Below.alloc ?_ (by first | exact Nat.le_refl _ | omega | (simp; done) | (simp; omega)) _ | refine Below.tr ?_ (Nat.le_refl _) (by assumption) | exact Below.refl _ _ | assumption))⟩
theorem ratsFits_neg (n a b : Int) (hn : n < 0) (w : World) :
    Calls Try.prog 45 #[.int .i64 n, .agg #[.int .i64 a, .int .i64 b]] w (IntPost w 0) := by
  go_enter Try.func45, Try.ntmps45
  go_wp2
  go_ret
  exact ⟨rfl, (by repeat (first | with_reducible exact Below.refl _ _ | with_reducible assumption | refine Below.drew ?_ | refine Below.setCell ?_ (by first | exact Nat.le_refl _ | omega | (simp; done) | (simp; omega)) _ | refine Below.alloc ?_ (by first | exact Nat.le_refl _ | omega | (simp; done) | (simp; omega)) _ | refine Below.tr ?_ (Nat.le_refl _) (by assumption) | exact Below.refl _ _ | assumption))⟩
end Go.Proofs.Ytelcdiceongfdaa
