/- Walks of the layer fills, first part: the bounds of a trade. Where a rate's terms are great the law of a long division is asked. -/
import Derived.Test.YtelcdiceongfdaaPay2
import Derived.Test.YtelcdiceongfdaaBook3
namespace Go.Proofs.Ytelcdiceongfdaa
open Go.RowKit Go.BigFrame
set_option maxRecDepth 100000

def tradeV (b bb : Nat) (o : Offer) (taker to : Nat) (want most : Int) : Value :=
  .agg #[.pointer (some ⟨b, 0, none⟩), .pointer (some ⟨bb, 0, none⟩), .int .u64 o.seq, .int .u8 o.owner, .int .u8 o.sell, .int .u8 o.buy, .int .i64 o.left, .int .i64 o.num, .int .i64 o.den, .int .u8 taker, .int .u8 to, .int .i64 want, .int .i64 most]

theorem trade_wanted (b bb : Nat) (o : Offer) (taker to : Nat) (want most : Int) (w : World) :
    Calls Try.prog 23 #[tradeV b bb o taker to want most] w (IntPost w want) := by
  unfold tradeV
  go_enter Try.func23, Try.ntmps23
  go_wp2
  go_ret
  exact ⟨rfl, (by repeat (first | with_reducible exact Below.refl _ _ | with_reducible assumption | refine Below.drew ?_ | refine Below.setCell ?_ (by first | exact Nat.le_refl _ | omega | (simp; done) | (simp; omega)) _ | refine Below.alloc ?_ (by first | exact Nat.le_refl _ | omega | (simp; done) | (simp; omega)) _ | refine Below.tr ?_ (Nat.le_refl _) (by assumption) | exact Below.refl _ _ | assumption))⟩
theorem trade_left (b bb : Nat) (o : Offer) (taker to : Nat) (want most : Int) (w : World) :
    Calls Try.prog 24 #[tradeV b bb o taker to want most] w (IntPost w o.left) := by
  unfold tradeV
  go_enter Try.func24, Try.ntmps24
  go_wp2
  go_ret
  exact ⟨rfl, (by repeat (first | with_reducible exact Below.refl _ _ | with_reducible assumption | refine Below.drew ?_ | refine Below.setCell ?_ (by first | exact Nat.le_refl _ | omega | (simp; done) | (simp; omega)) _ | refine Below.alloc ?_ (by first | exact Nat.le_refl _ | omega | (simp; done) | (simp; omega)) _ | refine Below.tr ?_ (Nat.le_refl _) (by assumption) | exact Below.refl _ _ | assumption))⟩

/-- how much of what is sold goes to that one -/
def GoesIs (A : Ledger) (o : Offer) (to : Nat) (n : Int) : Prop := (to = o.owner ∧ n = 1099511627776) ∨ (to ≠ o.owner ∧ MostIs A o.owner to o.sell n)
theorem goes_ex {w : World} {b m : Nat} {A : Ledger} (h : LedgerAt w b m A) (o : Offer) (to : Nat) (ho : o.owner < 256) (ht : to < 256) : ∃ n, GoesIs A o to n ∧ 0 ≤ n ∧ n ≤ 9223372036854775807 := by
  by_cases e : to = o.owner
  · exact ⟨_, .inl ⟨e, rfl⟩, by omega, by omega⟩
  · obtain ⟨n, hn, h1, h2⟩ := most_ex h o.owner to o.sell ho ht
    exact ⟨n, .inr ⟨e, hn⟩, h1, h2⟩
theorem trade_goes {w : World} {b m : Nat} {A : Ledger} (h : LedgerAt w b m A) (bb : Nat) (o : Offer) (taker to : Nat) (want most : Int) (ho : o.owner < 256) (ht : to < 256) {n : Int} (hn : GoesIs A o to n) :
    Calls Try.prog 25 #[tradeV b bb o taker to want most] w (IntPost w n) := by
  unfold tradeV
  obtain ⟨sq, p, s, y, left, a, d⟩ := o
  dsimp only at *
  rcases hn with ⟨e, rfl⟩ | ⟨e, hn⟩
  · dsimp only at e
    subst e
    go_enter Try.func25, Try.ntmps25
    go_wp2
    go_ret
    exact ⟨rfl, (by repeat (first | with_reducible exact Below.refl _ _ | with_reducible assumption | refine Below.drew ?_ | refine Below.setCell ?_ (by first | exact Nat.le_refl _ | omega | (simp; done) | (simp; omega)) _ | refine Below.alloc ?_ (by first | exact Nat.le_refl _ | omega | (simp; done) | (simp; omega)) _ | refine Below.tr ?_ (Nat.le_refl _) (by assumption) | exact Below.refl _ _ | assumption))⟩
  · dsimp only at e hn
    have eb : ((to : Int) == p) = false := by simp; omega
    have HN := Lib.hid hn; clear hn
    go_enter Try.func25, Try.ntmps25
    go_wp2_with (go_at_call 14; refine (payMostN (h.below (by repeat (first | with_reducible exact Below.refl _ _ | with_reducible assumption | refine Below.drew ?_ | refine Below.setCell ?_ (by first | exact Nat.le_refl _ | omega | (simp; done) | (simp; omega)) _ | refine Below.alloc ?_ (by first | exact Nat.le_refl _ | omega | (simp; done) | (simp; omega)) _ | refine Below.tr ?_ (Nat.le_refl _) (by assumption) | exact Below.refl _ _ | assumption))) p to s (by omega) (by omega) HN.out).mono ?_; rintro e w1 ⟨rfl, hb1⟩)
    go_ret
    exact ⟨rfl, (by repeat (first | with_reducible exact Below.refl _ _ | with_reducible assumption | refine Below.drew ?_ | refine Below.setCell ?_ (by first | exact Nat.le_refl _ | omega | (simp; done) | (simp; omega)) _ | refine Below.alloc ?_ (by first | exact Nat.le_refl _ | omega | (simp; done) | (simp; omega)) _ | refine Below.tr ?_ (Nat.le_refl _) (by assumption) | exact Below.refl _ _ | assumption))⟩

/-- how much is paid for by what may be given -/
def FitsIs (A : Ledger) (o : Offer) (taker : Nat) (most n : Int) : Prop := ∃ g, MostIs A taker o.owner o.buy g ∧ n = fitsI (min (min most g) 1099511627776) o.num.toNat o.den.toNat
def small (o : Offer) : Prop := o.num < 8388608 ∧ o.den < 8388608
theorem fits_bd {n : Int} {a b : Nat} : 0 ≤ fitsI n a b ∧ fitsI n a b ≤ 1099511627776 := by
  unfold fitsI
  have := Int.natCast_nonneg (n.toNat * b / a)
  omega
theorem fits_ex {w : World} {b m : Nat} {A : Ledger} (h : LedgerAt w b m A) (o : Offer) (taker : Nat) (most : Int) (ho : o.owner < 256) (ht : taker < 256) : ∃ n, FitsIs A o taker most n ∧ 0 ≤ n ∧ n ≤ 1099511627776 := by
  obtain ⟨g, hg, h1, h2⟩ := most_ex h taker o.owner o.buy ht ho
  exact ⟨_, ⟨g, hg, rfl⟩, fits_bd.1, fits_bd.2⟩
theorem trade_fits {w : World} {b m : Nat} {A : Ledger} (h : LedgerAt w b m A) (bb : Nat) (o : Offer) (HD : small o ∨ DivHigh) (hmay : Offer.may o = true) (taker to : Nat) (want most : Int) (ht : taker < 256) (hm : 1 ≤ most ∧ most ≤ 9223372036854775807) {n : Int} (hn : FitsIs A o taker most n) :
    Calls Try.prog 26 #[tradeV b bb o taker to want most] w (IntPost w n) := by
  unfold tradeV
  have hmr : mayR o.num o.den = true := by unfold Offer.may at hmay; simp only [Bool.and_eq_true] at hmay; exact hmay.2
  have hmp : o.owner ≤ 16 := by unfold Offer.may at hmay; simp only [Bool.and_eq_true, decide_eq_true_eq] at hmay; omega
  have hsp := mayR_spec hmr
  obtain ⟨g, hg, rfl⟩ := hn
  have hg01 : 0 ≤ g ∧ g ≤ 9223372036854775807 := by
    obtain ⟨g', hg', h1, h2⟩ := most_ex h taker o.owner o.buy ht (by omega)
    rw [hg.unique hg']; exact ⟨h1, h2⟩
  obtain ⟨sq, p, s, y, left, a, d⟩ := o
  dsimp only at *
  obtain ⟨a', rfl⟩ := Int.eq_ofNat_of_zero_le (show 0 ≤ a by omega)
  obtain ⟨d', rfl⟩ := Int.eq_ofNat_of_zero_le (show 0 ≤ d by omega)
  obtain ⟨v, hv⟩ : ∃ v : Nat, min (min most g) 1099511627776 = v := Int.eq_ofNat_of_zero_le (by omega)
  have hfit : Hid (∀ (W : World), Calls Try.prog 45 #[.int .i64 v, .agg #[.int .i64 a', .int .i64 d']] W (IntPost W (fitsI v a' d'))) := fun W =>
    ratsFits_ok v a' d' (fun hbig => by
      rcases HD with hs | hd
      · exfalso
        have h1 : d' ≤ 8388607 := by have := hs.2; dsimp only at this; omega
        have := Nat.mul_le_mul (show v ≤ 1099511627776 by omega) h1
        omega
      · exact hd) hmr (by omega) W
  rw [hv, Int.toNat_natCast, Int.toNat_natCast]
  have HV := Lib.hid hv
  have HG := Lib.hid hg
  clear hmay hmr HD hsp hg hv
  go_enter Try.func26, Try.ntmps26
  go_wp2
  refine wp_region_later (by kernel_rfl) (by kernel_rfl) ?_; (repeat (go_big_quiet_step ((go_at_call 14; exact Calls.later (payMostN (h.below (Below.tr (by repeat (first | with_reducible exact Below.refl _ _ | with_reducible assumption | refine Below.drew ?_ | refine Below.setCell ?_ (by first | exact Nat.le_refl _ | omega | (simp; done) | (simp; omega)) _ | refine Below.alloc ?_ (by first | exact Nat.le_refl _ | omega | (simp; done) | (simp; omega)) _ | refine Below.tr ?_ (Nat.le_refl _) (by assumption) | exact Below.refl _ _ | assumption)) (Nat.le_refl _) (Later.b _))) _ _ _ (by omega) (by omega) HG.out))))); refine wpQuiet_nil ?_; rintro _ ⟨W, rfl⟩
  have hWb := W.b
  have hfit2 : Hid (∀ (X : Int) (W' : World), X = v → Calls Try.prog 45 #[.int .i64 X, .agg #[.int .i64 a', .int .i64 d']] W' (IntPost W' (fitsI v a' d'))) := fun X W' hX => by
    subst hX; exact hfit.out W'
  clear hfit
  go_wp2_with (go_at_call 45; refine (hfit2.out _ _ (by have := HV.out; omega)).mono ?_; rintro e w2 ⟨rfl, hb2⟩)
  all_goals
    go_ret
    exact ⟨rfl, (by repeat (first | with_reducible exact Below.refl _ _ | with_reducible assumption | refine Below.drew ?_ | refine Below.setCell ?_ (by first | exact Nat.le_refl _ | omega | (simp; done) | (simp; omega)) _ | refine Below.alloc ?_ (by first | exact Nat.le_refl _ | omega | (simp; done) | (simp; omega)) _ | refine Below.tr ?_ (Nat.le_refl _) (by assumption) | exact Below.refl _ _ | assumption))⟩
end Go.Proofs.Ytelcdiceongfdaa
