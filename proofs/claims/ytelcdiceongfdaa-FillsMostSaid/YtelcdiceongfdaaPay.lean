/-
  Walks of the layer payments, first part: most that goes; what may be wrong with a payment.
-/
import Derived.Test.YtelcdiceongfdaaMoP13
import Derived.Test.YtelcdiceongfdaaMoP8
import Derived.Test.YtelcdiceongfdaaMoP4
import Derived.Test.YtelcdiceongfdaaMoP2
namespace Go.Proofs.Ytelcdiceongfdaa
open Go.RowKit Go.BigFrame
set_option maxRecDepth 100000

theorem rooms_GB {A : Ledger} (hA : A.WF) (c : Nat) : GB (rooms A c) := fun x y => by
  have d1 := hA.debt x y c
  have d2 := hA.debt y x c
  have l1 := hA.lim_le x y c
  have l2 := hA.lim_le y x c
  unfold rooms Ledger.room
  omega

/-- most that goes of a currency -/
def MostIs (A : Ledger) (f t c : Nat) (n : Int) : Prop := ∃ k r, routeF f t 9223372036854775807 k ⟨rooms A c, 0, []⟩ = some r ∧ n = r.got
def PMostPost (w : World) (A : Ledger) (f t c : Nat) (e : Ending) (w' : World) : Prop := ∃ n, MostIs A f t c n ∧ e = .returned (.int .i64 n) ∧ (0 ≤ n ∧ n ≤ 9223372036854775807) ∧ Below w.heap.size w w'
theorem payMost {w : World} {b m : Nat} {A : Ledger} (h : LedgerAt w b m A) (f t c : Nat) (hf : f < 256) (ht : t < 256) :
    Calls Try.prog 14 #[.pointer (some ⟨b, 0, none⟩), .int .u8 f, .int .u8 t, .int .u8 c] w (PMostPost w A f t c) := by
  have hGB := rooms_GB h.wf c
  go_enter Try.func14, Try.ntmps14
  go_wp2_with (first | (go_at_call 36; refine (graphOf h c).mono ?_; rintro e w1 ⟨rfl, hb1, hg1⟩) | (go_at_call 35; refine (most_flow hg1 hGB f t hf ht).mono ?_; rintro e w2 ⟨k, r, hr, rfl, hgot, hb2⟩; have HR := Lib.hid hr; clear hr))
  go_ret
  exact ⟨r.got, ⟨k, r, HR.out, rfl⟩, rfl, hgot, hb1.trans (hb2.mono hb1.size)⟩

theorem MostIs.unique {A : Ledger} {f t c : Nat} {n n' : Int} (h : MostIs A f t c n) (h' : MostIs A f t c n') : n = n' := by
  obtain ⟨k, r, hr, rfl⟩ := h
  obtain ⟨k', r', hr', rfl⟩ := h'
  rw [routeF_unique hr hr']
theorem most_ex {w : World} {b m : Nat} {A : Ledger} (h : LedgerAt w b m A) (f t c : Nat) (hf : f < 256) (ht : t < 256) : ∃ n, MostIs A f t c n ∧ 0 ≤ n ∧ n ≤ 9223372036854775807 := by
  obtain ⟨e, w', fr, ⟨n, hn, _, hb, _⟩, _⟩ := payMost h f t c hf ht []
  exact ⟨n, hn, hb.1, hb.2⟩
theorem payMostN {w : World} {b m : Nat} {A : Ledger} (h : LedgerAt w b m A) (f t c : Nat) (hf : f < 256) (ht : t < 256) {n : Int} (hn : MostIs A f t c n) :
    Calls Try.prog 14 #[.pointer (some ⟨b, 0, none⟩), .int .u8 f, .int .u8 t, .int .u8 c] w (IntPost w n) :=
  (payMost h f t c hf ht).mono fun e w' ⟨n', hn', he, _, hb⟩ => ⟨by rw [he, hn'.unique hn], hb⟩

/-! ### what may be wrong -/
theorem payParty (p : Nat) (hp : p < 256) (w : World) :
    Calls Try.prog 74 #[.int .u8 p] w fun e w' => e = .returned (.bool (decide (1 ≤ p ∧ p ≤ 16))) ∧ w = w' := by
  by_cases h1 : 1 ≤ p
  · go_enter Try.func74, Try.ntmps74
    go_wp2
    go_ret
    exact ⟨ret_bool (by rw [Bool.eq_iff_iff]; simp [h1] <;> omega), rfl⟩
  · go_enter Try.func74, Try.ntmps74
    go_wp2
    go_ret
    exact ⟨ret_bool (by simp <;> omega), rfl⟩

abbrev payV (b f t c : Nat) (n : Int) : Value := .agg #[.pointer (some ⟨b, 0, none⟩), .int .u8 f, .int .u8 t, .int .u8 c, .int .i64 n]
theorem absent_no {w : World} {b m : Nat} {A : Ledger} (h : LedgerAt w b m A) (f t c : Nat) (n : Int) :
    Calls Try.prog 58 #[.agg #[.pointer (some ⟨b, 0, none⟩), .int .u8 f, .int .u8 t, .int .u8 c, .int .i64 n]] w fun e w' => e = .returned (.bool false) ∧ Below w.heap.size w w' := by
  go_enter Try.func58, Try.ntmps58
  go_wp2_with (go_at_call 16; refine (ledgersCopy (h.below (by repeat (first | with_reducible exact Below.refl _ _ | with_reducible assumption | refine Below.drew ?_ | refine Below.setCell ?_ (by first | exact Nat.le_refl _ | omega | (simp; done) | (simp; omega)) _ | refine Below.alloc ?_ (by first | exact Nat.le_refl _ | omega | (simp; done) | (simp; omega)) _ | refine Below.tr ?_ (Nat.le_refl _) (by assumption) | exact Below.refl _ _ | assumption)))).mono ?_; rintro e w1 ⟨b', m', rfl, hb1, _⟩)
  go_ret
  exact ⟨rfl, (by repeat (first | with_reducible exact Below.refl _ _ | with_reducible assumption | refine Below.drew ?_ | refine Below.setCell ?_ (by first | exact Nat.le_refl _ | omega | (simp; done) | (simp; omega)) _ | refine Below.alloc ?_ (by first | exact Nat.le_refl _ | omega | (simp; done) | (simp; omega)) _ | refine Below.tr ?_ (Nat.le_refl _) (by assumption) | exact Below.refl _ _ | assumption))⟩
def badPay (f t c : Nat) (n : Int) : Bool := decide (¬ (1 ≤ f ∧ f ≤ 16) ∨ ¬ (1 ≤ t ∧ t ≤ 16) ∨ f = t ∨ c < 1 ∨ 8 < c ∨ n < 1 ∨ 1099511627776 < n)
theorem bad_no (b f t c : Nat) (n : Int) (hf : 1 ≤ f ∧ f ≤ 16) (ht : 1 ≤ t ∧ t ≤ 16) (hft : f ≠ t) (hc : 1 ≤ c ∧ c ≤ 8) (hn : 1 ≤ n ∧ n ≤ 1099511627776) (w : World) :
    Calls Try.prog 59 #[.agg #[.pointer (some ⟨b, 0, none⟩), .int .u8 f, .int .u8 t, .int .u8 c, .int .i64 n]] w fun e w' => e = .returned (.bool false) ∧ Below w.heap.size w w' := by
  have e1 := Lib.hid (decide_eq_true hf)
  have e2 := Lib.hid (decide_eq_true ht)
  have e3 : ((f : Int) == t) = false := by simp; omega
  go_enter Try.func59, Try.ntmps59
  go_wp2_with (go_at_call 74; refine (payParty _ (by omega) _).mono ?_; rintro e w' ⟨rfl, rfl⟩; first | rw [e1.out] | rw [e2.out])
  go_ret
  exact ⟨ret_bool (by simp; omega), (by repeat (first | with_reducible exact Below.refl _ _ | with_reducible assumption | refine Below.drew ?_ | refine Below.setCell ?_ (by first | exact Nat.le_refl _ | omega | (simp; done) | (simp; omega)) _ | refine Below.alloc ?_ (by first | exact Nat.le_refl _ | omega | (simp; done) | (simp; omega)) _ | refine Below.tr ?_ (Nat.le_refl _) (by assumption) | exact Below.refl _ _ | assumption))⟩
theorem strange_no {w : World} {b m : Nat} {A : Ledger} (h : LedgerAt w b m A) (f t c : Nat) (n : Int) (hf : f < 256) (ht : t < 256) (h1 : A.has f = true) (h2 : A.has t = true) :
    Calls Try.prog 60 #[.agg #[.pointer (some ⟨b, 0, none⟩), .int .u8 f, .int .u8 t, .int .u8 c, .int .i64 n]] w fun e w' => e = .returned (.bool false) ∧ Below w.heap.size w w' := by
  have H1 := Lib.hid h1; have H2 := Lib.hid h2; clear h1 h2
  go_enter Try.func60, Try.ntmps60
  go_wp2_with (go_at_call 13; refine (has_any (h.below (by repeat (first | with_reducible exact Below.refl _ _ | with_reducible assumption | refine Below.drew ?_ | refine Below.setCell ?_ (by first | exact Nat.le_refl _ | omega | (simp; done) | (simp; omega)) _ | refine Below.alloc ?_ (by first | exact Nat.le_refl _ | omega | (simp; done) | (simp; omega)) _ | refine Below.tr ?_ (Nat.le_refl _) (by assumption) | exact Below.refl _ _ | assumption))) _ (by omega)).mono ?_; rintro e w' ⟨rfl, rfl⟩; first | rw [H1.out] | rw [H2.out])
  go_ret
  exact ⟨rfl, (by repeat (first | with_reducible exact Below.refl _ _ | with_reducible assumption | refine Below.drew ?_ | refine Below.setCell ?_ (by first | exact Nat.le_refl _ | omega | (simp; done) | (simp; omega)) _ | refine Below.alloc ?_ (by first | exact Nat.le_refl _ | omega | (simp; done) | (simp; omega)) _ | refine Below.tr ?_ (Nat.le_refl _) (by assumption) | exact Below.refl _ _ | assumption))⟩
end Go.Proofs.Ytelcdiceongfdaa
