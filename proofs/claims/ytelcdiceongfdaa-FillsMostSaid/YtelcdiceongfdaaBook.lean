/-
  Walks of the layer books, first part: offers, a book in memory, a new one, is one there, may an offer be.
-/
import Derived.Test.YtelcdiceongfdaaMoP2
import Derived.Test.YtelcdiceongfdaaMoP4
import Derived.Laws.AppendOwn
namespace Go.Proofs.Ytelcdiceongfdaa
open Go.RowKit Go.BigFrame
set_option maxRecDepth 100000

structure Offer where
  seq : Nat
  owner : Nat
  sell : Nat
  buy : Nat
  left : Int
  num : Int
  den : Int
deriving Inhabited, DecidableEq

def Offer.enc (o : Offer) : List Value := [.int .u64 o.seq, .int .u8 o.owner, .int .u8 o.sell, .int .u8 o.buy, .int .i64 o.left, .int .i64 o.num, .int .i64 o.den]
def Offer.val (o : Offer) : Value := .agg #[.int .u64 o.seq, .int .u8 o.owner, .int .u8 o.sell, .int .u8 o.buy, .int .i64 o.left, .int .i64 o.num, .int .i64 o.den]
def Offer.may (o : Offer) : Bool := decide (1 ≤ o.owner ∧ o.owner ≤ 16 ∧ 1 ≤ o.sell ∧ o.sell ≤ 8 ∧ 1 ≤ o.buy ∧ o.buy ≤ 8 ∧ o.sell ≠ o.buy ∧ 1 ≤ o.left ∧ o.left ≤ 1099511627776) && mayR o.num o.den
/-- what the Go types let in -/
structure Offer.typed (o : Offer) : Prop where
  seq : o.seq < 18446744073709551616
  owner : o.owner < 256
  sell : o.sell < 256
  buy : o.buy < 256
  left0 : -9223372036854775808 ≤ o.left
  left1 : o.left ≤ 9223372036854775807
  num0 : -9223372036854775808 ≤ o.num
  num1 : o.num ≤ 9223372036854775807
  den0 : -9223372036854775808 ≤ o.den
  den1 : o.den ≤ 9223372036854775807

structure Book where
  l : List Offer
  next : Nat
deriving Inhabited, DecidableEq

structure BookAt (w : World) (b : Nat) (B : Book) (sl : Value) : Prop where
  blk : w.heap[b]? = some (.cells #[sl, .int .u64 B.next] 38 (0, 0))
  row : w.ownsRow 0 57 7 sl B.l.length (B.l.flatMap Offer.enc)

theorem booksNew (w : World) :
    Calls Try.prog 6 #[] w fun e w' => e = .returned (.pointer (some ⟨w.heap.size, 0, none⟩)) ∧ Below w.heap.size w w' ∧ w'.heap.size = w.heap.size + 1 ∧ BookAt w' w.heap.size ⟨[], 1⟩ (.slice none 0 0) := by
  go_enter Try.func6, Try.ntmps6
  go_wp2
  go_ret
  exact ⟨rfl, (by repeat (first | with_reducible exact Below.refl _ _ | with_reducible assumption | refine Below.drew ?_ | refine Below.setCell ?_ (by first | exact Nat.le_refl _ | omega | (simp; done) | (simp; omega)) _ | refine Below.alloc ?_ (by first | exact Nat.le_refl _ | omega | (simp; done) | (simp; omega)) _ | refine Below.tr ?_ (Nat.le_refl _) (by assumption) | exact Below.refl _ _ | assumption)), by simp, alloc_new w _, World.ownsRow_nil _ _ _ _⟩

theorem booksThere_yes {w : World} {b : Nat} {n : Nat} (hc : w.cell? ⟨b, 1, none⟩ = some (.int .u64 n)) (hn : 1 ≤ n) :
    Calls Try.prog 31 #[.pointer (some ⟨b, 0, none⟩)] w fun e w' => e = .returned (.bool true) ∧ w = w' := by
  go_enter Try.func31, Try.ntmps31
  go_wp2
  go_ret
  exact ⟨ret_bool (by simp; omega), rfl⟩

def NoBook (w : World) (p : Option Addr) : Prop := p = none ∨ ∃ b, p = some ⟨b, 0, none⟩ ∧ w.cell? ⟨b, 1, none⟩ = some (.int .u64 0)
theorem booksThere_no {w : World} {p : Option Addr} (h : NoBook w p) :
    Calls Try.prog 31 #[.pointer p] w fun e w' => e = .returned (.bool false) ∧ w = w' := by
  rcases h with rfl | ⟨b, rfl, hc⟩
  all_goals
    go_enter Try.func31, Try.ntmps31
    go_wp2
    go_ret
    exact ⟨rfl, rfl⟩

theorem booksCurrency (c : Nat) (hc : c < 256) (w : World) :
    Calls Try.prog 69 #[.int .u8 c] w fun e w' => e = .returned (.bool (decide (1 ≤ c ∧ c ≤ 8))) ∧ w = w' := by
  by_cases h : 1 ≤ c
  · have e : decide (1 ≤ c ∧ c ≤ 8) = decide ((c : Int) ≤ 8) := by
      by_cases h8 : c ≤ 8
      · rw [decide_eq_true ⟨h, h8⟩, decide_eq_true (by omega)]
      · rw [decide_eq_false (by omega), decide_eq_false (by omega)]
    rw [e]; clear e
    go_enter Try.func69, Try.ntmps69
    go_wp2
    go_ret
    exact ⟨rfl, rfl⟩
  · have e : decide (1 ≤ c ∧ c ≤ 8) = false := by simp; omega
    rw [e]; clear e
    go_enter Try.func69, Try.ntmps69
    go_wp2
    go_ret
    exact ⟨rfl, rfl⟩

def BoolB (w : World) (b : Bool) (e : Ending) (w' : World) : Prop := e = .returned (.bool b) ∧ Below w.heap.size w w'
set_option maxHeartbeats 1000000 in
theorem booksMay (o : Offer) (h : o.typed) (w : World) : Calls Try.prog 47 #[o.val] w (BoolB w o.may) := by
  obtain ⟨hs, ho, h1, h2, h3, h4, h5, h6, h7, h8⟩ := h
  obtain ⟨seq, p, s, y, left, a, d⟩ := o
  dsimp only at *
  have hF : (Offer.may ⟨seq, p, s, y, left, a, d⟩) = (decide (1 ≤ p ∧ p ≤ 16 ∧ 1 ≤ s ∧ s ≤ 8 ∧ 1 ≤ y ∧ y ≤ 8 ∧ s ≠ y ∧ 1 ≤ left ∧ left ≤ 1099511627776) && mayR a d) := rfl
  show Calls Try.prog 47 #[.agg #[.int .u64 seq, .int .u8 p, .int .u8 s, .int .u8 y, .int .i64 left, .int .i64 a, .int .i64 d]] w _
  rw [hF]; clear hF
  by_cases g1 : 1 ≤ p ∧ p ≤ 16
  · by_cases g2 : 1 ≤ s ∧ s ≤ 8
    · have e2 := Lib.hid (decide_eq_true g2)
      by_cases g3 : 1 ≤ y ∧ y ≤ 8
      · have e3 := Lib.hid (decide_eq_true g3)
        by_cases g4 : s = y
        · rw [decide_eq_false (by omega)]
          subst g4
          go_enter Try.func47, Try.ntmps47
          go_wp2_with (go_at_call 69; refine (booksCurrency _ (by omega) _).mono ?_; rintro e w' ⟨rfl, rfl⟩; first | rw [e2.out] | rw [e3.out])
          go_ret
          exact ⟨ret_bool (by simp), (by repeat (first | with_reducible exact Below.refl _ _ | with_reducible assumption | refine Below.drew ?_ | refine Below.setCell ?_ (by first | exact Nat.le_refl _ | omega | (simp; done) | (simp; omega)) _ | refine Below.alloc ?_ (by first | exact Nat.le_refl _ | omega | (simp; done) | (simp; omega)) _ | refine Below.tr ?_ (Nat.le_refl _) (by assumption) | exact Below.refl _ _ | assumption))⟩
        · have hsy : ((s : Int) == y) = false := by simp; omega
          by_cases g5 : 1 ≤ left
          · by_cases g6 : left ≤ 1099511627776
            · rw [decide_eq_true (by omega), Bool.true_and]
              go_enter Try.func47, Try.ntmps47
              go_wp2_with (first | (go_at_call 69; refine (booksCurrency _ (by omega) _).mono ?_; rintro e w' ⟨rfl, rfl⟩; first | rw [e2.out] | rw [e3.out]) | (go_at_call 39; refine (may_any a d (by omega) (by omega) (by omega) (by omega) _).mono ?_; rintro e w1 ⟨rfl, hb1⟩))
              go_ret
              exact ⟨ret_bool (by simp), (by repeat (first | with_reducible exact Below.refl _ _ | with_reducible assumption | refine Below.drew ?_ | refine Below.setCell ?_ (by first | exact Nat.le_refl _ | omega | (simp; done) | (simp; omega)) _ | refine Below.alloc ?_ (by first | exact Nat.le_refl _ | omega | (simp; done) | (simp; omega)) _ | refine Below.tr ?_ (Nat.le_refl _) (by assumption) | exact Below.refl _ _ | assumption))⟩
            · rw [decide_eq_false (by omega)]
              go_enter Try.func47, Try.ntmps47
              go_wp2_with (go_at_call 69; refine (booksCurrency _ (by omega) _).mono ?_; rintro e w' ⟨rfl, rfl⟩; first | rw [e2.out] | rw [e3.out])
              go_ret
              exact ⟨ret_bool (by simp), (by repeat (first | with_reducible exact Below.refl _ _ | with_reducible assumption | refine Below.drew ?_ | refine Below.setCell ?_ (by first | exact Nat.le_refl _ | omega | (simp; done) | (simp; omega)) _ | refine Below.alloc ?_ (by first | exact Nat.le_refl _ | omega | (simp; done) | (simp; omega)) _ | refine Below.tr ?_ (Nat.le_refl _) (by assumption) | exact Below.refl _ _ | assumption))⟩
          · rw [decide_eq_false (by omega)]
            go_enter Try.func47, Try.ntmps47
            go_wp2_with (go_at_call 69; refine (booksCurrency _ (by omega) _).mono ?_; rintro e w' ⟨rfl, rfl⟩; first | rw [e2.out] | rw [e3.out])
            go_ret
            exact ⟨ret_bool (by simp), (by repeat (first | with_reducible exact Below.refl _ _ | with_reducible assumption | refine Below.drew ?_ | refine Below.setCell ?_ (by first | exact Nat.le_refl _ | omega | (simp; done) | (simp; omega)) _ | refine Below.alloc ?_ (by first | exact Nat.le_refl _ | omega | (simp; done) | (simp; omega)) _ | refine Below.tr ?_ (Nat.le_refl _) (by assumption) | exact Below.refl _ _ | assumption))⟩
      · have e3 := Lib.hid (decide_eq_false g3)
        rw [decide_eq_false (by omega)]
        go_enter Try.func47, Try.ntmps47
        go_wp2_with (go_at_call 69; refine (booksCurrency _ (by omega) _).mono ?_; rintro e w' ⟨rfl, rfl⟩; first | rw [e2.out] | rw [e3.out])
        go_ret
        exact ⟨ret_bool (by simp), (by repeat (first | with_reducible exact Below.refl _ _ | with_reducible assumption | refine Below.drew ?_ | refine Below.setCell ?_ (by first | exact Nat.le_refl _ | omega | (simp; done) | (simp; omega)) _ | refine Below.alloc ?_ (by first | exact Nat.le_refl _ | omega | (simp; done) | (simp; omega)) _ | refine Below.tr ?_ (Nat.le_refl _) (by assumption) | exact Below.refl _ _ | assumption))⟩
    · have e2 := Lib.hid (decide_eq_false g2)
      have e3 := e2
      rw [decide_eq_false (by omega)]
      go_enter Try.func47, Try.ntmps47
      go_wp2_with (go_at_call 69; refine (booksCurrency _ (by omega) _).mono ?_; rintro e w' ⟨rfl, rfl⟩; first | rw [e2.out] | rw [e3.out])
      go_ret
      exact ⟨ret_bool (by simp), (by repeat (first | with_reducible exact Below.refl _ _ | with_reducible assumption | refine Below.drew ?_ | refine Below.setCell ?_ (by first | exact Nat.le_refl _ | omega | (simp; done) | (simp; omega)) _ | refine Below.alloc ?_ (by first | exact Nat.le_refl _ | omega | (simp; done) | (simp; omega)) _ | refine Below.tr ?_ (Nat.le_refl _) (by assumption) | exact Below.refl _ _ | assumption))⟩
  · rw [decide_eq_false (by omega)]
    by_cases g7 : p < 1
    · go_enter Try.func47, Try.ntmps47
      go_wp2
      go_ret
      exact ⟨ret_bool (by simp), (by repeat (first | with_reducible exact Below.refl _ _ | with_reducible assumption | refine Below.drew ?_ | refine Below.setCell ?_ (by first | exact Nat.le_refl _ | omega | (simp; done) | (simp; omega)) _ | refine Below.alloc ?_ (by first | exact Nat.le_refl _ | omega | (simp; done) | (simp; omega)) _ | refine Below.tr ?_ (Nat.le_refl _) (by assumption) | exact Below.refl _ _ | assumption))⟩
    · have g8 : 16 < p := by omega
      go_enter Try.func47, Try.ntmps47
      go_wp2
      go_ret
      exact ⟨ret_bool (by simp), (by repeat (first | with_reducible exact Below.refl _ _ | with_reducible assumption | refine Below.drew ?_ | refine Below.setCell ?_ (by first | exact Nat.le_refl _ | omega | (simp; done) | (simp; omega)) _ | refine Below.alloc ?_ (by first | exact Nat.le_refl _ | omega | (simp; done) | (simp; omega)) _ | refine Below.tr ?_ (Nat.le_refl _) (by assumption) | exact Below.refl _ _ | assumption))⟩

end Go.Proofs.Ytelcdiceongfdaa
