/- Walks of the layer fills, fourth part: how much may be filled. -/
import Derived.Test.YtelcdiceongfdaaFill3
namespace Go.Proofs.Ytelcdiceongfdaa
open Go.RowKit Go.BigFrame
set_option maxRecDepth 100000

set_option maxHeartbeats 2000000 in
/-- there is no such trade -/
theorem may_no {w : World} (L B : Option Addr) (o : Offer) (seq taker to : Nat) (want most : Int) (hT : ∀ W, Below w.heap.size w W → Calls Try.prog 21 #[.agg #[.pointer L, .pointer B], .int .u64 seq, .int .u8 taker, .int .u8 to, .int .i64 want, .int .i64 most] W (TradePost W (tradeOf L B o taker to want most) false)) :
    Calls Try.prog 8 #[.agg #[.pointer L, .pointer B], .int .u64 seq, .int .u8 taker, .int .u8 to, .int .i64 want, .int .i64 most] w (IntPost w 0) := by
  have HT := Lib.hid hT; clear hT
  unfold tradeOf at HT
  go_enter Try.func8, Try.ntmps8
  go_wp2_with (go_at_call 21; refine (HT.out _ (by repeat (first | with_reducible exact Below.refl _ _ | with_reducible assumption | refine Below.drew ?_ | refine Below.setCell ?_ (by first | exact Nat.le_refl _ | omega | (simp; done) | (simp; omega)) _ | refine Below.alloc ?_ (by first | exact Nat.le_refl _ | omega | (simp; done) | (simp; omega)) _ | refine Below.tr ?_ (Nat.le_refl _) (by assumption) | exact Below.refl _ _ | assumption))).mono ?_; rintro e w1 ⟨rfl, hb1⟩; have hB1 : Below w.heap.size w w1 := (by repeat (first | with_reducible exact Below.refl _ _ | with_reducible assumption | refine Below.drew ?_ | refine Below.setCell ?_ (by first | exact Nat.le_refl _ | omega | (simp; done) | (simp; omega)) _ | refine Below.alloc ?_ (by first | exact Nat.le_refl _ | omega | (simp; done) | (simp; omega)) _ | refine Below.tr ?_ (Nat.le_refl _) (by assumption) | exact Below.refl _ _ | assumption)))
  go_ret
  exact ⟨rfl, hB1.alloc hB1.size _⟩

theorem funcs_cells {w : World} (A : Array Value) (t : TypeId) : ∀ (j : Nat) (u : Value), A[j]? = some u → (w.alloc (.cells A t)).cell? ⟨w.heap.size, j, none⟩ = some u := fun j _u hu =>
  (cell_of_row _ _ j _ _ _ (alloc_new w (.cells A t))).trans hu

set_option maxHeartbeats 4000000 in
/-- there is such a trade, whatever its cells -/
theorem may_of {w : World} (hv : Value) (hv2 : ∃ x y, hv = .agg #[.pointer x, .pointer y]) (seq taker to : Nat) (want most : Int) (tv : List Value) (htl : tv.length = 13) (hto : tv.toArray.all (·.oneCell') = true) (n : Int)
    (hT : ∀ W, Below w.heap.size w W → Calls Try.prog 21 #[hv, .int .u64 seq, .int .u8 taker, .int .u8 to, .int .i64 want, .int .i64 most] W (TradePost W (.agg tv.toArray) true))
    (hL : ∀ W, Below w.heap.size w W → ∀ g c, (∀ (j : Nat) (u : Value), (#[Value.func (.func 23) #[.agg tv.toArray] #[], .func (.func 24) #[.agg tv.toArray] #[], .func (.func 25) #[.agg tv.toArray] #[], .func (.func 26) #[.agg tv.toArray] #[]] : Array Value)[j]? = some u → W.cell? ⟨g, j, none⟩ = some u) → g < W.heap.size → Calls Try.prog 22 #[.slice (some ⟨g, 0, none⟩) 4 c] W (IntPost W n)) :
    Calls Try.prog 8 #[hv, .int .u64 seq, .int .u8 taker, .int .u8 to, .int .i64 want, .int .i64 most] w (IntPost w n) := by
  obtain ⟨L, B, rfl⟩ := hv2
  have HT := Lib.hid hT; clear hT
  have HL := Lib.hid hL; clear hL
  have HTO := Lib.hid hto; clear hto
  have HTS := Lib.hid (show tv.toArray.size = 13 from htl)
  have HTI := Lib.hid (show ((Try.prog).info? 70).map (·.size) = some tv.length by rw [htl]; exact infoTrade)
  clear htl
  go_enter Try.func8, Try.ntmps8
  go_wp2_with (first | (go_at_call 21; refine (HT.out _ (by repeat (first | with_reducible exact Below.refl _ _ | with_reducible assumption | refine Below.drew ?_ | refine Below.setCell ?_ (by first | exact Nat.le_refl _ | omega | (simp; done) | (simp; omega)) _ | refine Below.alloc ?_ (by first | exact Nat.le_refl _ | omega | (simp; done) | (simp; omega)) _ | refine Below.tr ?_ (Nat.le_refl _) (by assumption) | exact Below.refl _ _ | assumption))).mono ?_; rintro e w1 ⟨rfl, hb1⟩; have hB1 := Lib.hid (show Below w.heap.size w w1 from (by repeat (first | with_reducible exact Below.refl _ _ | with_reducible assumption | refine Below.drew ?_ | refine Below.setCell ?_ (by first | exact Nat.le_refl _ | omega | (simp; done) | (simp; omega)) _ | refine Below.alloc ?_ (by first | exact Nat.le_refl _ | omega | (simp; done) | (simp; omega)) _ | refine Below.tr ?_ (Nat.le_refl _) (by assumption) | exact Below.refl _ _ | assumption))); clear hb1) | (refine wpList_store_mid rfl _ _ _ rfl w1.heap.size 0 tv.toArray rfl rfl (by rw [HTS.out]; exact thereTrade (alloc_new w1 _)) (by rw [HTS.out]; exact infoTrade) HTO.out ?_; have hq := Lib.hid (World.rangeAt_setCells_same (w1.alloc (.cells #[.pointer none, .pointer none, .int .u64 0, .int .u8 0, .int .u8 0, .int .u8 0, .int .i64 0, .int .i64 0, .int .i64 0, .int .u8 0, .int .u8 0, .int .i64 0, .int .i64 0] 70)) w1.heap.size 0 tv (by rw [show tv.length = 13 from HTS.out]; exact thereTrade (alloc_new w1 _))); have hB2 := Lib.hid (Below.setCells (hB1.out.alloc hB1.out.size (.cells #[.pointer none, .pointer none, .int .u64 0, .int .u8 0, .int .u8 0, .int .u8 0, .int .i64 0, .int .i64 0, .int .i64 0, .int .u8 0, .int .u8 0, .int .i64 0, .int .i64 0] 70)) hB1.out.size tv 0); generalize (World.setCells _ _ _ _) = W2 at *) | (refine wpList_load_mid rfl _ _ rfl w1.heap.size 0 rfl tv _ hq.out Try.underlying70 rfl HTI.out ?_) | (go_at_call 22; refine (HL.out _ (hB2.out.alloc hB2.out.size _) _ 4 (funcs_cells _ _) (by simp)).mono ?_; rintro e w2 ⟨rfl, hb2⟩))
  go_ret
  exact ⟨rfl, (hB2.out.alloc hB2.out.size _).trans (hb2.mono (by have := hB2.out.size; simp; omega))⟩

/-- there is such a trade -/
theorem may_yes {w : World} {b m : Nat} {A : Ledger} (h : LedgerAt w b m A) (bb : Nat) (o : Offer) (HD : small o ∨ DivHigh) (hmay : Offer.may o = true) (seq taker to : Nat) (want most : Int) (ht : taker < 256) (hto : to < 256) (hm : 1 ≤ most ∧ most ≤ 9223372036854775807) {ng nf : Int} (hg : GoesIs A o to ng) (hf : FitsIs A o taker most nf)
    (hT : ∀ W, Below w.heap.size w W → Calls Try.prog 21 #[.agg #[.pointer (some ⟨b, 0, none⟩), .pointer (some ⟨bb, 0, none⟩)], .int .u64 seq, .int .u8 taker, .int .u8 to, .int .i64 want, .int .i64 most] W (TradePost W (tradeOf (some ⟨b, 0, none⟩) (some ⟨bb, 0, none⟩) o taker to want most) true)) :
    Calls Try.prog 8 #[.agg #[.pointer (some ⟨b, 0, none⟩), .pointer (some ⟨bb, 0, none⟩)], .int .u64 seq, .int .u8 taker, .int .u8 to, .int .i64 want, .int .i64 most] w (IntPost w (leastI want o.left ng nf)) := by
  have ho : o.owner < 256 := by unfold Offer.may at hmay; simp only [Bool.and_eq_true, decide_eq_true_eq] at hmay; omega
  refine may_of _ ⟨_, _, rfl⟩ seq taker to want most [.pointer (some ⟨b, 0, none⟩), .pointer (some ⟨bb, 0, none⟩), .int .u64 o.seq, .int .u8 o.owner, .int .u8 o.sell, .int .u8 o.buy, .int .i64 o.left, .int .i64 o.num, .int .i64 o.den, .int .u8 taker, .int .u8 to, .int .i64 want, .int .i64 most] rfl (by simp [Value.oneCell']) _ hT ?_
  intro W hW g c hc hgl
  have hB := fun (W' : World) (h' : Below W.heap.size W W') => h.below (hW.trans (h'.mono hW.size))
  exact least_4 hc hgl (fun W' _ => trade_wanted b bb o taker to want most W') (fun W' _ => trade_left b bb o taker to want most W') (fun W' h' => trade_goes (hB W' h') bb o taker to want most ho hto hg) (fun W' h' => trade_fits (hB W' h') bb o HD hmay taker to want most ht hm hf)
end Go.Proofs.Ytelcdiceongfdaa
