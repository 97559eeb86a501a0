/- Walks of the layer fills, seventh part: the house of 'lives': what may be filled of it, and is. -/
import Derived.Test.YtelcdiceongfdaaFill6
import Derived.Test.YtelcdiceongfdaaBook6
namespace Go.Proofs.Ytelcdiceongfdaa
open Go.RowKit Go.BigFrame
set_option maxRecDepth 100000

theorem disj_of {w : World} {b m bb : Nat} {A : Ledger} {K : Book} {sl : Value} (h : LedgerAt w b m A) (hK : BookAt w bb K sl) : bb ≠ b ∧ bb ≠ m ∧ ∀ k, sl.ownBlock = some k → k ≠ b ∧ k ≠ m := by
  obtain ⟨es, clk, hm, -⟩ := h.map
  have hb := h.blk
  refine ⟨?_, ?_, fun k hk => ?_⟩
  · rintro rfl; rw [hK.blk] at hb; simp at hb
  · rintro rfl; rw [hK.blk] at hm; simp at hm
  · rcases hK.row.2 with ⟨e, _⟩ | ⟨g', cap, cur, e, _, hg, _⟩
    · rw [e] at hk; cases hk
    · rw [e] at hk
      simp only [Value.ownBlock, Option.some.injEq] at hk
      subst hk
      constructor
      · rintro rfl; rw [hg] at hb; simp at hb
      · rintro rfl; rw [hg] at hm; simp at hm

def LA : Ledger := ((((((Ledger.empty.openP 1).2.openP 2).2.openP 3).2).trust 3 2 1 9).2.trust 2 1 2 7).2
def LO : Offer := ⟨1, 2, 1, 2, 5, 3, 2⟩
def LB : Book := ((⟨[], 1⟩ : Book).place LO).2.2
theorem la_has1 : LA.has 1 = true := by decide +kernel
theorem la_has2 : LA.has 2 = true := by decide +kernel
theorem la_has3 : LA.has 3 = true := by decide +kernel
theorem lb_is : LB = ⟨[LO], 2⟩ := by decide +kernel
theorem lb_next : 1 ≤ LB.next := by rw [lb_is]; decide
theorem lb_len : LB.l.length ≤ 1000000000000 := by rw [lb_is]; decide
theorem lb_left : ∀ k, k < LB.l.length → 0 ≤ (LB.l[k]!).left ∧ (LB.l[k]!).left ≤ 9223372036854775807 := by
  rw [lb_is]
  intro k hk
  obtain rfl : k = 0 := by simpa using hk
  decide
theorem lo_may : LO.may = true := by decide +kernel
theorem lo_small : small LO := ⟨by decide, by decide⟩
theorem most_sell : MostIs LA 2 3 1 9 := by
  have h : (routeF 2 3 9223372036854775807 5 ⟨rooms LA 1, 0, []⟩).map (·.got) = some 9 := by decide +kernel
  obtain ⟨r, hr, e⟩ := Option.map_eq_some_iff.1 h
  exact ⟨5, r, hr, e.symm⟩
theorem most_buy : MostIs LA 1 2 2 7 := by
  have h : (routeF 1 2 9223372036854775807 5 ⟨rooms LA 2, 0, []⟩).map (·.got) = some 7 := by decide +kernel
  obtain ⟨r, hr, e⟩ := Option.map_eq_some_iff.1 h
  exact ⟨5, r, hr, e.symm⟩
theorem live_find {w : World} {bb : Nat} {sl : Value} (hK : BookAt w bb LB sl) : Calls Try.prog 12 #[.pointer (some ⟨bb, 0, none⟩), .int .u64 (1 : Nat)] w (FindPost w LO true) := by
  have e1 : Book.findD LB.l 1 = LO := by decide +kernel
  have e2 : Book.has LB.l 1 = true := by decide +kernel
  have := booksFind hK (by rw [lb_is]; decide) lb_next 1
  rw [e1, e2] at this
  exact this
theorem live_find7 {w : World} {bb : Nat} {sl : Value} (hK : BookAt w bb LB sl) : Calls Try.prog 12 #[.pointer (some ⟨bb, 0, none⟩), .int .u64 (7 : Nat)] w (FindPost w Offer.zero false) := by
  have e1 : Book.findD LB.l 7 = Offer.zero := by decide +kernel
  have e2 : Book.has LB.l 7 = false := by decide +kernel
  have := booksFind hK (by rw [lb_is]; decide) lb_next 7
  rw [e1, e2] at this
  exact this
theorem live_may {w : World} {b m bb : Nat} {sl : Value} (h : LedgerAt w b m LA) (hK : BookAt w bb LB sl) (want most x : Int) (hw : 0 < want) (hm : 1 ≤ most ∧ most ≤ 9223372036854775807) (hx : leastI want 5 9 (fitsI (min (min most 7) 1099511627776) 3 2) = x) :
    Calls Try.prog 8 #[.agg #[.pointer (some ⟨b, 0, none⟩), .pointer (some ⟨bb, 0, none⟩)], .int .u64 (1 : Nat), .int .u8 (1 : Nat), .int .u8 (3 : Nat), .int .i64 want, .int .i64 most] w (IntPost w x) := by
  subst hx
  refine may_yes h bb LO (.inl lo_small) lo_may 1 1 3 want most (by decide) (by decide) hm (ng := 9) (.inr ⟨by decide, most_sell⟩) ⟨7, most_buy, rfl⟩ ?_
  intro W hW
  exact trade_yes (h.below hW) (some ⟨bb, 0, none⟩) 1 1 3 want most LO (fun W' hW' => live_find ((hK.below hW).below hW')) (by decide) (by decide) (by decide) (by decide) la_has2 la_has1 la_has3 hw (by omega)
theorem live_same {w : World} {b m bb : Nat} {sl : Value} (_h : LedgerAt w b m LA) (hK : BookAt w bb LB sl) (want most : Int) :
    Calls Try.prog 8 #[.agg #[.pointer (some ⟨b, 0, none⟩), .pointer (some ⟨bb, 0, none⟩)], .int .u64 (1 : Nat), .int .u8 (2 : Nat), .int .u8 (3 : Nat), .int .i64 want, .int .i64 most] w (IntPost w 0) :=
  may_no _ _ LO 1 2 3 want most fun W hW => trade_same _ (some ⟨bb, 0, none⟩) 1 2 3 want most LO (fun W' hW' => live_find ((hK.below hW).below hW')) (by decide) (by decide) (by decide)
theorem live_none {w : World} {b m bb : Nat} {sl : Value} (_h : LedgerAt w b m LA) (hK : BookAt w bb LB sl) (want most : Int) :
    Calls Try.prog 8 #[.agg #[.pointer (some ⟨b, 0, none⟩), .pointer (some ⟨bb, 0, none⟩)], .int .u64 (7 : Nat), .int .u8 (1 : Nat), .int .u8 (3 : Nat), .int .i64 want, .int .i64 most] w (IntPost w 0) :=
  may_no _ _ Offer.zero 7 1 3 want most fun _W hW => trade_none _ (some ⟨bb, 0, none⟩) 7 1 3 want most Offer.zero (fun _W' hW' => live_find7 ((hK.below hW).below hW'))
theorem live_do5 {w : World} {b m bb : Nat} {sl : Value} (h : LedgerAt w b m LA) (hK : BookAt w bb LB sl) :
    Calls Try.prog 7 #[.agg #[.pointer (some ⟨b, 0, none⟩), .pointer (some ⟨bb, 0, none⟩)], .int .u64 (1 : Nat), .int .u8 (1 : Nat), .int .u8 (3 : Nat), .int .i64 5] w (DoPost w (fillV 0 0 0 0 0) 1) :=
  do_more h hK lb_next lb_len 1 1 3 5 4 (by decide) (by decide) fun W hW => live_may (h.below hW) (hK.below hW) 5 1099511627776 4 (by decide) (by decide) (by decide)
theorem live_do3 {w : World} {b m bb : Nat} {sl : Value} (h : LedgerAt w b m LA) (hK : BookAt w bb LB sl) :
    Calls Try.prog 7 #[.agg #[.pointer (some ⟨b, 0, none⟩), .pointer (some ⟨bb, 0, none⟩)], .int .u64 (1 : Nat), .int .u8 (1 : Nat), .int .u8 (3 : Nat), .int .i64 (3 : Nat)] w (DonePost w b m bb sl LA LB LO 1 1 3 3 5) :=
  do_ok h hK lb_next lb_len lb_left (disj_of h hK) LO 1 1 3 3 5 3 (by decide +kernel) lo_may (by decide) (by decide) (by decide) (fun W => ratsUp_ok 3 3 2 (fun hb => absurd hb (by decide)) (by decide) (by decide) (by decide) W) (by decide) (by decide) (by decide) (by decide) la_has2 la_has1 la_has3 fun W hW => live_may (h.below hW) (hK.below hW) 3 1099511627776 3 (by decide) (by decide) (by decide)
end Go.Proofs.Ytelcdiceongfdaa
