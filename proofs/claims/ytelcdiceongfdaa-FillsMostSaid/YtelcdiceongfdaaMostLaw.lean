/-
  The law 'FillsMost': whatever acts, offers and ask, it answers true and leaves its arguments as they were.
-/
import Derived.Test.YtelcdiceongfdaaMoP19
import Derived.Test.YtelcdiceongfdaaDivHigh
import Derived.Test.YtelcdiceongfdaaOpen10
namespace Go.Proofs.Ytelcdiceongfdaa
open Go.ChangeShapes Go.WideShapes Go.ChangeAt Go.RowKit Go.BigFrame
set_option maxRecDepth 100000

set_option maxHeartbeats 4000000 in
theorem most_great {w : World} {ad1 ad2 : Option Addr} {n1 c1 n2 c2 : Nat} (h : 120 < n1 ∨ n1 ≤ 120 ∧ 40 < n2) (seq taker tu : Nat) (N most : Int) (full : Bool) :
    Calls Try.prog 4 #[.agg #[.slice ad1 n1 c1, .slice ad2 n2 c2], .agg (askCells seq taker tu N most full)] w fun e w' => e = .returned (.bool true) ∧ Below w.heap.size w w' := by
  have HG := Lib.hid h; clear h
  go_enter Try.func4, Try.ntmps4
  go_wp2_with (first | (go_at_call 10; refine (great_yes HG.out _).mono ?_; rintro e w1 ⟨rfl, hb1⟩) | (go_at_call 9; refine (lives_true _).mono ?_; rintro e w2 ⟨rfl, hb2⟩))
  go_ret
  exact ⟨rfl, (by repeat (first | with_reducible exact Below.refl _ _ | with_reducible assumption | refine Below.drew ?_ | refine Below.setCell ?_ (by first | exact Nat.le_refl _ | omega | (simp; done) | (simp; omega)) _ | refine Below.alloc ?_ (by first | exact Nat.le_refl _ | omega | (simp; done) | (simp; omega)) _ | refine Below.tr ?_ (Nat.le_refl _) (by assumption) | exact Below.refl _ _ | assumption))⟩

theorem fillsMost_walk {w : World} {ad1 ad2 : Option Addr} {b1 o1 n1 c1 b2 o2 n2 c2 : Nat} {f : Nat → Act} {g : Nat → Offer} (hW : WorldIn w ad1 b1 o1 n1 f ad2 b2 o2 n2 g) (seq taker tu : Nat) (N most : Int) (full : Bool) (ht : taker < 256) (htu : tu < 256) (hN : N ≤ 9223372036854775807) (hm : most ≤ 9223372036854775807) :
    Calls Try.prog 4 #[.agg #[.slice ad1 n1 c1, .slice ad2 n2 c2], .agg (askCells seq taker tu N most full)] w fun e w' => e = .returned (.bool true) ∧ Below w.heap.size w w' := by
  by_cases hg : n1 ≤ 120 ∧ n2 ≤ 40
  · obtain ⟨hn1, hn2⟩ := hg
    have HD := div_high
    -- the house exists: so do the amounts
    obtain ⟨e, W', fr, ⟨b, m, bb, sl, -, -, hL, hK, -⟩, -⟩ := made10 (c1 := c1) (c2 := c2) hW.a1 hW.h1 (by omega) hW.a2 hW.h2 (by omega) []
    obtain ⟨n, hn, h0, -⟩ := may_ex hL (madeB_fine g n2) seq taker tu N most ht htu
    obtain ⟨n, rfl⟩ := Int.eq_ofNat_of_zero_le h0
    cases htr : tradeB (madeL f n1) (madeB g n2) seq taker tu N most with
    | true =>
      obtain ⟨o, go1, go2, hy⟩ := mostYes_of hn htr
      exact most_yes hW.a1 hW.h1 hn1 hW.a2 hW.h2 hn2 seq taker tu N most full ht htu hm hN HD rfl rfl hn hy
    | false =>
      have hz : (n : Int) = 0 := by
        rcases hn with ⟨-, e⟩ | ⟨e, -⟩
        · exact e
        · rw [htr] at e; cases e
      rw [hz] at hn
      cases hh : Book.has (madeB g n2).l seq with
      | false => exact most_none hW.a1 hW.h1 hn1 hW.a2 hW.h2 hn2 seq taker tu N most full ht htu hm hN HD rfl rfl hn hh
      | true =>
        refine most_not hW.a1 hW.h1 hn1 hW.a2 hW.h2 hn2 seq taker tu N most full ht htu hm hN HD rfl rfl hn hh rfl ?_
        unfold tradeB at htr
        rw [hh, Bool.true_and] at htr
        generalize Book.findD (madeB g n2).l seq = o at *
        by_cases e2 : o.owner = taker
        · exact .inl e2
        · refine .inr ⟨e2, ?_⟩
          rw [decide_eq_true e2, Bool.true_and] at htr
          cases e3 : (madeL f n1).has o.owner with
          | false => exact .inl rfl
          | true =>
            refine .inr ⟨rfl, ?_⟩
            cases e4 : (madeL f n1).has taker with
            | false => exact .inl rfl
            | true =>
              refine .inr ⟨rfl, ?_⟩
              cases e5 : (madeL f n1).has tu with
              | false => exact .inl rfl
              | true =>
                refine .inr ⟨rfl, ?_⟩
                rw [e3, e4, e5] at htr
                by_cases e6 : 0 < N
                · by_cases e7 : 0 < most
                  · rw [decide_eq_true e6, decide_eq_true e7] at htr; cases htr
                  · exact .inr ⟨by omega, by omega⟩
                · exact .inl (by omega)
  · exact most_great (by omega) seq taker tu N most full

theorem ask_open {H : Type} {enc : TypeId × Value → H} {W : World} {b0 : Nat} {v : Value} {d : DataW H} {p : List MemPlace} (hv : Value.okWide Try.prog W .any b0 25 v) (h : DataW.Trod enc Try.prog W 0 (fun _ => true) true 25 v d p) :
    ∃ (seq taker tu : Nat) (n most : Int) (full : Bool), v = .agg (askCells seq taker tu n most full) ∧ taker < 256 ∧ tu < 256 ∧ n ≤ 9223372036854775807 ∧ most ≤ 9223372036854775807 := by
  obtain ⟨cs, rfl, hsz⟩ := okWide_struct Try.underlying25 hv
  have hc : Try.prog.cellsOf 25 = 6 := by kernel_rfl
  rw [hc] at hsz
  obtain ⟨c0, c1, c2, c3, c4, c5, rfl⟩ := array6 hsz
  obtain ⟨fuel, hf⟩ := h
  obtain ⟨xs, m, _, _, hl, hlen, hg⟩ := DataW.trod_struct Try.underlying25 hf
  have k0 : Try.prog.cellsOf 22 = 1 := by kernel_rfl
  have k1 : Try.prog.cellsOf 23 = 1 := by kernel_rfl
  have k3 : Try.prog.cellsOf 2 = 1 := by kernel_rfl
  have k5 : Try.prog.cellsOf 4 = 1 := by kernel_rfl
  obtain ⟨y0, y1, y2, y3, y4, y5, rfl⟩ := list6 hlen
  have f0 := hg 0 _ rfl
  have f1 := hg 1 _ rfl
  have f2 := hg 2 _ rfl
  have f3 := hg 3 _ rfl
  have f4 := hg 4 _ rfl
  have f5 := hg 5 _ rfl
  simp only [List.getElem_toArray, List.getElem_cons_zero, List.getElem_cons_succ, List.getElem?_cons_zero, List.getElem?_cons_succ, Value.cells, k0, k1, k3, k5, List.drop_zero, List.drop_succ_cons, List.take_succ_cons, List.take_zero] at f0 f1 f2 f3 f4 f5
  obtain ⟨a0, e0, -, w0⟩ := DataW.trod_int Try.underlying22 f0
  obtain ⟨a1, e1, -, w1⟩ := DataW.trod_int Try.underlying23 f1
  obtain ⟨a2, e2, -, w2⟩ := DataW.trod_int Try.underlying23 f2
  obtain ⟨a3, e3, -, w3⟩ := DataW.trod_int Try.underlying2 f3
  obtain ⟨a4, e4, -, w4⟩ := DataW.trod_int Try.underlying2 f4
  obtain ⟨a5, e5, -⟩ := DataW.trod_bool Try.underlying4 f5
  simp only [List.cons.injEq, and_true] at e0 e1 e2 e3 e4 e5
  obtain ⟨seq, rfl, -⟩ := u64_wf w0
  obtain ⟨taker, rfl, g1⟩ := u8_wf w1
  obtain ⟨tu, rfl, g2⟩ := u8_wf w2
  have g3 := i64_wf w3
  have g4 := i64_wf w4
  subst e0 e1 e2 e3 e4 e5
  exact ⟨seq, taker, tu, a3, a4, a5, rfl, g1, g2, g3.2, g4.2⟩

theorem fillsMost_lifted (os : Os) (started : os.Started) (H : Type) (enc : TypeId × Value → H) :
    ReturnsInHanded {} Try.checked os 4 .any (Rows.fillsMostSpec.pre6 enc Try.prog Try.f4 Rows.fillsMostRow.domain false) (Rows.fillsMostSpec.post enc Try.prog Try.f4 false true false false) := by
  refine returnsInHanded_of_change (C := Try.checked) own started (by kernel_rfl) Try.func4
    (ChangeSpec.witness6 (enc := enc) (C := Try.checked) false ⟨#[], #[.agg #[.slice none 0 0, .slice none 0 0], .agg #[.int .u64 0, .int .u8 0, .int .u8 0, .int .i64 0, .int .i64 0, .bool false]], []⟩ 8 (by kernel_rfl) (by kernel_rfl) (by kernel_rfl) (by kernel_rfl)) ?_
  intro W base args ds gs before hval0 hW hcnd _
  have hval : ∀ (j : Nat) t v, Try.f4.params[j]? = some t → args[j]? = some v → Value.okWide Try.prog W .any base t v := hval0
  have hW' := hW
  obtain ⟨p, q, hA0, hV, rfl, hfz, hnd⟩ := hW
  have hA : DataW.TrodAll enc Try.prog W 0 (fun _ => true) true Try.f4.params.toList args.toList ds p := hA0
  rw [Try.params4] at hA hval
  obtain ⟨v0, vs0, d0, ds0, p0, q0, hargs, rfl, rfl, h0, r0⟩ := trodAll_cons hA
  obtain ⟨v1, vs1, d1, ds1, p1, q1, rfl, rfl, rfl, h1, r1⟩ := trodAll_cons r0
  obtain ⟨rfl, rfl, rfl⟩ := trodAll_nil r1
  obtain rfl : args = #[v0, v1] := by cases args; simp_all
  obtain ⟨rfl, rfl⟩ := trodVars_none hV
  have k0 := h0
  have k1 := h1
  have lt0 : ∀ x ∈ p0, x.block < W.heap.size := by obtain ⟨m, hm⟩ := k0; exact DataW.trod_lt m _ _ _ hm
  have lt1 : ∀ x ∈ p1, x.block < W.heap.size := by obtain ⟨m, hm⟩ := k1; exact DataW.trod_lt m _ _ _ hm
  obtain ⟨ad1, n1, c1, b1, o1, f, ad2, n2, c2, b2, o2, g, rfl, hWI⟩ := world_open (hval 0 50 v0 rfl rfl) h0
  obtain ⟨seq, taker, tu, n, most, full, rfl, g1, g2, g3, g4⟩ := ask_open (hval 1 25 v1 rfl rfl) h1
  clear hA0 hval0
  refine (fillsMost_walk hWI seq taker tu n most full g1 g2 g3 g4).mono fun e W' ⟨he, bel⟩ => ?_
  subst he
  exact ⟨_, rfl, _, _, _, [], _, [], hW', trodAll_mk1 (shut_bool Try.underlying4 _), (trodAll_cons_mk (Below.trod laidOut (by kernel_rfl) (of_decide_eq_true (by kernel_rfl)) k0 bel lt0) (trodAll_cons_mk (Below.trod laidOut (by kernel_rfl) (of_decide_eq_true (by kernel_rfl)) k1 bel lt1) trodAll_mk0)), rfl, bel.frame _, fun h => by cases h⟩

theorem fillsMost_over : Rows.fillsMostRow.holds Try.pinned (OpenSpec.ofChange Rows.fillsMostSpec) :=
  OpenClaim.holds_of_wide 4 Try.f4 rfl rfl rfl rfl rfl rfl rfl ⟨rfl, rfl, rfl, rfl, rfl⟩ rfl rfl rfl rfl rfl (by kernel_rfl) Try.func4 (by kernel_rfl)
    (of_decide_eq_true (by kernel_rfl)) (by unfold Func.isWrapper; first | (rw [if_pos (by decide +kernel)]; kernel_rfl) | (rw [if_neg (by decide +kernel)]; exact ⟨rfl, rfl⟩))
    (fun os started H enc _ => fillsMost_lifted os started H enc)

/-- the statement -/
theorem fillsMost_holds : Rows.FillsMostSaid := fillsMost_over
#print axioms fillsMost_holds
end Go.Proofs.Ytelcdiceongfdaa
