/-
  The law FillsMost: the ask, the house and the offer in memory; the plain law of the most that may be filled.
  The walk of the law 'FillsMost'.
  The walk of the law 'FillsMost' where there is no such trade.
-/
import Derived.Test.YtelcdiceongfdaaMoP18
import Derived.Deep.CutBlock
import Derived.Deep.DeepCutAuto
section
namespace Go.Proofs.Ytelcdiceongfdaa
open Go.RowKit Go.BigFrame
set_option maxRecDepth 100000

abbrev askCells (seq taker tu : Nat) (n most : Int) (full : Bool) : Array Value := #[.int .u64 seq, .int .u8 taker, .int .u8 tu, .int .i64 n, .int .i64 most, .bool full]
theorem great_no {ad1 ad2 : Option Addr} {n1 c1 n2 c2 : Nat} (h1 : n1 ≤ 120) (h2 : n2 ≤ 40) (w : World) :
    Calls Try.prog 10 #[.agg #[.slice ad1 n1 c1, .slice ad2 n2 c2]] w fun e w' => e = .returned (.bool false) ∧ Below w.heap.size w w' := by
  go_enter Try.func10, Try.ntmps10
  go_wp2
  go_ret
  exact ⟨ret_bool (by simp; omega), (by repeat (first | with_reducible exact Below.refl _ _ | with_reducible assumption | refine Below.drew ?_ | refine Below.setCell ?_ (by first | exact Nat.le_refl _ | omega | (simp; done) | (simp; omega)) _ | refine Below.alloc ?_ (by first | exact Nat.le_refl _ | omega | (simp; done) | (simp; omega)) _ | refine Below.tr ?_ (Nat.le_refl _) (by assumption) | exact Below.refl _ _ | assumption))⟩
theorem great_yes {ad1 ad2 : Option Addr} {n1 c1 n2 c2 : Nat} (h : 120 < n1 ∨ n1 ≤ 120 ∧ 40 < n2) (w : World) :
    Calls Try.prog 10 #[.agg #[.slice ad1 n1 c1, .slice ad2 n2 c2]] w fun e w' => e = .returned (.bool true) ∧ Below w.heap.size w w' := by
  rcases h with h | ⟨h1, h2⟩
  · go_enter Try.func10, Try.ntmps10
    go_wp2
    go_ret
    exact ⟨rfl, (by repeat (first | with_reducible exact Below.refl _ _ | with_reducible assumption | refine Below.drew ?_ | refine Below.setCell ?_ (by first | exact Nat.le_refl _ | omega | (simp; done) | (simp; omega)) _ | refine Below.alloc ?_ (by first | exact Nat.le_refl _ | omega | (simp; done) | (simp; omega)) _ | refine Below.tr ?_ (Nat.le_refl _) (by assumption) | exact Below.refl _ _ | assumption))⟩
  · go_enter Try.func10, Try.ntmps10
    go_wp2
    go_ret
    exact ⟨ret_bool (by simp; omega), (by repeat (first | with_reducible exact Below.refl _ _ | with_reducible assumption | refine Below.drew ?_ | refine Below.setCell ?_ (by first | exact Nat.le_refl _ | omega | (simp; done) | (simp; omega)) _ | refine Below.alloc ?_ (by first | exact Nat.le_refl _ | omega | (simp; done) | (simp; omega)) _ | refine Below.tr ?_ (Nat.le_refl _) (by assumption) | exact Below.refl _ _ | assumption))⟩

/-- the ask, the house, its ledger and its book -/
structure AskMem (w W : World) (b m bb h : Nat) (A : Ledger) (K : Book) (sl : Value) (cs : Array Value) : Prop where
  ask : W.heap[w.heap.size + 1]? = some (.cells cs 25 (0, 0))
  house : W.heap[h]? = some (.cells #[.pointer (some ⟨b, 0, none⟩), .pointer (some ⟨bb, 0, none⟩)] 29 (0, 0))
  led : LedgerAt W b m A
  book : BookAt W bb K sl
  bel : Below w.heap.size w W
  fresh : w.heap.size + 2 ≤ b ∧ w.heap.size + 2 ≤ m ∧ w.heap.size + 2 ≤ bb ∧ ∀ k, sl.ownBlock = some k → w.heap.size + 2 ≤ k
theorem AskMem.below {w W W' : World} {b m bb h : Nat} {A : Ledger} {K : Book} {sl : Value} {cs : Array Value} (H : AskMem w W b m bb h A K sl cs) (hb : Below W.heap.size W W') : AskMem w W' b m bb h A K sl cs :=
  ⟨(hb.block _ (lt_of_block H.ask)).trans H.ask, (hb.block _ (lt_of_block H.house)).trans H.house, H.led.below hb, H.book.below hb, H.bel.trans (hb.mono H.bel.size), H.fresh⟩
theorem AskMem.cells {w W : World} {b m bb h : Nat} {A : Ledger} {K : Book} {sl : Value} {seq taker tu : Nat} {n most : Int} {full : Bool} (H : AskMem w W b m bb h A K sl (askCells seq taker tu n most full)) :
    (W.cell? ⟨w.heap.size + 1, 0, none⟩ = some (.int .u64 seq) ∧ W.cell? ⟨w.heap.size + 1, 1, none⟩ = some (.int .u8 taker) ∧ W.cell? ⟨w.heap.size + 1, 2, none⟩ = some (.int .u8 tu) ∧ W.cell? ⟨w.heap.size + 1, 3, none⟩ = some (.int .i64 n) ∧ W.cell? ⟨w.heap.size + 1, 4, none⟩ = some (.int .i64 most)) ∧
    (W.cell? ⟨h, 0, none⟩ = some (.pointer (some ⟨b, 0, none⟩)) ∧ W.cell? ⟨h, 1, none⟩ = some (.pointer (some ⟨bb, 0, none⟩))) := by
  have q : ∀ j v, (askCells seq taker tu n most full)[j]? = some v → W.cell? ⟨w.heap.size + 1, j, none⟩ = some v := fun j v hv => (cell_of_row _ _ j _ _ _ H.ask).trans hv
  exact ⟨⟨q 0 _ rfl, q 1 _ rfl, q 2 _ rfl, q 3 _ rfl, q 4 _ rfl⟩, houseMem H.house⟩
theorem askMem_new {w w2 : World} {b m bb : Nat} {A : Ledger} {K : Book} {sl : Value} {vs cs : Array Value} {t1 t2 : TypeId} {w1 : World}
    (h1 : Below ((w.alloc (.cells vs t1)).alloc (.cells cs t2)).heap.size ((w.alloc (.cells vs t1)).alloc (.cells cs t2)) w1) (ht : t2 = 25) (h2 : Below w1.heap.size w1 w2) (hL : LedgerAt w2 b m A) (hK : BookAt w2 bb K sl)
    (hf : w1.heap.size ≤ b ∧ w1.heap.size ≤ m ∧ w1.heap.size ≤ bb ∧ ∀ k, sl.ownBlock = some k → w1.heap.size ≤ k) :
    AskMem w (w2.alloc (.cells #[.pointer (some ⟨b, 0, none⟩), .pointer (some ⟨bb, 0, none⟩)] 29)) b m bb w2.heap.size A K sl cs := by
  subst ht
  obtain ⟨k0, k1, kz⟩ := two_blocks h1
  have hb : Below w2.heap.size w2 (w2.alloc (.cells #[.pointer (some ⟨b, 0, none⟩), .pointer (some ⟨bb, 0, none⟩)] 29)) := (Below.refl _ _).alloc (Nat.le_refl _) _
  have hz := h2.size
  have h12 : Below w1.heap.size w1 (w2.alloc (.cells #[.pointer (some ⟨b, 0, none⟩), .pointer (some ⟨bb, 0, none⟩)] 29)) := h2.trans (hb.mono hz)
  have h0 : Below w.heap.size w w1 := (((Below.refl _ _).alloc (Nat.le_refl _) _).alloc (by simp) _).trans (h1.mono (by simp; omega))
  exact ⟨(h12.block _ (by omega)).trans k1, alloc_new w2 _, hL.below hb, hK.below hb, h0.trans (h12.mono (by omega)), by omega, by omega, by omega, fun k hk => by have := hf.2.2.2 k hk; omega⟩

/-- .. and the offer -/
abbrev offerCells (o : Offer) : Array Value := #[.int .u64 o.seq, .int .u8 o.owner, .int .u8 o.sell, .int .u8 o.buy, .int .i64 o.left, .int .i64 o.num, .int .i64 o.den]
structure MostMem (w W : World) (b m bb h g : Nat) (A : Ledger) (K : Book) (sl : Value) (cs : Array Value) (o : Offer) : Prop where
  mem : AskMem w W b m bb h A K sl cs
  off : W.heap[g]? = some (.cells (offerCells o) 57 (0, 0))
theorem MostMem.below {w W W' : World} {b m bb h g : Nat} {A : Ledger} {K : Book} {sl : Value} {cs : Array Value} {o : Offer} (H : MostMem w W b m bb h g A K sl cs o) (hb : Below W.heap.size W W') : MostMem w W' b m bb h g A K sl cs o :=
  ⟨H.mem.below hb, (hb.block _ (lt_of_block H.off)).trans H.off⟩
theorem MostMem.cells {w W : World} {b m bb h g : Nat} {A : Ledger} {K : Book} {sl : Value} {seq taker tu : Nat} {n most : Int} {full : Bool} {o : Offer} (H : MostMem w W b m bb h g A K sl (askCells seq taker tu n most full) o) :
    ((W.cell? ⟨w.heap.size + 1, 0, none⟩ = some (.int .u64 seq) ∧ W.cell? ⟨w.heap.size + 1, 1, none⟩ = some (.int .u8 taker) ∧ W.cell? ⟨w.heap.size + 1, 2, none⟩ = some (.int .u8 tu) ∧ W.cell? ⟨w.heap.size + 1, 3, none⟩ = some (.int .i64 n) ∧ W.cell? ⟨w.heap.size + 1, 4, none⟩ = some (.int .i64 most)) ∧
    (W.cell? ⟨h, 0, none⟩ = some (.pointer (some ⟨b, 0, none⟩)) ∧ W.cell? ⟨h, 1, none⟩ = some (.pointer (some ⟨bb, 0, none⟩)))) ∧
    (W.cell? ⟨g, 1, none⟩ = some (.int .u8 o.owner) ∧ W.cell? ⟨g, 2, none⟩ = some (.int .u8 o.sell) ∧ W.cell? ⟨g, 3, none⟩ = some (.int .u8 o.buy) ∧ W.cell? ⟨g, 4, none⟩ = some (.int .i64 o.left) ∧ W.cell? ⟨g, 5, none⟩ = some (.int .i64 o.num) ∧ W.cell? ⟨g, 6, none⟩ = some (.int .i64 o.den)) := by
  have q : ∀ j v, (offerCells o)[j]? = some v → W.cell? ⟨g, j, none⟩ = some v := fun j v hv => (cell_of_row _ _ j _ _ _ H.off).trans hv
  exact ⟨H.mem.cells, q 1 _ rfl, q 2 _ rfl, q 3 _ rfl, q 4 _ rfl, q 5 _ rfl, q 6 _ rfl⟩
theorem mostMem_new {w w4 : World} {b m bb h : Nat} {A : Ledger} {K : Book} {sl : Value} {cs : Array Value} {o : Offer} (H : AskMem w w4 b m bb h A K sl cs) :
    MostMem w (w4.alloc (.cells (offerCells o) 57)) b m bb h w4.heap.size A K sl cs o :=
  ⟨H.below ((Below.refl _ _).alloc (Nat.le_refl _) _), alloc_new w4 _⟩

/-- what is known where so much may be filled -/
structure MostYes (A : Ledger) (K : Book) (o : Offer) (seq taker tu : Nat) (N most : Int) (n : Nat) (go1 go2 : Int) : Prop where
  has : Book.has K.l seq = true
  find : Book.findD K.l seq = o
  ne : o.owner ≠ taker
  h1 : A.has o.owner = true
  h2 : A.has taker = true
  h3 : A.has tu = true
  hN : 0 < N
  hM : 0 < most
  g1 : GoesIs A o tu go1
  g2 : MostIs A taker o.owner o.buy go2
  least : (n : Int) = leastI N o.left go1 (fitsI (min (min most go2) 1099511627776) o.num.toNat o.den.toNat)
theorem mostYes_of {A : Ledger} {K : Book} {seq taker tu : Nat} {N most : Int} {n : Nat} (h : MayIs A K seq taker tu N most n) (ht : tradeB A K seq taker tu N most = true) : ∃ o go1 go2, MostYes A K o seq taker tu N most n go1 go2 := by
  rcases h with ⟨e, -⟩ | ⟨-, ng, nf, hg, ⟨g, hg2, rfl⟩, hn⟩
  · rw [ht] at e; cases e
  · unfold tradeB at ht
    simp only [Bool.and_eq_true, decide_eq_true_eq] at ht
    obtain ⟨e1, e2, e3, e4, e5, e6, e7⟩ := ht
    exact ⟨_, ng, g, e1, rfl, e2, e3, e4, e5, e6, e7, hg, hg2, hn⟩
theorem MostYes.nle {A : Ledger} {K : Book} {o : Offer} {seq taker tu : Nat} {N most : Int} {n : Nat} {go1 go2 : Int} (h : MostYes A K o seq taker tu N most n go1 go2) : (n : Int) ≤ N ∧ n ≤ 1099511627776 ∧ (n : Int) ≤ fitsI (min (min most go2) 1099511627776) o.num.toNat o.den.toNat := by
  have e := h.least
  have hN := h.hN
  have hf := (fits_bd (n := min (min most go2) 1099511627776) (a := o.num.toNat) (b := o.den.toNat))
  unfold leastI at e
  omega
/-- one more costs more than may be given -/
theorem MostYes.more {A : Ledger} {K : Book} {o : Offer} {seq taker tu : Nat} {N most : Int} {n : Nat} {go1 go2 : Int} (h : MostYes A K o seq taker tu N most n go1 go2) (hmay : o.may = true) (h1 : (n : Int) < N) (h2 : (n : Int) < o.left) (h3 : tu = o.owner ∨ (n : Int) < go1) :
    (min (min most go2) 1099511627776).toNat * o.den.toNat < (n + 1) * o.num.toNat := by
  have hl := Offer.may_left hmay
  have hr := mayR_spec (Offer.may_rate hmay)
  have e := h.least
  have hf := (fits_bd (n := min (min most go2) 1099511627776) (a := o.num.toNat) (b := o.den.toNat))
  have hg : (n : Int) < go1 := by
    rcases h3 with h3 | h3
    · rcases h.g1 with ⟨-, e⟩ | ⟨ne, -⟩
      · omega
      · exact absurd h3 ne
    · exact h3
  refine fits_more (by omega) ?_ (by omega)
  unfold leastI at e
  omega
theorem MostYes.up {A : Ledger} {K : Book} {o : Offer} {seq taker tu : Nat} {N most : Int} {n : Nat} {go1 go2 : Int} (h : MostYes A K o seq taker tu N most n go1 go2) (hmay : o.may = true) (hn : 1 ≤ n) :
    1 ≤ upI n o.num.toNat o.den.toNat ∧ upI n o.num.toNat o.den.toNat ≤ 1099511627776 ∧ (upI n o.num.toNat o.den.toNat : Int) ≤ most ∧ n * o.num.toNat / o.den.toNat ≤ 4611686018427387904 := by
  have hr := mayR_spec (Offer.may_rate hmay)
  have hM := h.hM
  have h1 := up_le (by omega) (by omega) h.nle.2.2
  have h2 := upI_pos (n := n) (a := o.num.toNat) (b := o.den.toNat) (by omega) hn (by omega)
  have h3 : n * o.num.toNat / o.den.toNat ≤ upI n o.num.toNat o.den.toNat := by unfold upI; split <;> omega
  omega
theorem MostYes.do_may {A : Ledger} {K : Book} {o : Offer} {seq taker tu : Nat} {N most : Int} {n : Nat} {go1 go2 : Int} (h : MostYes A K o seq taker tu N most n go1 go2) (hn : 1 ≤ n) : ∃ x : Int, MayIs A K seq taker tu n 1099511627776 x ∧ (n : Int) ≤ x := by
  have e := h.least
  refine ⟨leastI n o.left go1 (fitsI (min (min 1099511627776 go2) 1099511627776) o.num.toNat o.den.toNat), .inr ⟨?_, go1, _, h.find ▸ h.g1, ⟨go2, h.find ▸ h.g2, rfl⟩, by rw [h.find]⟩, ?_⟩
  · unfold tradeB
    rw [h.find, h.has, decide_eq_true h.ne, h.h1, h.h2, h.h3, decide_eq_true (show (0 : Int) < n by omega)]
    rfl
  · have hm := fitsI_mono (show min (min most go2) 1099511627776 ≤ min (min 1099511627776 go2) 1099511627776 by omega) o.num.toNat o.den.toNat
    unfold leastI at *
    omega

end Go.Proofs.Ytelcdiceongfdaa
end
section
namespace Go.Proofs.Ytelcdiceongfdaa
open Go.RowKit Go.BigFrame
set_option maxRecDepth 100000

def DidPost (wc : World) (lo seq taker tu n given : Nat) (e : Ending) (w' : World) : Prop := e = .returned (.tuple #[fillV seq taker tu n given, .int .i64 0]) ∧ ∃ S, Chg S wc w' ∧ ∀ k ∈ S, lo ≤ k
theorem most_do {w W : World} {b m bb h g : Nat} {A : Ledger} {K : Book} {sl : Value} {cs : Array Value} {o : Offer} {seq taker tu : Nat} {N most : Int} {n : Nat} {go1 go2 : Int} (M : MostMem w W b m bb h g A K sl cs o) {kk : Nat} (HF : K.fine kk) (HD : DivHigh) (hmay : o.may = true) (hy : MostYes A K o seq taker tu N most n go1 go2) (ht : taker < 256) (htu : tu < 256) (hn : 1 ≤ n) :
    Calls Try.prog 7 #[.agg #[.pointer (some ⟨b, 0, none⟩), .pointer (some ⟨bb, 0, none⟩)], .int .u64 seq, .int .u8 taker, .int .u8 tu, .int .i64 n] W (DidPost W (w.heap.size + 2) seq taker tu n (upI n o.num.toNat o.den.toNat)) := by
  obtain ⟨x, hx, hnx⟩ := hy.do_may hn
  obtain ⟨u1, u2, -, u4⟩ := hy.up hmay hn
  have hl := HF.len
  have hmr := Offer.may_rate hmay
  have hsp := mayR_spec hmr
  have hM : ∀ W', Below W.heap.size W W' → Calls Try.prog 8 #[.agg #[.pointer (some ⟨b, 0, none⟩), .pointer (some ⟨bb, 0, none⟩)], .int .u64 seq, .int .u8 taker, .int .u8 tu, .int .i64 n, .int .i64 1099511627776] W' (IntPost W' x) := fun W' hW' =>
    may_all (M.mem.led.below hW') (M.mem.book.below hW') HF HD seq taker tu n 1099511627776 ht htu (by decide) hx
  have hup : ∀ W', Calls Try.prog 18 #[.int .i64 n, .agg #[.int .i64 o.num, .int .i64 o.den]] W' (PairPost W' (upI n o.num.toNat o.den.toNat : Nat) 0) := fun W' => by
    have h := ratsUp_ok n o.num.toNat o.den.toNat (fun _ => HD) (by rw [Int.toNat_of_nonneg (by omega), Int.toNat_of_nonneg (by omega)]; exact hmr) (by have := hy.nle; omega) u4 W'
    rw [Int.toNat_of_nonneg (show 0 ≤ o.num by omega), Int.toNat_of_nonneg (show 0 ≤ o.den by omega)] at h
    exact h
  have wf := M.mem.led.wf
  have hSm : ∀ (S : List Nat), (∀ k ∈ S, k = m ∨ k = bb ∨ sl.ownBlock = some k) → ∀ k ∈ S, w.heap.size + 2 ≤ k := fun S hS k hk => by
    rcases hS k hk with rfl | rfl | e
    · exact M.mem.fresh.2.1
    · exact M.mem.fresh.2.2.1
    · exact M.mem.fresh.2.2.2 k e
  by_cases htw : tu = o.owner
  · exact (do_own M.mem.led M.mem.book HF.next1 (by omega) HF.left (disj_of M.mem.led M.mem.book) o seq taker tu n _ x hy.find hmay ⟨hn, hy.nle.2.1⟩ hnx ⟨u1, u2⟩ hup (wf.party _ hy.h2) (wf.party _ hy.h3) hy.ne htw hy.h1 hy.h2 hy.h3 hM).mono
      fun e w' ⟨he, _, S, _, _, hC, hS, _, _⟩ => ⟨he, S, hC, hSm S hS⟩
  · exact (do_ok M.mem.led M.mem.book HF.next1 (by omega) HF.left (disj_of M.mem.led M.mem.book) o seq taker tu n _ x hy.find hmay ⟨hn, hy.nle.2.1⟩ hnx ⟨u1, u2⟩ hup (wf.party _ hy.h2) (wf.party _ hy.h3) hy.ne htw hy.h1 hy.h2 hy.h3 hM).mono
      fun e w' ⟨he, _, _, S, _, _, _, hC, hS, _, _⟩ => ⟨he, S, hC, hSm S hS⟩

set_option maxHeartbeats 8000000 in
theorem most_yes {w : World} {ad1 ad2 : Option Addr} {b1 o1 n1 c1 b2 o2 n2 c2 : Nat} {f : Nat → Act} {g : Nat → Offer} (had1 : 0 < n1 → ad1 = some ⟨b1, o1, none⟩) (h1 : ActsIn w b1 o1 n1 f) (hn1 : n1 ≤ 120)
    (had2 : 0 < n2 → ad2 = some ⟨b2, o2, none⟩) (h2 : OffersIn w b2 o2 n2 g) (hn2 : n2 ≤ 40) (seq taker tu : Nat) (N most : Int) (full : Bool) (ht : taker < 256) (htu : tu < 256) (hm : most ≤ 9223372036854775807) (hN : N ≤ 9223372036854775807) (HD : DivHigh)
    {A : Ledger} (hA1 : madeL f n1 = A) {K : Book} (hK1 : madeB g n2 = K) {n : Nat} (hn : MayIs A K seq taker tu N most n) {o : Offer} {go1 go2 : Int} (hy : MostYes A K o seq taker tu N most n go1 go2) :
    Calls Try.prog 4 #[.agg #[.slice ad1 n1 c1, .slice ad2 n2 c2], .agg (askCells seq taker tu N most full)] w fun e w' => e = .returned (.bool true) ∧ Below w.heap.size w w' := by
  have HAD1 := Lib.hid had1; clear had1
  have HAD2 := Lib.hid had2; clear had2
  have HF0 : K.fine n2 := hK1 ▸ madeB_fine g n2
  have HF := Lib.hid HF0; clear HF0
  have HN := Lib.hid hn; clear hn
  have HY := Lib.hid hy
  have HX1 := Lib.hid h1; have HX2 := Lib.hid h2; clear h1 h2
  have hN0 : 0 < N := hy.hN
  have hM0 : 0 < most := hy.hM
  have hn40 : n ≤ 1099511627776 := hy.nle.2.1
  have hnN : (n : Int) ≤ N := hy.nle.1
  have hmx : max N 0 = N := by omega
  have hmay : o.may = true := HF.out.may _ (hy.find ▸ findD_mem hy.has)
  have HMAY := Lib.hid hmay
  have hends := Offer.may_ends hmay
  have hoe : o.owner < 256 := by omega
  have hot : ((o.owner : Int) == taker) = false := by have := hy.ne; simp; omega
  have hA := Lib.hid hA1
  have hK := Lib.hid hK1
  have HKL := Lib.hid (show K.l.length ≤ 4611686018427387904 by have := HF.out.len; omega)
  have HG1 : Hid (tu ≠ o.owner → MostIs A o.owner tu o.sell go1) := fun hne => by
    rcases hy.g1 with ⟨e, -⟩ | ⟨-, h⟩
    · exact absurd e hne
    · exact h
  clear hA1 hK1 hends hmay hy
  go_enter Try.func4, Try.ntmps4
  go_upto_region 10 with (first | (go_at_call 10; refine (great_no hn1 hn2 _).mono ?_; rintro e w1 ⟨rfl, hb1⟩; obtain ⟨m0, m1, mz⟩ := two_blocks hb1; have HB1 := Lib.hid hb1; have hw1 : w.heap.size < w1.heap.size := (by omega); have d0 := (cell_of_row _ _ 0 _ _ _ m0); have d1 := (cell_of_row _ _ 1 _ _ _ m0); clear m0 m1 hb1) | (go_at_call 11; refine (made10 HAD1.out (HX1.out.below (by repeat (first | with_reducible exact Below.refl _ _ | with_reducible assumption | refine Below.drew ?_ | refine Below.setCell ?_ (by first | exact Nat.le_refl _ | omega | (simp; done) | (simp; omega)) _ | refine Below.alloc ?_ (by first | exact Nat.le_refl _ | omega | (simp; done) | (simp; omega)) _ | refine Below.tr ?_ (Nat.le_refl _) (by assumption) | exact Below.refl _ _ | assumption))) (by omega) HAD2.out (HX2.out.below (by repeat (first | with_reducible exact Below.refl _ _ | with_reducible assumption | refine Below.drew ?_ | refine Below.setCell ?_ (by first | exact Nat.le_refl _ | omega | (simp; done) | (simp; omega)) _ | refine Below.alloc ?_ (by first | exact Nat.le_refl _ | omega | (simp; done) | (simp; omega)) _ | refine Below.tr ?_ (Nat.le_refl _) (by assumption) | exact Below.refl _ _ | assumption))) (by omega)).mono ?_; rintro e w2 ⟨b, m, bb, sl, rfl, hb2, hl2, hk2, hf2⟩; rw [hA.out] at hl2; rw [hK.out] at hk2; have M2 := askMem_new HB1.out rfl hb2 hl2 hk2 hf2; obtain ⟨⟨p0, p1, p2, p3, p4⟩, p5, p6⟩ := M2.cells; have M2 := Lib.hid M2; clear hb2 hl2 hk2 hf2 d0 d1 HB1) | (go_at_call 8; refine (may_all M2.out.led M2.out.book HF.out HD seq taker tu N most ht htu hm HN.out).mono ?_; rintro e w3 ⟨rfl, hb3⟩; have M3 := M2.out.below hb3; obtain ⟨⟨q0, q1, q2, q3, q4⟩, q5, q6⟩ := M3.cells; have M3 := Lib.hid M3; clear p0 p1 p2 p3 p4 p5 p6 hb3 M2) | (go_at_call 12; refine (booksFind M3.out.book HKL.out HF.out.next1 seq).mono ?_; rintro e w4 ⟨rfl, hb4⟩; rw [HY.out.find, HY.out.has]; have M4 := M3.out.below hb4; obtain ⟨⟨p0, p1, p2, p3, p4⟩, p5, p6⟩ := (mostMem_new (o := o) M4).mem.cells; have M4 := Lib.hid M4; clear q0 q1 q2 q3 q4 q5 q6 hb4 M3; simp only [Offer.val]) | (go_at_call 13; refine (has_any (M4.out.led.below (by repeat (first | with_reducible exact Below.refl _ _ | with_reducible assumption | refine Below.drew ?_ | refine Below.setCell ?_ (by first | exact Nat.le_refl _ | omega | (simp; done) | (simp; omega)) _ | refine Below.alloc ?_ (by first | exact Nat.le_refl _ | omega | (simp; done) | (simp; omega)) _ | refine Below.tr ?_ (Nat.le_refl _) (by assumption) | exact Below.refl _ _ | assumption))) _ (by omega)).mono ?_; rintro e w' ⟨rfl, rfl⟩; first | rw [HY.out.h1] | rw [HY.out.h2] | rw [HY.out.h3]))
  have MM := Lib.hid (mostMem_new (o := o) M4.out)
  clear M4 p0 p1 p2 p3 p4 p5 p6
  obtain ⟨c10, hc10⟩ : ∃ c : Bool, c = (decide ((n : Int) < N) && (decide ((n : Int) < o.left) && (decide (tu = o.owner) || decide ((n : Int) < go1)))) := ⟨_, rfl⟩
  have HC := Lib.hid hc10; clear hc10
  go_cut [135] from 16 to 135 (fun s135 wx => s135 = .bool c10 ∧ MostMem w wx b m bb w2.heap.size w4.heap.size A K sl (askCells seq taker tu N most full) o)
  case first =>
    obtain ⟨⟨⟨p0, p1, p2, p3, p4⟩, p5, p6⟩, r1, r2, r3, r4, r5, r6⟩ := MM.out.cells
    by_cases h1 : (n : Int) < N
    · by_cases h2 : (n : Int) < o.left
      · by_cases h3 : tu = o.owner
        · have e1 : ((tu : Int) == o.owner) = true := by simp; omega
          have H3 := Lib.hid h3; clear h3
          go_wp2
          go_meet
          exact ⟨by rw [HC.out, decide_eq_true h1, decide_eq_true h2, decide_eq_true H3.out]; simp, MM.out⟩
        · have e1 : ((tu : Int) == o.owner) = false := by simp; omega
          have H3 := Lib.hid h3; clear h3
          go_wp2_with (go_at_call 14; refine (payMostN MM.out.mem.led o.owner tu o.sell (by omega) (by omega) (HG1.out H3.out)).mono ?_; rintro e w5 ⟨rfl, hb5⟩)
          go_meet
          exact ⟨by rw [HC.out, decide_eq_true h1, decide_eq_true h2, decide_eq_false H3.out]; simp, MM.out.below hb5⟩
      · go_wp2
        go_meet
        exact ⟨by rw [HC.out, decide_eq_false (show ¬ (n : Int) < o.left by omega)]; simp, MM.out⟩
    · go_wp2
      go_meet
      exact ⟨by rw [HC.out, decide_eq_false (show ¬ (n : Int) < N by omega)]; simp, MM.out⟩
  case rest =>
    obtain ⟨rfl, MX⟩ := hcut
    have MX := Lib.hid MX
    clear MM
    go_upto_if 135 with fail
    go_cut [9, 10, 11, 12, 13] from 16 to 182 (fun s9 s10 s11 s12 s13 wx => MostMem w wx b m bb w2.heap.size w4.heap.size A K sl (askCells seq taker tu N most full) o)
    case first =>
      cases hc : c10 with
      | false =>
        go_wp2
        go_meet
        exact MX.out
      | true =>
        have h123 : (n : Int) < N ∧ (n : Int) < o.left ∧ (tu = o.owner ∨ (n : Int) < go1) := by have h := HC.out; rw [hc] at h; simpa using h.symm
        have hmore := HY.out.more HMAY.out h123.1 h123.2.1 h123.2.2
        obtain ⟨go2', hg2', hb0, hb1⟩ := most_ex MX.out.mem.led taker o.owner o.buy ht hoe
        obtain rfl : go2' = go2 := hg2'.unique HY.out.g2
        have HG2 := Lib.hid hg2'; clear hg2' h123
        obtain ⟨G, hG⟩ : ∃ G : Nat, min (min most go2') 1099511627776 = G := Int.eq_ofNat_of_zero_le (by omega)
        rw [hG, Int.toNat_natCast] at hmore
        have hG40 : G ≤ 1099511627776 := by omega
        have HGE := Lib.hid hG; clear hG
        have hsp := mayR_spec (Offer.may_rate HMAY.out)
        obtain ⟨u, hu⟩ := Int.eq_ofNat_of_zero_le (show 0 ≤ o.num by omega)
        obtain ⟨d, hd⟩ := Int.eq_ofNat_of_zero_le (show 0 ≤ o.den by omega)
        have hu40 : u ≤ 1099511627776 := by omega
        have hd40 : d ≤ 1099511627776 := by omega
        rw [hu, hd, Int.toNat_natCast, Int.toNat_natCast] at hmore
        obtain ⟨⟨⟨p0, p1, p2, p3, p4⟩, p5, p6⟩, r1, r2, r3, r4, r5, r6⟩ := MX.out.cells
        rw [hu] at r5; rw [hd] at r6
        have HU := Lib.hid hu; have HDD := Lib.hid hd; clear hu hd hsp
        have HMORE := Lib.hid hmore; clear hmore
        have l0 := lt_of_cell p0; have l1 := lt_of_cell p5; have l2 := lt_of_cell r1
        obtain ⟨P, hP⟩ : ∃ P, P = (n + 1) * u := ⟨_, rfl⟩
        obtain ⟨Q, hQ⟩ : ∃ Q, Q = G * d := ⟨_, rfl⟩
        have HQP : Q < P := by rw [hP, hQ]; exact HMORE.out
        have hm1 : Hid (∀ (X : Int) (W' : World), X = (n : Int) + 1 → Calls Try.prog 15 #[.int .u64 X, .int .u64 u] W' fun e w' => e = .returned (.tuple #[.int .u64 ((P / 18446744073709551616 : Nat) : Int), .int .u64 ((P % 18446744073709551616 : Nat) : Int)]) ∧ W' = w') := fun X W' hX => by
          subst hX hP
          exact (Try.bits_Mul64 (n + 1) u (by omega) (by omega) W').mono fun e w' ⟨he, hw⟩ => ⟨he, hw.symm⟩
        have hm2 : Hid (∀ (X : Int) (W' : World), X = (G : Int) → Calls Try.prog 15 #[.int .u64 X, .int .u64 d] W' fun e w' => e = .returned (.tuple #[.int .u64 ((Q / 18446744073709551616 : Nat) : Int), .int .u64 ((Q % 18446744073709551616 : Nat) : Int)]) ∧ W' = w') := fun X W' hX => by
          subst hX hQ
          exact (Try.bits_Mul64 G d (by omega) (by omega) W').mono fun e w' ⟨he, hw⟩ => ⟨he, hw.symm⟩
        have hca : Q / 18446744073709551616 ≤ P / 18446744073709551616 := Nat.div_le_div_right (Nat.le_of_lt HQP)
        have hab : P / 18446744073709551616 = Q / 18446744073709551616 → Q % 18446744073709551616 < P % 18446744073709551616 := by omega
        have hP64 : P % 18446744073709551616 < 18446744073709551616 := Nat.mod_lt _ (by decide)
        have hQ64 : Q % 18446744073709551616 < 18446744073709551616 := Nat.mod_lt _ (by decide)
        clear hP hQ HQP
        generalize P / 18446744073709551616 = xa at *
        generalize P % 18446744073709551616 = xb at *
        generalize Q / 18446744073709551616 = xc at *
        generalize Q % 18446744073709551616 = xd at *
        clear hP64 hQ64
        go_wp2
        refine wp_region_later (by kernel_rfl) (by kernel_rfl) ?_; (repeat (go_big_quiet_step ((go_at_call 14; exact Calls.later (payMostN (MX.out.mem.led.below (Below.tr (by repeat (first | with_reducible exact Below.refl _ _ | with_reducible assumption | refine Below.drew ?_ | refine Below.setCell ?_ (by first | exact Nat.le_refl _ | omega | (simp; done) | (simp; omega)) _ | refine Below.alloc ?_ (by first | exact Nat.le_refl _ | omega | (simp; done) | (simp; omega)) _ | refine Below.tr ?_ (Nat.le_refl _) (by assumption) | exact Below.refl _ _ | assumption)) (Nat.le_refl _) (Later.b _))) _ _ _ (by omega) (by omega) HG2.out))))); refine wpQuiet_nil ?_; rintro _ ⟨W, rfl⟩
        have MW := MX.out.below W.b
        obtain ⟨⟨⟨p0, p1, p2, p3, p4⟩, p5, p6⟩, r1, r2, r3, r4, r5, r6⟩ := MW.cells
        rw [HU.out] at r5; rw [HDD.out] at r6
        have MW := Lib.hid MW
        by_cases hac : xa = xc
        · have e1 : ((xa : Int) == xc) = true := by simp; omega
          have e2 := hab hac
          have HAC := Lib.hid hac; clear hac hab
          go_wp2_with (first | (go_at_call 15; (with_reducible refine (hm1.out _ _ (by omega)).mono ?_); rintro e w' ⟨rfl, rfl⟩) | (go_at_call 15; (with_reducible refine (hm2.out _ _ (by have := HGE.out; omega)).mono ?_); rintro e w' ⟨rfl, rfl⟩))
          all_goals
            go_meet
            exact MW.out
        · have e1 : ((xa : Int) == xc) = false := by simp; omega
          have e2 : xc < xa := by omega
          clear hac hab hca
          go_wp2_with (first | (go_at_call 15; (with_reducible refine (hm1.out _ _ (by omega)).mono ?_); rintro e w' ⟨rfl, rfl⟩) | (go_at_call 15; (with_reducible refine (hm2.out _ _ (by have := HGE.out; omega)).mono ?_); rintro e w' ⟨rfl, rfl⟩))
          all_goals
            go_meet
            exact MW.out
    case rest =>
      have MY := Lib.hid hcut
      clear hcut MX
      obtain ⟨⟨⟨p0, p1, p2, p3, p4⟩, p5, p6⟩, -⟩ := MY.out.cells
      by_cases hz : n = 0
      · have e0 : ((n : Int) == 0) = true := by simp; omega
        have HZ := Lib.hid hz; clear hz
        go_wp2_with (go_at_call 9; refine (lives_true _).mono ?_; rintro e w5 ⟨rfl, hb5⟩)
        go_ret
        exact ⟨rfl, MY.out.mem.bel.trans (hb5.mono MY.out.mem.bel.size)⟩
      · have e0 : ((n : Int) == 0) = false := by simp; omega
        have hpos : 1 ≤ n := by omega
        clear hz
        have HDO := Lib.hid (most_do MY.out HF.out HD HMAY.out HY.out ht htu hpos)
        obtain ⟨hgm, hx⟩ : (upI n o.num.toNat o.den.toNat : Int) ≤ most ∧ True := ⟨(HY.out.up HMAY.out hpos).2.2.1, trivial⟩
        generalize upI n o.num.toNat o.den.toNat = G at *
        clear hx
        have l4 := lt_of_cell p4
        go_wp2_with (first | (go_at_call 7; refine HDO.out.mono ?_; rintro e w6 ⟨rfl, S, hC, hS⟩; have hc4 := (hC.cell l4 (fun hk => absurd (hS _ hk) (by omega))).trans p4; have l6 := lt_of_cell hc4; have HCC := Lib.hid (below_of_chg MY.out.mem.bel hC (fun k hk => by have := hS k hk; omega)); clear hC hS p0 p1 p2 p3 p4 p5 p6) | (go_at_call 9; refine (lives_true _).mono ?_; rintro e w7 ⟨rfl, hb7⟩))
        go_ret
        exact ⟨rfl, (HCC.out.alloc HCC.out.size _).trans (hb7.mono (by have := HCC.out.size; simp; omega))⟩
end Go.Proofs.Ytelcdiceongfdaa
end
section
namespace Go.Proofs.Ytelcdiceongfdaa
open Go.RowKit Go.BigFrame
set_option maxRecDepth 100000

set_option maxHeartbeats 40000000 in
theorem most_none {w : World} {ad1 ad2 : Option Addr} {b1 o1 n1 c1 b2 o2 n2 c2 : Nat} {f : Nat → Act} {g : Nat → Offer} (had1 : 0 < n1 → ad1 = some ⟨b1, o1, none⟩) (h1 : ActsIn w b1 o1 n1 f) (hn1 : n1 ≤ 120)
    (had2 : 0 < n2 → ad2 = some ⟨b2, o2, none⟩) (h2 : OffersIn w b2 o2 n2 g) (hn2 : n2 ≤ 40) (seq taker tu : Nat) (N most : Int) (full : Bool) (ht : taker < 256) (htu : tu < 256) (hm : most ≤ 9223372036854775807) (hN : N ≤ 9223372036854775807) (HD : DivHigh)
    {A : Ledger} (hA1 : madeL f n1 = A) {K : Book} (hK1 : madeB g n2 = K) (hn : MayIs A K seq taker tu N most 0) (hh : Book.has K.l seq = false) :
    Calls Try.prog 4 #[.agg #[.slice ad1 n1 c1, .slice ad2 n2 c2], .agg (askCells seq taker tu N most full)] w fun e w' => e = .returned (.bool true) ∧ Below w.heap.size w w' := by
  have HAD1 := Lib.hid had1; clear had1
  have HAD2 := Lib.hid had2; clear had2
  have HF0 : K.fine n2 := hK1 ▸ madeB_fine g n2
  have HF := Lib.hid HF0; clear HF0
  have HN := Lib.hid hn; clear hn
  have HX1 := Lib.hid h1; have HX2 := Lib.hid h2; clear h1 h2
  have hA := Lib.hid hA1
  have hK := Lib.hid hK1
  have HKL := Lib.hid (show K.l.length ≤ 4611686018427387904 by have := HF.out.len; omega)
  have hmx : ¬ (max N 0 < 0) := by omega
  clear hA1 hK1
  have HH := Lib.hid (And.intro hh (findD_none hh)); clear hh
  go_enter Try.func4, Try.ntmps4
  go_wp2_with (first | (go_at_call 10; refine (great_no hn1 hn2 _).mono ?_; rintro e w1 ⟨rfl, hb1⟩; obtain ⟨m0, m1, mz⟩ := two_blocks hb1; have HB1 := Lib.hid hb1; have hw1 : w.heap.size < w1.heap.size := (by omega); have d0 := (cell_of_row _ _ 0 _ _ _ m0); have d1 := (cell_of_row _ _ 1 _ _ _ m0); clear m0 m1 hb1) | (go_at_call 11; refine (made10 HAD1.out (HX1.out.below (by repeat (first | with_reducible exact Below.refl _ _ | with_reducible assumption | refine Below.drew ?_ | refine Below.setCell ?_ (by first | exact Nat.le_refl _ | omega | (simp; done) | (simp; omega)) _ | refine Below.alloc ?_ (by first | exact Nat.le_refl _ | omega | (simp; done) | (simp; omega)) _ | refine Below.tr ?_ (Nat.le_refl _) (by assumption) | exact Below.refl _ _ | assumption))) (by omega) HAD2.out (HX2.out.below (by repeat (first | with_reducible exact Below.refl _ _ | with_reducible assumption | refine Below.drew ?_ | refine Below.setCell ?_ (by first | exact Nat.le_refl _ | omega | (simp; done) | (simp; omega)) _ | refine Below.alloc ?_ (by first | exact Nat.le_refl _ | omega | (simp; done) | (simp; omega)) _ | refine Below.tr ?_ (Nat.le_refl _) (by assumption) | exact Below.refl _ _ | assumption))) (by omega)).mono ?_; rintro e w2 ⟨b, m, bb, sl, rfl, hb2, hl2, hk2, hf2⟩; rw [hA.out] at hl2; rw [hK.out] at hk2; have M2 := askMem_new HB1.out rfl hb2 hl2 hk2 hf2; obtain ⟨⟨p0, p1, p2, p3, p4⟩, p5, p6⟩ := M2.cells; have M2 := Lib.hid M2; clear hb2 hl2 hk2 hf2 d0 d1 HB1) | (go_at_call 8; refine (may_all M2.out.led M2.out.book HF.out HD seq taker tu N most ht htu hm HN.out).mono ?_; rintro e w3 ⟨rfl, hb3⟩; have M3 := M2.out.below hb3; obtain ⟨⟨q0, q1, q2, q3, q4⟩, q5, q6⟩ := M3.cells; have M3 := Lib.hid M3; clear p0 p1 p2 p3 p4 p5 p6 hb3 M2) | (go_at_call 12; refine (booksFind M3.out.book HKL.out HF.out.next1 seq).mono ?_; rintro e w4 ⟨rfl, hb4⟩; rw [HH.out.2, HH.out.1]; have M4 := M3.out.below hb4; obtain ⟨⟨p0, p1, p2, p3, p4⟩, p5, p6⟩ := (M4.below ((Below.refl _ _).alloc (Nat.le_refl _) (.cells #[.int .u64 0, .int .u8 0, .int .u8 0, .int .u8 0, .int .i64 0, .int .i64 0, .int .i64 0] 57))).cells; have M4 := Lib.hid M4; clear q0 q1 q2 q3 q4 q5 q6 hb4 M3; simp only [Offer.val, Offer.zero]) | (go_at_call 9; refine (lives_true _).mono ?_; rintro e w7 ⟨rfl, hb7⟩; have hbz := Lib.hid ((M4.out.bel.alloc M4.out.bel.size (.cells #[.int .u64 0, .int .u8 0, .int .u8 0, .int .u8 0, .int .i64 0, .int .i64 0, .int .i64 0] 57)).trans (hb7.mono (M4.out.bel.alloc M4.out.bel.size (.cells #[.int .u64 0, .int .u8 0, .int .u8 0, .int .u8 0, .int .i64 0, .int .i64 0, .int .i64 0] 57)).size))))
  all_goals
    go_ret
    exact ⟨rfl, hbz.out⟩

set_option maxHeartbeats 40000000 in
theorem most_not {w : World} {ad1 ad2 : Option Addr} {b1 o1 n1 c1 b2 o2 n2 c2 : Nat} {f : Nat → Act} {g : Nat → Offer} (had1 : 0 < n1 → ad1 = some ⟨b1, o1, none⟩) (h1 : ActsIn w b1 o1 n1 f) (hn1 : n1 ≤ 120)
    (had2 : 0 < n2 → ad2 = some ⟨b2, o2, none⟩) (h2 : OffersIn w b2 o2 n2 g) (hn2 : n2 ≤ 40) (seq taker tu : Nat) (N most : Int) (full : Bool) (ht : taker < 256) (htu : tu < 256) (hm : most ≤ 9223372036854775807) (hN : N ≤ 9223372036854775807) (HD : DivHigh)
    {A : Ledger} (hA1 : madeL f n1 = A) {K : Book} (hK1 : madeB g n2 = K) (hn : MayIs A K seq taker tu N most 0) {o : Offer} (hh : Book.has K.l seq = true) (ho : Book.findD K.l seq = o) (hno : o.owner = taker ∨ (o.owner ≠ taker ∧ (A.has o.owner = false ∨ (A.has o.owner = true ∧ (A.has taker = false ∨ (A.has taker = true ∧ (A.has tu = false ∨ (A.has tu = true ∧ (N < 1 ∨ (1 ≤ N ∧ most < 1)))))))))) :
    Calls Try.prog 4 #[.agg #[.slice ad1 n1 c1, .slice ad2 n2 c2], .agg (askCells seq taker tu N most full)] w fun e w' => e = .returned (.bool true) ∧ Below w.heap.size w w' := by
  have HAD1 := Lib.hid had1; clear had1
  have HAD2 := Lib.hid had2; clear had2
  have HF0 : K.fine n2 := hK1 ▸ madeB_fine g n2
  have HF := Lib.hid HF0; clear HF0
  have HN := Lib.hid hn; clear hn
  have HX1 := Lib.hid h1; have HX2 := Lib.hid h2; clear h1 h2
  have hA := Lib.hid hA1
  have hK := Lib.hid hK1
  have HKL := Lib.hid (show K.l.length ≤ 4611686018427387904 by have := HF.out.len; omega)
  have hmx : ¬ (max N 0 < 0) := by omega
  clear hA1 hK1
  have hoe : o.owner < 256 := by have := (Offer.may_ends (HF.out.may _ (ho ▸ findD_mem hh))).1; omega
  have HH := Lib.hid (And.intro hh ho); clear hh ho
  have HNO := Lib.hid hno; clear hno
  go_enter Try.func4, Try.ntmps4
  go_upto_region 8 with (first | (go_at_call 10; refine (great_no hn1 hn2 _).mono ?_; rintro e w1 ⟨rfl, hb1⟩; obtain ⟨m0, m1, mz⟩ := two_blocks hb1; have HB1 := Lib.hid hb1; have hw1 : w.heap.size < w1.heap.size := (by omega); have d0 := (cell_of_row _ _ 0 _ _ _ m0); have d1 := (cell_of_row _ _ 1 _ _ _ m0); clear m0 m1 hb1) | (go_at_call 11; refine (made10 HAD1.out (HX1.out.below (by repeat (first | with_reducible exact Below.refl _ _ | with_reducible assumption | refine Below.drew ?_ | refine Below.setCell ?_ (by first | exact Nat.le_refl _ | omega | (simp; done) | (simp; omega)) _ | refine Below.alloc ?_ (by first | exact Nat.le_refl _ | omega | (simp; done) | (simp; omega)) _ | refine Below.tr ?_ (Nat.le_refl _) (by assumption) | exact Below.refl _ _ | assumption))) (by omega) HAD2.out (HX2.out.below (by repeat (first | with_reducible exact Below.refl _ _ | with_reducible assumption | refine Below.drew ?_ | refine Below.setCell ?_ (by first | exact Nat.le_refl _ | omega | (simp; done) | (simp; omega)) _ | refine Below.alloc ?_ (by first | exact Nat.le_refl _ | omega | (simp; done) | (simp; omega)) _ | refine Below.tr ?_ (Nat.le_refl _) (by assumption) | exact Below.refl _ _ | assumption))) (by omega)).mono ?_; rintro e w2 ⟨b, m, bb, sl, rfl, hb2, hl2, hk2, hf2⟩; rw [hA.out] at hl2; rw [hK.out] at hk2; have M2 := askMem_new HB1.out rfl hb2 hl2 hk2 hf2; obtain ⟨⟨p0, p1, p2, p3, p4⟩, p5, p6⟩ := M2.cells; have M2 := Lib.hid M2; clear hb2 hl2 hk2 hf2 d0 d1 HB1) | (go_at_call 8; refine (may_all M2.out.led M2.out.book HF.out HD seq taker tu N most ht htu hm HN.out).mono ?_; rintro e w3 ⟨rfl, hb3⟩; have M3 := M2.out.below hb3; obtain ⟨⟨q0, q1, q2, q3, q4⟩, q5, q6⟩ := M3.cells; have M3 := Lib.hid M3; clear p0 p1 p2 p3 p4 p5 p6 hb3 M2) | (go_at_call 12; refine (booksFind M3.out.book HKL.out HF.out.next1 seq).mono ?_; rintro e w4 ⟨rfl, hb4⟩; rw [HH.out.2, HH.out.1]; have M4 := M3.out.below hb4; obtain ⟨⟨p0, p1, p2, p3, p4⟩, p5, p6⟩ := (mostMem_new (o := o) M4).mem.cells; have M4 := Lib.hid M4; clear q0 q1 q2 q3 q4 q5 q6 hb4 M3; simp only [Offer.val]))
  all_goals
    have MM := Lib.hid (mostMem_new (o := o) M4.out)
    clear M4 p0 p1 p2 p3 p4 p5 p6
    go_cut [100] from 16 to 100 (fun s100 wx => s100 = .bool true ∧ AskMem w wx b m bb w2.heap.size A K sl (askCells seq taker tu N most full))
    case first =>
      obtain ⟨⟨⟨p0, p1, p2, p3, p4⟩, p5, p6⟩, r1, r2, r3, r4, r5, r6⟩ := MM.out.cells
      rcases HNO.out with h1 | ⟨h1, h2 | ⟨h2, h3 | ⟨h3, h4 | ⟨h4, h5 | ⟨h5, h6⟩⟩⟩⟩⟩
      · have e1 : ((o.owner : Int) == taker) = true := by simp; omega
        have H1 := Lib.hid h1; clear h1
        go_wp2
        go_meet
        exact ⟨rfl, MM.out.mem⟩
      · have e1 : ((o.owner : Int) == taker) = false := by simp; omega
        have H2 := Lib.hid h2; clear h2
        clear h1
        go_wp2_with (go_at_call 13; refine (has_any MM.out.mem.led _ (by omega)).mono ?_; rintro e w' ⟨rfl, rfl⟩; first | rw [H2.out])
        go_meet
        exact ⟨by first | rfl | simp_all, MM.out.mem⟩
      · have e1 : ((o.owner : Int) == taker) = false := by simp; omega
        have H2 := Lib.hid h2; clear h2
        have H3 := Lib.hid h3; clear h3
        clear h1
        go_wp2_with (go_at_call 13; refine (has_any MM.out.mem.led _ (by omega)).mono ?_; rintro e w' ⟨rfl, rfl⟩; first | rw [H2.out] | rw [H3.out])
        go_meet
        exact ⟨by first | rfl | simp_all, MM.out.mem⟩
      · have e1 : ((o.owner : Int) == taker) = false := by simp; omega
        have H2 := Lib.hid h2; clear h2
        have H3 := Lib.hid h3; clear h3
        have H4 := Lib.hid h4; clear h4
        clear h1
        go_wp2_with (go_at_call 13; refine (has_any MM.out.mem.led _ (by omega)).mono ?_; rintro e w' ⟨rfl, rfl⟩; first | rw [H2.out] | rw [H3.out] | rw [H4.out])
        go_meet
        exact ⟨by first | rfl | simp_all, MM.out.mem⟩
      · have e1 : ((o.owner : Int) == taker) = false := by simp; omega
        have H2 := Lib.hid h2; clear h2
        have H3 := Lib.hid h3; clear h3
        have H4 := Lib.hid h4; clear h4
        clear h1
        go_wp2_with (go_at_call 13; refine (has_any MM.out.mem.led _ (by omega)).mono ?_; rintro e w' ⟨rfl, rfl⟩; first | rw [H2.out] | rw [H3.out] | rw [H4.out])
        go_meet
        exact ⟨by first | rfl | simp_all, MM.out.mem⟩
      · first
        | (exfalso; omega)
        | (have e1 : ((o.owner : Int) == taker) = false := by simp; omega
           have H2 := Lib.hid h2; clear h2
           have H3 := Lib.hid h3; clear h3
           have H4 := Lib.hid h4; clear h4
           clear h1
           go_wp2_with (go_at_call 13; refine (has_any MM.out.mem.led _ (by omega)).mono ?_; rintro e w' ⟨rfl, rfl⟩; first | rw [H2.out] | rw [H3.out] | rw [H4.out])
           go_meet
           exact ⟨by first | rfl | simp_all, MM.out.mem⟩)
    case rest =>
      obtain ⟨rfl, MX⟩ := hcut
      go_wp2_with (go_at_call 9; refine (lives_true _).mono ?_; rintro e w7 ⟨rfl, hb7⟩)
      go_ret
      exact ⟨rfl, MX.bel.trans (hb7.mono MX.bel.size)⟩

end Go.Proofs.Ytelcdiceongfdaa
end
