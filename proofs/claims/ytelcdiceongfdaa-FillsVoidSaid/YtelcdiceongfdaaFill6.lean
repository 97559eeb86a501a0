/- Walks of the layer fills, sixth part: a fill that is done. -/
import Derived.Test.YtelcdiceongfdaaFill5
import Derived.Test.YtelcdiceongfdaaBook5
namespace Go.Proofs.Ytelcdiceongfdaa
open Go.RowKit Go.BigFrame
set_option maxRecDepth 100000

/-- what a payment leaves of a ledger, whether it goes or not -/
def PaidOr (A : Ledger) (f t c : Nat) (n : Int) (A' : Ledger) : Prop :=
  ∃ k r, routeF f t n k ⟨rooms A c, 0, []⟩ = some r ∧ ((r.got < n ∧ A' = A) ∨ (n ≤ r.got ∧ A' = pushAll A c r.ps))
def PaidPost (w : World) (b m : Nat) (A : Ledger) (f t c : Nat) (n : Int) (e : Ending) (w' : World) : Prop :=
  ∃ A' v, PaidOr A f t c n A' ∧ e = .returned v ∧ Chg [m] w w' ∧ LedgerAt w' b m A'
theorem pay_or {w : World} {b m : Nat} {A : Ledger} (h : LedgerAt w b m A) (f t c : Nat) (n : Int) (hf : 1 ≤ f ∧ f ≤ 16) (ht : 1 ≤ t ∧ t ≤ 16) (hft : f ≠ t) (hc : 1 ≤ c ∧ c ≤ 8) (hn : 1 ≤ n ∧ n ≤ 1099511627776) (h1 : A.has f = true) (h2 : A.has t = true) :
    Calls Try.prog 19 #[.pointer (some ⟨b, 0, none⟩), .int .u8 f, .int .u8 t, .int .u8 c, .int .i64 n] w (PaidPost w b m A f t c n) :=
  (pay_ok h f t c n hf ht hft hc hn h1 h2).mono fun e w' ⟨k, r, hr, hx⟩ => by
    rcases hx with ⟨hlt, rfl, hb⟩ | ⟨hle, rfl, hC, hL⟩
    · exact ⟨A, _, ⟨k, r, hr, .inl ⟨hlt, rfl⟩⟩, rfl, Chg.of_below hb, h.below hb⟩
    · exact ⟨_, _, ⟨k, r, hr, .inr ⟨hle, rfl⟩⟩, rfl, hC, hL⟩
theorem pushAll_has (c : Nat) : ∀ (ps : List Flow) (A : Ledger), (pushAll A c ps).has = A.has
  | [], A => rfl
  | x :: ps, A => by
    have : ((A.push x.f x.t c x.n).2).has = A.has := by unfold Ledger.push Ledger.shift; (repeat' split) <;> rfl
    exact (pushAll_has c ps _).trans this
theorem PaidOr.has {A A' : Ledger} {f t c : Nat} {n : Int} (h : PaidOr A f t c n A') : A'.has = A.has := by
  obtain ⟨k, r, _, ⟨_, rfl⟩ | ⟨_, rfl⟩⟩ := h
  · rfl
  · exact pushAll_has _ _ _
/-- the house's block, the result's and the offer's -/
structure DoMem (w W : World) (b bb g : Nat) (o : Offer) : Prop where
  hH : W.heap[w.heap.size]? = some (.cells #[.pointer (some ⟨b, 0, none⟩), .pointer (some ⟨bb, 0, none⟩)] 29 (0, 0))
  hF : W.heap[w.heap.size + 1]? = some (.cells #[.int .u64 0, .int .u8 0, .int .u8 0, .int .i64 0, .int .i64 0] 41 (0, 0))
  hO : W.heap[g]? = some (.cells #[.int .u64 o.seq, .int .u8 o.owner, .int .u8 o.sell, .int .u8 o.buy, .int .i64 o.left, .int .i64 o.num, .int .i64 o.den] 57 (0, 0))
theorem DoMem.chg {w W W' : World} {b bb g : Nat} {o : Offer} {S : List Nat} (h : DoMem w W b bb g o) (hc : Chg S W W') (hS : ∀ k ∈ S, k < w.heap.size) (hg : w.heap.size ≤ g) : DoMem w W' b bb g o :=
  ⟨(hc.block _ (lt_of_block h.hH) (fun hm => Nat.lt_irrefl _ (hS _ hm))).trans h.hH, (hc.block _ (lt_of_block h.hF) (fun hm => by have := hS _ hm; omega)).trans h.hF, (hc.block _ (lt_of_block h.hO) (fun hm => by have := hS _ hm; omega)).trans h.hO⟩
theorem DoMem.cells {w W : World} {b bb g : Nat} {o : Offer} (h : DoMem w W b bb g o) :
    (W.cell? ⟨w.heap.size, 0, none⟩ = some (.pointer (some ⟨b, 0, none⟩)) ∧ W.cell? ⟨w.heap.size, 1, none⟩ = some (.pointer (some ⟨bb, 0, none⟩))) ∧
    (W.cell? ⟨g, 1, none⟩ = some (.int .u8 o.owner) ∧ W.cell? ⟨g, 2, none⟩ = some (.int .u8 o.sell) ∧ W.cell? ⟨g, 3, none⟩ = some (.int .u8 o.buy) ∧ W.cell? ⟨g, 5, none⟩ = some (.int .i64 o.num) ∧ W.cell? ⟨g, 6, none⟩ = some (.int .i64 o.den)) := by
  have q : ∀ j v, (#[.int .u64 o.seq, .int .u8 o.owner, .int .u8 o.sell, .int .u8 o.buy, .int .i64 o.left, .int .i64 o.num, .int .i64 o.den] : Array Value)[j]? = some v → W.cell? ⟨g, j, none⟩ = some v := fun j v hv => (cell_of_row _ _ j _ _ _ h.hO).trans hv
  exact ⟨houseMem h.hH, q 1 _ rfl, q 2 _ rfl, q 3 _ rfl, q 5 _ rfl, q 6 _ rfl⟩
theorem doMem_of {w w4 w6 : World} {b bb : Nat} {o : Offer} (h7 : Below ((w.alloc (.cells #[.pointer (some ⟨b, 0, none⟩), .pointer (some ⟨bb, 0, none⟩)] 29)).alloc (.cells #[.int .u64 0, .int .u8 0, .int .u8 0, .int .i64 0, .int .i64 0] 41)).heap.size ((w.alloc (.cells #[.pointer (some ⟨b, 0, none⟩), .pointer (some ⟨bb, 0, none⟩)] 29)).alloc (.cells #[.int .u64 0, .int .u8 0, .int .u8 0, .int .i64 0, .int .i64 0] 41)) w4) (h8 : Below (w4.alloc (.cells #[.int .u64 o.seq, .int .u8 o.owner, .int .u8 o.sell, .int .u8 o.buy, .int .i64 o.left, .int .i64 o.num, .int .i64 o.den] 57)).heap.size (w4.alloc (.cells #[.int .u64 o.seq, .int .u8 o.owner, .int .u8 o.sell, .int .u8 o.buy, .int .i64 o.left, .int .i64 o.num, .int .i64 o.den] 57)) w6) :
    DoMem w w6 b bb w4.heap.size o ∧ Below w.heap.size w w6 ∧ w.heap.size + 2 ≤ w4.heap.size ∧ w4.heap.size < w6.heap.size := by
  obtain ⟨k0, k1, kz⟩ := two_blocks h7
  have hs : (w4.alloc (.cells #[.int .u64 o.seq, .int .u8 o.owner, .int .u8 o.sell, .int .u8 o.buy, .int .i64 o.left, .int .i64 o.num, .int .i64 o.den] 57)).heap.size = w4.heap.size + 1 := by simp
  have h46 : Below w4.heap.size w4 w6 := ((Below.refl w4.heap.size w4).alloc (Nat.le_refl _) _).trans (h8.mono (by omega))
  have hz := h8.size
  refine ⟨⟨(h46.block _ (by omega)).trans k0, (h46.block _ (by omega)).trans k1, (h8.block _ (by omega)).trans (alloc_new w4 _)⟩, ?_, kz, by omega⟩
  have h04 : Below w.heap.size w w4 := (((Below.refl w.heap.size w).alloc (Nat.le_refl _) _).alloc (by simp) _).trans (h7.mono (by simp; omega))
  exact h04.trans (h46.mono (by omega))
theorem BookAt.own_lt {w : World} {b : Nat} {B : Book} {sl : Value} (h : BookAt w b B sl) {k : Nat} (hk : sl.ownBlock = some k) : k < w.heap.size := by
  rcases h.cases with ⟨rfl, _⟩ | ⟨g, cap, rfl, hg, _⟩
  · cases hk
  · simp only [Value.ownBlock, Option.some.injEq] at hk; omega
theorem BookAt.own_ne {w : World} {b : Nat} {B : Book} {sl : Value} (h : BookAt w b B sl) {g : Nat} {C : Array Value} (hC : w.heap[g]? = some (.cells C 41 (0, 0))) : ∀ k, sl.ownBlock = some k → k ≠ g := by
  rintro k hk rfl
  rcases h.row.2 with ⟨e, _⟩ | ⟨g', cap, cur, e, hb, hg, _⟩
  · rw [e] at hk; cases hk
  · rw [e] at hk
    simp only [Value.ownBlock, Option.some.injEq] at hk
    subst hk
    rw [hC] at hg
    simp at hg
theorem Chg.set {S : List Nat} {w W : World} (h : Chg S w W) {b : Nat} (hb : b ∈ S ∨ w.heap.size ≤ b) (o : Nat) (v : Value) : Chg S w (W.setCell ⟨b, o, none⟩ v) :=
  h.trans (Chg.setCell (S := [b]) W b o v (by simp)) (fun x hx hl => by
    have : x = b := by simpa using hx
    subst this
    exact hb.resolve_right (by omega))

def DonePost (w : World) (b m bb : Nat) (sl : Value) (A : Ledger) (K : Book) (o : Offer) (seq taker to n given : Nat) (e : Ending) (w' : World) : Prop :=
  e = .returned (.tuple #[fillV seq taker to n given, .int .i64 0]) ∧ ∃ A1 A2 S sl', PaidOr A o.owner to o.sell n A1 ∧ PaidOr A1 taker o.owner o.buy given A2 ∧ Chg S w w' ∧ (∀ k ∈ S, k = m ∨ k = bb ∨ sl.ownBlock = some k) ∧ LedgerAt w' b m A2 ∧ BookAt w' bb (K.take seq n).2 sl'

set_option maxHeartbeats 8000000 in
theorem do_ok {w : World} {b m : Nat} {A : Ledger} (h : LedgerAt w b m A) {bb : Nat} {K : Book} {sl : Value} (hK : BookAt w bb K sl) (hn : 1 ≤ K.next) (hm : K.l.length ≤ 1000000000000) (hLf : ∀ k, k < K.l.length → 0 ≤ (K.l[k]!).left ∧ (K.l[k]!).left ≤ 9223372036854775807)
    (hd : bb ≠ b ∧ bb ≠ m ∧ ∀ k, sl.ownBlock = some k → k ≠ b ∧ k ≠ m) (o : Offer) (seq taker to n given : Nat) (x : Int) (hfd : Book.findD K.l seq = o) (hmay : Offer.may o = true) (hn1 : 1 ≤ n ∧ n ≤ 1099511627776) (hnx : (n : Int) ≤ x) (hgv : 1 ≤ given ∧ given ≤ 1099511627776)
    (hup : ∀ W, Calls Try.prog 18 #[.int .i64 n, .agg #[.int .i64 o.num, .int .i64 o.den]] W (PairPost W given 0)) (ht : 1 ≤ taker ∧ taker ≤ 16) (hto : 1 ≤ to ∧ to ≤ 16) (hot : o.owner ≠ taker) (hoo : to ≠ o.owner) (h1 : A.has o.owner = true) (h2 : A.has taker = true) (h3 : A.has to = true)
    (hM : ∀ W, Below w.heap.size w W → Calls Try.prog 8 #[.agg #[.pointer (some ⟨b, 0, none⟩), .pointer (some ⟨bb, 0, none⟩)], .int .u64 seq, .int .u8 taker, .int .u8 to, .int .i64 n, .int .i64 1099511627776] W (IntPost W x)) :
    Calls Try.prog 7 #[.agg #[.pointer (some ⟨b, 0, none⟩), .pointer (some ⟨bb, 0, none⟩)], .int .u64 seq, .int .u8 taker, .int .u8 to, .int .i64 n] w (DonePost w b m bb sl A K o seq taker to n given) := by
  have hmo : (1 ≤ o.owner ∧ o.owner ≤ 16) ∧ (1 ≤ o.sell ∧ o.sell ≤ 8) ∧ (1 ≤ o.buy ∧ o.buy ≤ 8) := by unfold Offer.may at hmay; simp only [Bool.and_eq_true, decide_eq_true_eq] at hmay; omega
  have HM := Lib.hid hM; clear hM
  have HUP := Lib.hid hup; clear hup
  have HFD := Lib.hid hfd; clear hfd hmay
  have HHas := Lib.hid (And.intro h1 (And.intro h2 h3)); clear h1 h2 h3
  have HMO := Lib.hid hmo; clear hmo
  have HD := Lib.hid hd; clear hd
  have HLF := Lib.hid hLf; clear hLf
  have hbl := h.lt
  have hml := h.map.lt
  have hbbl := hK.lt
  have e1 : decide ((n : Int) < 1) = false := by simp; omega
  have e2 : decide (x < (n : Int)) = false := by simp; omega
  have e3 : ((to : Int) != o.owner) = true := by rw [bne_iff_ne]; omega
  have HG := Lib.hid (show (1 : Int) ≤ given ∧ (given : Int) ≤ 1099511627776 by omega)
  have HN := Lib.hid (show (1 : Int) ≤ n ∧ (n : Int) ≤ 1099511627776 by omega)
  have HOT := Lib.hid (show taker ≠ o.owner by omega)
  have HOO := Lib.hid hoo
  have HT := Lib.hid ht; have HTO := Lib.hid hto
  clear hgv hn1 hnx hot hoo ht hto
  obtain ⟨sq, p, s, y, left, a, d⟩ := o
  dsimp only at *
  go_enter Try.func7, Try.ntmps7
  go_wp2_with (first | (go_at_call 16; refine (ledgersCopy (h.below (by repeat (first | with_reducible exact Below.refl _ _ | with_reducible assumption | refine Below.drew ?_ | refine Below.setCell ?_ (by first | exact Nat.le_refl _ | omega | (simp; done) | (simp; omega)) _ | refine Below.alloc ?_ (by first | exact Nat.le_refl _ | omega | (simp; done) | (simp; omega)) _ | refine Below.tr ?_ (Nat.le_refl _) (by assumption) | exact Below.refl _ _ | assumption)))).mono ?_; rintro e w1 ⟨b', m', rfl, hb1, -, -, -⟩; obtain ⟨k0, k1, kz⟩ := two_blocks hb1; obtain ⟨c0, c1⟩ := houseMem k0; have hB1 : Below w.heap.size w w1 := (by repeat (first | with_reducible exact Below.refl _ _ | with_reducible assumption | refine Below.drew ?_ | refine Below.setCell ?_ (by first | exact Nat.le_refl _ | omega | (simp; done) | (simp; omega)) _ | refine Below.alloc ?_ (by first | exact Nat.le_refl _ | omega | (simp; done) | (simp; omega)) _ | refine Below.tr ?_ (Nat.le_refl _) (by assumption) | exact Below.refl _ _ | assumption)); clear k0 k1) | (go_at_call 17; refine (booksCopy (hK.below hB1) hn hm).mono ?_; rintro e w2 ⟨b2, sl2, rfl, hb2, -, -, -⟩; have hb3 := Lib.hid (hb1.trans (hb2.mono hb1.size)); obtain ⟨k0, k1, kz2⟩ := two_blocks hb3.out; obtain ⟨d0, d1⟩ := houseMem k0; have hB2 : Below w.heap.size w w2 := hB1.trans (hb2.mono hB1.size); clear k0 k1 hb1 hb2 hB1 c0 c1 kz) | (go_at_call 8; refine (HM.out _ hB2).mono ?_; rintro e w3 ⟨rfl, hb4⟩; have hb5 := Lib.hid (hb3.out.trans (hb4.mono hb3.out.size)); obtain ⟨k0, k1, kz3⟩ := two_blocks hb5.out; obtain ⟨g0, g1⟩ := houseMem k0; have hB3 : Below w.heap.size w w3 := hB2.trans (hb4.mono hB2.size); clear k0 k1 hb4 d0 d1 hB2 hb3 kz2) | (go_at_call 12; refine (booksFind (hK.below hB3) (by omega) hn seq).mono ?_; rintro e w4 ⟨rfl, hb6⟩; rw [HFD.out]; have hb7 := Lib.hid (hb5.out.trans (hb6.mono hb5.out.size)); clear hb6 hb5 hB3 g0 g1 kz3; simp only [Offer.val]) | (go_at_call 18; refine (HUP.out _).mono ?_; rintro e w6 ⟨rfl, hb8⟩; obtain ⟨M6, hB6, l6, l7⟩ := doMem_of (o := ⟨sq, p, s, y, left, a, d⟩) hb7.out hb8; obtain ⟨⟨p0, p1⟩, p2, p3, p4, p5, p6⟩ := M6.cells; have M6 := Lib.hid M6; have hB6 := Lib.hid hB6; have h6 := h.below hB6.out; clear hb7 hb8) | (go_at_call 19; refine (pay_or h6 p to s n HMO.out.1 HTO.out (Ne.symm HOO.out) HMO.out.2.1 HN.out HHas.out.1 HHas.out.2.2).mono ?_; rintro e w7 ⟨A1, v1, hp1, rfl, hC7, h7⟩; have M7 := M6.out.chg hC7 (by simp; omega) (by omega); obtain ⟨⟨q0, q1⟩, q2, q3, q4, q5, q6⟩ := M7.cells; have M7 := Lib.hid M7; have HP1 := Lib.hid hp1; have hC7 := Lib.hid hC7; clear hp1 h6 p0 p1 p2 p3 p4 p5 p6 M6) | (go_at_call 19; refine (pay_or h7 taker p y given HT.out HMO.out.1 HOT.out HMO.out.2.2 HG.out (by rw [HP1.out.has]; exact HHas.out.2.1) (by rw [HP1.out.has]; exact HHas.out.1)).mono ?_; rintro e w8 ⟨A2, v2, hp2, rfl, hC8, h8⟩; have M8 := M7.out.chg hC8 (by simp; omega) (by omega); obtain ⟨⟨r0, r1⟩, -⟩ := M8.cells; have M8 := Lib.hid M8; have HP2 := Lib.hid hp2; have hC8 := Lib.hid ((Chg.of_below (S := [m]) hB6.out).trans (hC7.out.trans hC8 (fun x hx _ => hx)) (fun x hx _ => hx)); have hK8 := hK.chg hC8.out (by simpa using HD.out.2.1) (fun k hk => by simpa using (HD.out.2.2 k hk).2); clear hp2 h7 q0 q1 q2 q3 q4 q5 q6 M7) | (go_at_call 20; refine (booksTake hK8 (by omega) hn seq n HLF.out).mono ?_; rintro e w9 ⟨rfl, S, sl', hC9, hS, hK9⟩; have M9 := M8.out.chg hC9 (fun k hk => (hS k hk).elim (fun e => e ▸ hbbl) (fun e => hK.own_lt e)) (by omega); obtain ⟨z0, z1, z2, z3, z4, zf⟩ := fillMem M9.hF; have HF9 := Lib.hid M9.hF; have h9 := h8.chg hC9 (fun hk => (hS b hk).elim (fun e => HD.out.1 e.symm) (fun e => (HD.out.2.2 b e).1 rfl)) (fun hk => (hS m hk).elim (fun e => HD.out.2.1 e.symm) (fun e => (HD.out.2.2 m e).2 rfl)); clear M8 M9 r0 r1 h8))
  refine bodyPost_ret (v := .tuple #[fillV seq taker to n given, .int .i64 0]) ?_ rfl ⟨rfl, A1, A2, S ++ [m], sl', HP1.out, HP2.out, ?_, ?_, ?_, ?_⟩
  · simp [results, Try.results7, go_sem, z0, z1, z2, z3, z4]
  · iterate 5 refine Chg.set ?_ (.inr (by omega)) _ _
    exact (hC8.out.mono (S' := S ++ [m]) (fun x hx _ => by simp at hx; simp [hx])).trans hC9 (fun x hx _ => by simp [hx])
  · intro k hk
    rcases List.mem_append.1 hk with h' | h'
    · exact .inr (hS k h')
    · exact .inl (by simpa using h')
  · refine h9.chg (S := [w.heap.size + 1]) ?_ (by simp; omega) (by simp; omega)
    iterate 5 refine Chg.set ?_ (.inl (by simp)) _ _
    exact Chg.refl _ _
  · refine hK9.chg (S := [w.heap.size + 1]) ?_ (by simp; omega) ?_
    · iterate 5 refine Chg.set ?_ (.inl (by simp)) _ _
      exact Chg.refl _ _
    · intro k hk; simpa using hK9.own_ne HF9.out k hk
end Go.Proofs.Ytelcdiceongfdaa
