/-
  Walks of the layer fills, fifth part: fills that are not done.
  Walks of the layer fills, sixth part: a fill that is done.
  Walks of the layer fills: a fill whose owner is who gets it.
  Walks of the layer fills, seventh part: the house of 'lives': what may be filled of it, and is.
  Walks of the layer fills, eighth part: 'lives' is true.
  Walks of the laws' makers, second part: a house of whatever acts and offers. Conditions: they can be read; fewer than 2^40 of each.
  Walks of the layer fills: how much may be filled, whatever is asked. Conditions: a ledger and a book that calls have made; the arguments are of their types.
-/
import Derived.Test.YtelcdiceongfdaaMoP17
import Derived.Test.YtelcdiceongfdaaMoP4
import Derived.Test.YtelcdiceongfdaaMoP10
import Derived.Test.YtelcdiceongfdaaMoP16
section
namespace Go.Proofs.Ytelcdiceongfdaa
open Go.RowKit Go.BigFrame
set_option maxRecDepth 100000

abbrev fillV (seq taker to : Nat) (got given : Int) : Value := .agg #[.int .u64 seq, .int .u8 taker, .int .u8 to, .int .i64 got, .int .i64 given]
def DoPost (w : World) (v : Value) (er : Int) (e : Ending) (w' : World) : Prop := e = .returned (.tuple #[v, .int .i64 er]) ∧ Below w.heap.size w w'
theorem NoBook.below {w w' : World} {p : Option Addr} (h : NoBook w p) (hb : Below w.heap.size w w') : NoBook w' p := by
  rcases h with h | ⟨b, hp, hc⟩
  · exact .inl h
  · exact .inr ⟨b, hp, (hb.cell (p := ⟨b, 1, none⟩) (World.block_lt_of_cell? w _ hc)).trans hc⟩
theorem fillMem {w1 : World} {b : Nat} (h : w1.heap[b]? = some (.cells #[.int .u64 0, .int .u8 0, .int .u8 0, .int .i64 0, .int .i64 0] 41 (0, 0))) :
    w1.cell? ⟨b, 0, none⟩ = some (.int .u64 0) ∧ w1.cell? ⟨b, 1, none⟩ = some (.int .u8 0) ∧ w1.cell? ⟨b, 2, none⟩ = some (.int .u8 0) ∧ w1.cell? ⟨b, 3, none⟩ = some (.int .i64 0) ∧ w1.cell? ⟨b, 4, none⟩ = some (.int .i64 0) ∧ ∀ j, w1.frozen? ⟨b, j, none⟩ = false := by
  have q : ∀ j v, (#[.int .u64 0, .int .u8 0, .int .u8 0, .int .i64 0, .int .i64 0] : Array Value)[j]? = some v → w1.cell? ⟨b, j, none⟩ = some v := fun j v hv => (cell_of_row _ _ j _ _ _ h).trans hv
  exact ⟨q 0 _ rfl, q 1 _ rfl, q 2 _ rfl, q 3 _ rfl, q 4 _ rfl, fun j => by simp [World.frozen?, h]⟩

set_option maxHeartbeats 2000000 in
/-- a house without a ledger -/
theorem do_noL {w : World} {L : Option Addr} (hL : NoLedger w L) (B : Option Addr) (seq taker to : Nat) (n : Int) :
    Calls Try.prog 7 #[.agg #[.pointer L, .pointer B], .int .u64 seq, .int .u8 taker, .int .u8 to, .int .i64 n] w (DoPost w (fillV 0 0 0 0 0) 2) := by
  go_enter Try.func7, Try.ntmps7
  go_wp2_with (go_at_call 16; refine (ledgersCopy_no (hL.below (by repeat (first | with_reducible exact Below.refl _ _ | with_reducible assumption | refine Below.drew ?_ | refine Below.setCell ?_ (by first | exact Nat.le_refl _ | omega | (simp; done) | (simp; omega)) _ | refine Below.alloc ?_ (by first | exact Nat.le_refl _ | omega | (simp; done) | (simp; omega)) _ | refine Below.tr ?_ (Nat.le_refl _) (by assumption) | exact Below.refl _ _ | assumption)))).mono ?_; rintro e w' ⟨rfl, rfl⟩)
  refine bodyPost_ret (v := .tuple #[fillV 0 0 0 0 0, .int .i64 2]) ?_ rfl ⟨rfl, ?_⟩
  · simp [results, Try.results7, go_sem]
  · exact (by repeat (first | with_reducible exact Below.refl _ _ | with_reducible assumption | refine Below.drew ?_ | refine Below.setCell ?_ (by first | exact Nat.le_refl _ | omega | (simp; done) | (simp; omega)) _ | refine Below.alloc ?_ (by first | exact Nat.le_refl _ | omega | (simp; done) | (simp; omega)) _ | refine Below.tr ?_ (Nat.le_refl _) (by assumption) | exact Below.refl _ _ | assumption))

set_option maxHeartbeats 2000000 in
/-- a house without a book -/
theorem do_noB {w : World} {b m : Nat} {A : Ledger} (h : LedgerAt w b m A) {B : Option Addr} (hB : NoBook w B) (seq taker to : Nat) (n : Int) :
    Calls Try.prog 7 #[.agg #[.pointer (some ⟨b, 0, none⟩), .pointer B], .int .u64 seq, .int .u8 taker, .int .u8 to, .int .i64 n] w (DoPost w (fillV 0 0 0 0 0) 2) := by
  go_enter Try.func7, Try.ntmps7
  go_wp2_with (first | (go_at_call 16; refine (ledgersCopy (h.below (by repeat (first | with_reducible exact Below.refl _ _ | with_reducible assumption | refine Below.drew ?_ | refine Below.setCell ?_ (by first | exact Nat.le_refl _ | omega | (simp; done) | (simp; omega)) _ | refine Below.alloc ?_ (by first | exact Nat.le_refl _ | omega | (simp; done) | (simp; omega)) _ | refine Below.tr ?_ (Nat.le_refl _) (by assumption) | exact Below.refl _ _ | assumption)))).mono ?_; rintro e w1 ⟨b', m', rfl, hb1, -, -, -⟩; obtain ⟨k0, k1, kz⟩ := two_blocks hb1; obtain ⟨c0, c1⟩ := houseMem k0; obtain ⟨z0, z1, z2, z3, z4, zf⟩ := fillMem k1; have hB1 : Below w.heap.size w w1 := (by repeat (first | with_reducible exact Below.refl _ _ | with_reducible assumption | refine Below.drew ?_ | refine Below.setCell ?_ (by first | exact Nat.le_refl _ | omega | (simp; done) | (simp; omega)) _ | refine Below.alloc ?_ (by first | exact Nat.le_refl _ | omega | (simp; done) | (simp; omega)) _ | refine Below.tr ?_ (Nat.le_refl _) (by assumption) | exact Below.refl _ _ | assumption)); have hN := hB.below hB1; have s0 : w.heap.size < w1.heap.size := (by omega); have s1 : w.heap.size + 1 < w1.heap.size := (by omega); clear k0 k1) | (go_at_call 17; refine (booksCopy_no hN).mono ?_; rintro e w' ⟨rfl, rfl⟩))
  refine bodyPost_ret (v := .tuple #[fillV 0 0 0 0 0, .int .i64 2]) ?_ rfl ⟨rfl, ?_⟩
  · simp [results, Try.results7, go_sem, z0, z1, z2, z3, z4]
  · exact (by repeat (first | with_reducible exact Below.refl _ _ | with_reducible assumption | refine Below.drew ?_ | refine Below.setCell ?_ (by first | exact Nat.le_refl _ | omega | (simp; done) | (simp; omega)) _ | refine Below.alloc ?_ (by first | exact Nat.le_refl _ | omega | (simp; done) | (simp; omega)) _ | refine Below.tr ?_ (Nat.le_refl _) (by assumption) | exact Below.refl _ _ | assumption))

set_option maxHeartbeats 4000000 in
/-- fewer than one -/
theorem do_few {w : World} {b m : Nat} {A : Ledger} (h : LedgerAt w b m A) {bb : Nat} {K : Book} {sl : Value} (hK : BookAt w bb K sl) (hn : 1 ≤ K.next) (hm : K.l.length ≤ 1000000000000) (seq taker to : Nat) (n : Int) (hlt : n < 1) :
    Calls Try.prog 7 #[.agg #[.pointer (some ⟨b, 0, none⟩), .pointer (some ⟨bb, 0, none⟩)], .int .u64 seq, .int .u8 taker, .int .u8 to, .int .i64 n] w (DoPost w (fillV 0 0 0 0 0) 1) := by
  go_enter Try.func7, Try.ntmps7
  go_wp2_with (first | (go_at_call 16; refine (ledgersCopy (h.below (by repeat (first | with_reducible exact Below.refl _ _ | with_reducible assumption | refine Below.drew ?_ | refine Below.setCell ?_ (by first | exact Nat.le_refl _ | omega | (simp; done) | (simp; omega)) _ | refine Below.alloc ?_ (by first | exact Nat.le_refl _ | omega | (simp; done) | (simp; omega)) _ | refine Below.tr ?_ (Nat.le_refl _) (by assumption) | exact Below.refl _ _ | assumption)))).mono ?_; rintro e w1 ⟨b', m', rfl, hb1, -, -, -⟩; obtain ⟨k0, k1, kz⟩ := two_blocks hb1; obtain ⟨c0, c1⟩ := houseMem k0; have hB1 : Below w.heap.size w w1 := (by repeat (first | with_reducible exact Below.refl _ _ | with_reducible assumption | refine Below.drew ?_ | refine Below.setCell ?_ (by first | exact Nat.le_refl _ | omega | (simp; done) | (simp; omega)) _ | refine Below.alloc ?_ (by first | exact Nat.le_refl _ | omega | (simp; done) | (simp; omega)) _ | refine Below.tr ?_ (Nat.le_refl _) (by assumption) | exact Below.refl _ _ | assumption)); clear k0 k1) | (go_at_call 17; refine (booksCopy (hK.below hB1) hn hm).mono ?_; rintro e w2 ⟨b2, sl2, rfl, hb2, -, -, -⟩; obtain ⟨k0, k1, kz2⟩ := two_blocks (hb1.trans (hb2.mono hb1.size)); obtain ⟨d0, d1⟩ := houseMem k0; obtain ⟨z0, z1, z2, z3, z4, zf⟩ := fillMem k1; have s0 : w.heap.size < w2.heap.size := (by omega); have s1 : w.heap.size + 1 < w2.heap.size := (by omega); have hB2 : Below w.heap.size w w2 := hB1.trans (hb2.mono hB1.size); clear k0 k1 hb1 hb2 hB1 c0 c1 kz))
  refine bodyPost_ret (v := .tuple #[fillV 0 0 0 0 0, .int .i64 1]) ?_ rfl ⟨rfl, ?_⟩
  · simp [results, Try.results7, go_sem, z0, z1, z2, z3, z4]
  · iterate 5 refine Below.setCell ?_ (by simp) _
    exact hB2

set_option maxHeartbeats 4000000 in
/-- more than may be -/
theorem do_more {w : World} {b m : Nat} {A : Ledger} (h : LedgerAt w b m A) {bb : Nat} {K : Book} {sl : Value} (hK : BookAt w bb K sl) (hn : 1 ≤ K.next) (hm : K.l.length ≤ 1000000000000) (seq taker to : Nat) (n x : Int) (h1n : 1 ≤ n) (hlt : x < n)
    (hM : ∀ W, Below w.heap.size w W → Calls Try.prog 8 #[.agg #[.pointer (some ⟨b, 0, none⟩), .pointer (some ⟨bb, 0, none⟩)], .int .u64 seq, .int .u8 taker, .int .u8 to, .int .i64 n, .int .i64 1099511627776] W (IntPost W x)) :
    Calls Try.prog 7 #[.agg #[.pointer (some ⟨b, 0, none⟩), .pointer (some ⟨bb, 0, none⟩)], .int .u64 seq, .int .u8 taker, .int .u8 to, .int .i64 n] w (DoPost w (fillV 0 0 0 0 0) 1) := by
  have HM := Lib.hid hM; clear hM
  have e1 : decide (n < 1) = false := by simp; omega
  have e2 : decide (x < n) = true := by simp [hlt]
  go_enter Try.func7, Try.ntmps7
  go_wp2_with (first | (go_at_call 16; refine (ledgersCopy (h.below (by repeat (first | with_reducible exact Below.refl _ _ | with_reducible assumption | refine Below.drew ?_ | refine Below.setCell ?_ (by first | exact Nat.le_refl _ | omega | (simp; done) | (simp; omega)) _ | refine Below.alloc ?_ (by first | exact Nat.le_refl _ | omega | (simp; done) | (simp; omega)) _ | refine Below.tr ?_ (Nat.le_refl _) (by assumption) | exact Below.refl _ _ | assumption)))).mono ?_; rintro e w1 ⟨b', m', rfl, hb1, -, -, -⟩; obtain ⟨k0, k1, kz⟩ := two_blocks hb1; obtain ⟨c0, c1⟩ := houseMem k0; have hB1 : Below w.heap.size w w1 := (by repeat (first | with_reducible exact Below.refl _ _ | with_reducible assumption | refine Below.drew ?_ | refine Below.setCell ?_ (by first | exact Nat.le_refl _ | omega | (simp; done) | (simp; omega)) _ | refine Below.alloc ?_ (by first | exact Nat.le_refl _ | omega | (simp; done) | (simp; omega)) _ | refine Below.tr ?_ (Nat.le_refl _) (by assumption) | exact Below.refl _ _ | assumption)); clear k0 k1) | (go_at_call 17; refine (booksCopy (hK.below hB1) hn hm).mono ?_; rintro e w2 ⟨b2, sl2, rfl, hb2, -, -, -⟩; have hb3 := Lib.hid (hb1.trans (hb2.mono hb1.size)); obtain ⟨k0, k1, kz2⟩ := two_blocks hb3.out; obtain ⟨d0, d1⟩ := houseMem k0; have hB2 : Below w.heap.size w w2 := hB1.trans (hb2.mono hB1.size); clear k0 k1 hb1 hb2 hB1 c0 c1 kz) | (go_at_call 8; refine (HM.out _ hB2).mono ?_; rintro e w3 ⟨rfl, hb4⟩; obtain ⟨k0, k1, kz3⟩ := two_blocks (hb3.out.trans (hb4.mono hb3.out.size)); obtain ⟨z0, z1, z2, z3, z4, zf⟩ := fillMem k1; have s0 : w.heap.size < w3.heap.size := (by omega); have s1 : w.heap.size + 1 < w3.heap.size := (by omega); have hB3 : Below w.heap.size w w3 := hB2.trans (hb4.mono hB2.size); clear k0 k1))
  refine bodyPost_ret (v := .tuple #[fillV 0 0 0 0 0, .int .i64 1]) ?_ rfl ⟨rfl, ?_⟩
  · simp [results, Try.results7, go_sem, z0, z1, z2, z3, z4]
  · iterate 5 refine Below.setCell ?_ (by simp) _
    exact hB3
end Go.Proofs.Ytelcdiceongfdaa
end
section
namespace Go.Proofs.Ytelcdiceongfdaa
open Go.RowKit Go.BigFrame
set_option maxRecDepth 100000

/-- what a payment leaves of a ledger, whether it goes or not -/
def PaidOr (A : Ledger) (f t c : Nat) (n : Int) (A' : Ledger) : Prop :=
  ∃ k r, routeF f t n k ⟨rooms A c, 0, []⟩ = some r ∧ ((r.got < n ∧ A' = A) ∨ (n ≤ r.got ∧ A' = pushAll A c r.ps))
def PaidPost (w : World) (b m : Nat) (A : Ledger) (f t c : Nat) (n : Int) (e : Ending) (w' : World) : Prop :=
  ∃ A' v, PaidOr A f t c n A' ∧ e = .returned v ∧ Chg [m] w w' ∧ LedgerAt w' b m A'
theorem pay_or {w : World} {b m : Nat} {A : Ledger} (h : LedgerAt w b m A) (f t c : Nat) (n : Int) (hf : 1 ≤ f ∧ f ≤ 16) (ht : 1 ≤ t ∧ t ≤ 16) (hft : f ≠ t) (hc : 1 ≤ c ∧ c ≤ 8) (hn : 1 ≤ n ∧ n ≤ 1099511627776) (h1 : A.has f = true) (h2 : A.has t = true) :
    Calls Try.prog 19 #[.pointer (some ⟨b, 0, none⟩), .int .u8 f, .int .u8 t, .int .u8 c, .int .i64 n] w (PaidPost w b m A f t c n) :=
  (pay_ok h f t c n hf ht hft hc hn h1 h2).mono fun e w' ⟨k, r, hr, hx⟩ => by
    rcases hx with ⟨hlt, rfl, hb⟩ | ⟨hle, rfl, hC, hL⟩
    · exact ⟨A, _, ⟨k, r, hr, .inl ⟨hlt, rfl⟩⟩, rfl, Chg.of_below hb, h.below hb⟩
    · exact ⟨_, _, ⟨k, r, hr, .inr ⟨hle, rfl⟩⟩, rfl, hC, hL⟩
theorem pushAll_has (c : Nat) : ∀ (ps : List Flow) (A : Ledger), (pushAll A c ps).has = A.has
  | [], A => rfl
  | x :: ps, A => by
    have : ((A.push x.f x.t c x.n).2).has = A.has := by unfold Ledger.push Ledger.shift; (repeat' split) <;> rfl
    exact (pushAll_has c ps _).trans this
theorem PaidOr.has {A A' : Ledger} {f t c : Nat} {n : Int} (h : PaidOr A f t c n A') : A'.has = A.has := by
  obtain ⟨k, r, _, ⟨_, rfl⟩ | ⟨_, rfl⟩⟩ := h
  · rfl
  · exact pushAll_has _ _ _
/-- the house's block, the result's and the offer's -/
structure DoMem (w W : World) (b bb g : Nat) (o : Offer) : Prop where
  hH : W.heap[w.heap.size]? = some (.cells #[.pointer (some ⟨b, 0, none⟩), .pointer (some ⟨bb, 0, none⟩)] 29 (0, 0))
  hF : W.heap[w.heap.size + 1]? = some (.cells #[.int .u64 0, .int .u8 0, .int .u8 0, .int .i64 0, .int .i64 0] 41 (0, 0))
  hO : W.heap[g]? = some (.cells #[.int .u64 o.seq, .int .u8 o.owner, .int .u8 o.sell, .int .u8 o.buy, .int .i64 o.left, .int .i64 o.num, .int .i64 o.den] 57 (0, 0))
theorem DoMem.chg {w W W' : World} {b bb g : Nat} {o : Offer} {S : List Nat} (h : DoMem w W b bb g o) (hc : Chg S W W') (hS : ∀ k ∈ S, k < w.heap.size) (hg : w.heap.size ≤ g) : DoMem w W' b bb g o :=
  ⟨(hc.block _ (lt_of_block h.hH) (fun hm => Nat.lt_irrefl _ (hS _ hm))).trans h.hH, (hc.block _ (lt_of_block h.hF) (fun hm => by have := hS _ hm; omega)).trans h.hF, (hc.block _ (lt_of_block h.hO) (fun hm => by have := hS _ hm; omega)).trans h.hO⟩
theorem DoMem.cells {w W : World} {b bb g : Nat} {o : Offer} (h : DoMem w W b bb g o) :
    (W.cell? ⟨w.heap.size, 0, none⟩ = some (.pointer (some ⟨b, 0, none⟩)) ∧ W.cell? ⟨w.heap.size, 1, none⟩ = some (.pointer (some ⟨bb, 0, none⟩))) ∧
    (W.cell? ⟨g, 1, none⟩ = some (.int .u8 o.owner) ∧ W.cell? ⟨g, 2, none⟩ = some (.int .u8 o.sell) ∧ W.cell? ⟨g, 3, none⟩ = some (.int .u8 o.buy) ∧ W.cell? ⟨g, 5, none⟩ = some (.int .i64 o.num) ∧ W.cell? ⟨g, 6, none⟩ = some (.int .i64 o.den)) := by
  have q : ∀ j v, (#[.int .u64 o.seq, .int .u8 o.owner, .int .u8 o.sell, .int .u8 o.buy, .int .i64 o.left, .int .i64 o.num, .int .i64 o.den] : Array Value)[j]? = some v → W.cell? ⟨g, j, none⟩ = some v := fun j v hv => (cell_of_row _ _ j _ _ _ h.hO).trans hv
  exact ⟨houseMem h.hH, q 1 _ rfl, q 2 _ rfl, q 3 _ rfl, q 5 _ rfl, q 6 _ rfl⟩
theorem doMem_of {w w4 w6 : World} {b bb : Nat} {o : Offer} (h7 : Below ((w.alloc (.cells #[.pointer (some ⟨b, 0, none⟩), .pointer (some ⟨bb, 0, none⟩)] 29)).alloc (.cells #[.int .u64 0, .int .u8 0, .int .u8 0, .int .i64 0, .int .i64 0] 41)).heap.size ((w.alloc (.cells #[.pointer (some ⟨b, 0, none⟩), .pointer (some ⟨bb, 0, none⟩)] 29)).alloc (.cells #[.int .u64 0, .int .u8 0, .int .u8 0, .int .i64 0, .int .i64 0] 41)) w4) (h8 : Below (w4.alloc (.cells #[.int .u64 o.seq, .int .u8 o.owner, .int .u8 o.sell, .int .u8 o.buy, .int .i64 o.left, .int .i64 o.num, .int .i64 o.den] 57)).heap.size (w4.alloc (.cells #[.int .u64 o.seq, .int .u8 o.owner, .int .u8 o.sell, .int .u8 o.buy, .int .i64 o.left, .int .i64 o.num, .int .i64 o.den] 57)) w6) :
    DoMem w w6 b bb w4.heap.size o ∧ Below w.heap.size w w6 ∧ w.heap.size + 2 ≤ w4.heap.size ∧ w4.heap.size < w6.heap.size := by
  obtain ⟨k0, k1, kz⟩ := two_blocks h7
  have hs : (w4.alloc (.cells #[.int .u64 o.seq, .int .u8 o.owner, .int .u8 o.sell, .int .u8 o.buy, .int .i64 o.left, .int .i64 o.num, .int .i64 o.den] 57)).heap.size = w4.heap.size + 1 := by simp
  have h46 : Below w4.heap.size w4 w6 := ((Below.refl w4.heap.size w4).alloc (Nat.le_refl _) _).trans (h8.mono (by omega))
  have hz := h8.size
  refine ⟨⟨(h46.block _ (by omega)).trans k0, (h46.block _ (by omega)).trans k1, (h8.block _ (by omega)).trans (alloc_new w4 _)⟩, ?_, kz, by omega⟩
  have h04 : Below w.heap.size w w4 := (((Below.refl w.heap.size w).alloc (Nat.le_refl _) _).alloc (by simp) _).trans (h7.mono (by simp; omega))
  exact h04.trans (h46.mono (by omega))
theorem BookAt.own_lt {w : World} {b : Nat} {B : Book} {sl : Value} (h : BookAt w b B sl) {k : Nat} (hk : sl.ownBlock = some k) : k < w.heap.size := by
  rcases h.cases with ⟨rfl, _⟩ | ⟨g, cap, rfl, hg, _⟩
  · cases hk
  · simp only [Value.ownBlock, Option.some.injEq] at hk; omega
theorem BookAt.own_ne {w : World} {b : Nat} {B : Book} {sl : Value} (h : BookAt w b B sl) {g : Nat} {C : Array Value} (hC : w.heap[g]? = some (.cells C 41 (0, 0))) : ∀ k, sl.ownBlock = some k → k ≠ g := by
  rintro k hk rfl
  rcases h.row.2 with ⟨e, _⟩ | ⟨g', cap, cur, e, hb, hg, _⟩
  · rw [e] at hk; cases hk
  · rw [e] at hk
    simp only [Value.ownBlock, Option.some.injEq] at hk
    subst hk
    rw [hC] at hg
    simp at hg
theorem Chg.set {S : List Nat} {w W : World} (h : Chg S w W) {b : Nat} (hb : b ∈ S ∨ w.heap.size ≤ b) (o : Nat) (v : Value) : Chg S w (W.setCell ⟨b, o, none⟩ v) :=
  h.trans (Chg.setCell (S := [b]) W b o v (by simp)) (fun x hx hl => by
    have : x = b := by simpa using hx
    subst this
    exact hb.resolve_right (by omega))

def DonePost (w : World) (b m bb : Nat) (sl : Value) (A : Ledger) (K : Book) (o : Offer) (seq taker to n given : Nat) (e : Ending) (w' : World) : Prop :=
  e = .returned (.tuple #[fillV seq taker to n given, .int .i64 0]) ∧ ∃ A1 A2 S sl', PaidOr A o.owner to o.sell n A1 ∧ PaidOr A1 taker o.owner o.buy given A2 ∧ Chg S w w' ∧ (∀ k ∈ S, k = m ∨ k = bb ∨ sl.ownBlock = some k) ∧ LedgerAt w' b m A2 ∧ BookAt w' bb (K.take seq n).2 sl'

set_option maxHeartbeats 8000000 in
theorem do_ok {w : World} {b m : Nat} {A : Ledger} (h : LedgerAt w b m A) {bb : Nat} {K : Book} {sl : Value} (hK : BookAt w bb K sl) (hn : 1 ≤ K.next) (hm : K.l.length ≤ 1000000000000) (hLf : ∀ k, k < K.l.length → 0 ≤ (K.l[k]!).left ∧ (K.l[k]!).left ≤ 9223372036854775807)
    (hd : bb ≠ b ∧ bb ≠ m ∧ ∀ k, sl.ownBlock = some k → k ≠ b ∧ k ≠ m) (o : Offer) (seq taker to n given : Nat) (x : Int) (hfd : Book.findD K.l seq = o) (hmay : Offer.may o = true) (hn1 : 1 ≤ n ∧ n ≤ 1099511627776) (hnx : (n : Int) ≤ x) (hgv : 1 ≤ given ∧ given ≤ 1099511627776)
    (hup : ∀ W, Calls Try.prog 18 #[.int .i64 n, .agg #[.int .i64 o.num, .int .i64 o.den]] W (PairPost W given 0)) (ht : 1 ≤ taker ∧ taker ≤ 16) (hto : 1 ≤ to ∧ to ≤ 16) (hot : o.owner ≠ taker) (hoo : to ≠ o.owner) (h1 : A.has o.owner = true) (h2 : A.has taker = true) (h3 : A.has to = true)
    (hM : ∀ W, Below w.heap.size w W → Calls Try.prog 8 #[.agg #[.pointer (some ⟨b, 0, none⟩), .pointer (some ⟨bb, 0, none⟩)], .int .u64 seq, .int .u8 taker, .int .u8 to, .int .i64 n, .int .i64 1099511627776] W (IntPost W x)) :
    Calls Try.prog 7 #[.agg #[.pointer (some ⟨b, 0, none⟩), .pointer (some ⟨bb, 0, none⟩)], .int .u64 seq, .int .u8 taker, .int .u8 to, .int .i64 n] w (DonePost w b m bb sl A K o seq taker to n given) := by
  have hmo : (1 ≤ o.owner ∧ o.owner ≤ 16) ∧ (1 ≤ o.sell ∧ o.sell ≤ 8) ∧ (1 ≤ o.buy ∧ o.buy ≤ 8) := by unfold Offer.may at hmay; simp only [Bool.and_eq_true, decide_eq_true_eq] at hmay; omega
  have HM := Lib.hid hM; clear hM
  have HUP := Lib.hid hup; clear hup
  have HFD := Lib.hid hfd; clear hfd hmay
  have HHas := Lib.hid (And.intro h1 (And.intro h2 h3)); clear h1 h2 h3
  have HMO := Lib.hid hmo; clear hmo
  have HD := Lib.hid hd; clear hd
  have HLF := Lib.hid hLf; clear hLf
  have hbl := h.lt
  have hml := h.map.lt
  have hbbl := hK.lt
  have e1 : decide ((n : Int) < 1) = false := by simp; omega
  have e2 : decide (x < (n : Int)) = false := by simp; omega
  have e3 : ((to : Int) != o.owner) = true := by rw [bne_iff_ne]; omega
  have HG := Lib.hid (show (1 : Int) ≤ given ∧ (given : Int) ≤ 1099511627776 by omega)
  have HN := Lib.hid (show (1 : Int) ≤ n ∧ (n : Int) ≤ 1099511627776 by omega)
  have HOT := Lib.hid (show taker ≠ o.owner by omega)
  have HOO := Lib.hid hoo
  have HT := Lib.hid ht; have HTO := Lib.hid hto
  clear hgv hn1 hnx hot hoo ht hto
  obtain ⟨sq, p, s, y, left, a, d⟩ := o
  dsimp only at *
  go_enter Try.func7, Try.ntmps7
  go_wp2_with (first | (go_at_call 16; refine (ledgersCopy (h.below (by repeat (first | with_reducible exact Below.refl _ _ | with_reducible assumption | refine Below.drew ?_ | refine Below.setCell ?_ (by first | exact Nat.le_refl _ | omega | (simp; done) | (simp; omega)) _ | refine Below.alloc ?_ (by first | exact Nat.le_refl _ | omega | (simp; done) | (simp; omega)) _ | refine Below.tr ?_ (Nat.le_refl _) (by assumption) | exact Below.refl _ _ | assumption)))).mono ?_; rintro e w1 ⟨b', m', rfl, hb1, -, -, -⟩; obtain ⟨k0, k1, kz⟩ := two_blocks hb1; obtain ⟨c0, c1⟩ := houseMem k0; have hB1 : Below w.heap.size w w1 := (by repeat (first | with_reducible exact Below.refl _ _ | with_reducible assumption | refine Below.drew ?_ | refine Below.setCell ?_ (by first | exact Nat.le_refl _ | omega | (simp; done) | (simp; omega)) _ | refine Below.alloc ?_ (by first | exact Nat.le_refl _ | omega | (simp; done) | (simp; omega)) _ | refine Below.tr ?_ (Nat.le_refl _) (by assumption) | exact Below.refl _ _ | assumption)); clear k0 k1) | (go_at_call 17; refine (booksCopy (hK.below hB1) hn hm).mono ?_; rintro e w2 ⟨b2, sl2, rfl, hb2, -, -, -⟩; have hb3 := Lib.hid (hb1.trans (hb2.mono hb1.size)); obtain ⟨k0, k1, kz2⟩ := two_blocks hb3.out; obtain ⟨d0, d1⟩ := houseMem k0; have hB2 : Below w.heap.size w w2 := hB1.trans (hb2.mono hB1.size); clear k0 k1 hb1 hb2 hB1 c0 c1 kz) | (go_at_call 8; refine (HM.out _ hB2).mono ?_; rintro e w3 ⟨rfl, hb4⟩; have hb5 := Lib.hid (hb3.out.trans (hb4.mono hb3.out.size)); obtain ⟨k0, k1, kz3⟩ := two_blocks hb5.out; obtain ⟨g0, g1⟩ := houseMem k0; have hB3 : Below w.heap.size w w3 := hB2.trans (hb4.mono hB2.size); clear k0 k1 hb4 d0 d1 hB2 hb3 kz2) | (go_at_call 12; refine (booksFind (hK.below hB3) (by omega) hn seq).mono ?_; rintro e w4 ⟨rfl, hb6⟩; rw [HFD.out]; have hb7 := Lib.hid (hb5.out.trans (hb6.mono hb5.out.size)); clear hb6 hb5 hB3 g0 g1 kz3; simp only [Offer.val]) | (go_at_call 18; refine (HUP.out _).mono ?_; rintro e w6 ⟨rfl, hb8⟩; obtain ⟨M6, hB6, l6, l7⟩ := doMem_of (o := ⟨sq, p, s, y, left, a, d⟩) hb7.out hb8; obtain ⟨⟨p0, p1⟩, p2, p3, p4, p5, p6⟩ := M6.cells; have M6 := Lib.hid M6; have hB6 := Lib.hid hB6; have h6 := h.below hB6.out; clear hb7 hb8) | (go_at_call 19; refine (pay_or h6 p to s n HMO.out.1 HTO.out (Ne.symm HOO.out) HMO.out.2.1 HN.out HHas.out.1 HHas.out.2.2).mono ?_; rintro e w7 ⟨A1, v1, hp1, rfl, hC7, h7⟩; have M7 := M6.out.chg hC7 (by simp; omega) (by omega); obtain ⟨⟨q0, q1⟩, q2, q3, q4, q5, q6⟩ := M7.cells; have M7 := Lib.hid M7; have HP1 := Lib.hid hp1; have hC7 := Lib.hid hC7; clear hp1 h6 p0 p1 p2 p3 p4 p5 p6 M6) | (go_at_call 19; refine (pay_or h7 taker p y given HT.out HMO.out.1 HOT.out HMO.out.2.2 HG.out (by rw [HP1.out.has]; exact HHas.out.2.1) (by rw [HP1.out.has]; exact HHas.out.1)).mono ?_; rintro e w8 ⟨A2, v2, hp2, rfl, hC8, h8⟩; have M8 := M7.out.chg hC8 (by simp; omega) (by omega); obtain ⟨⟨r0, r1⟩, -⟩ := M8.cells; have M8 := Lib.hid M8; have HP2 := Lib.hid hp2; have hC8 := Lib.hid ((Chg.of_below (S := [m]) hB6.out).trans (hC7.out.trans hC8 (fun x hx _ => hx)) (fun x hx _ => hx)); have hK8 := hK.chg hC8.out (by simpa using HD.out.2.1) (fun k hk => by simpa using (HD.out.2.2 k hk).2); clear hp2 h7 q0 q1 q2 q3 q4 q5 q6 M7) | (go_at_call 20; refine (booksTake hK8 (by omega) hn seq n HLF.out).mono ?_; rintro e w9 ⟨rfl, S, sl', hC9, hS, hK9⟩; have M9 := M8.out.chg hC9 (fun k hk => (hS k hk).elim (fun e => e ▸ hbbl) (fun e => hK.own_lt e)) (by omega); obtain ⟨z0, z1, z2, z3, z4, zf⟩ := fillMem M9.hF; have HF9 := Lib.hid M9.hF; have h9 := h8.chg hC9 (fun hk => (hS b hk).elim (fun e => HD.out.1 e.symm) (fun e => (HD.out.2.2 b e).1 rfl)) (fun hk => (hS m hk).elim (fun e => HD.out.2.1 e.symm) (fun e => (HD.out.2.2 m e).2 rfl)); clear M8 M9 r0 r1 h8))
  refine bodyPost_ret (v := .tuple #[fillV seq taker to n given, .int .i64 0]) ?_ rfl ⟨rfl, A1, A2, S ++ [m], sl', HP1.out, HP2.out, ?_, ?_, ?_, ?_⟩
  · simp [results, Try.results7, go_sem, z0, z1, z2, z3, z4]
  · iterate 5 refine Chg.set ?_ (.inr (by omega)) _ _
    exact (hC8.out.mono (S' := S ++ [m]) (fun x hx _ => by simp at hx; simp [hx])).trans hC9 (fun x hx _ => by simp [hx])
  · intro k hk
    rcases List.mem_append.1 hk with h' | h'
    · exact .inr (hS k h')
    · exact .inl (by simpa using h')
  · refine h9.chg (S := [w.heap.size + 1]) ?_ (by simp; omega) (by simp; omega)
    iterate 5 refine Chg.set ?_ (.inl (by simp)) _ _
    exact Chg.refl _ _
  · refine hK9.chg (S := [w.heap.size + 1]) ?_ (by simp; omega) ?_
    · iterate 5 refine Chg.set ?_ (.inl (by simp)) _ _
      exact Chg.refl _ _
    · intro k hk; simpa using hK9.own_ne HF9.out k hk
end Go.Proofs.Ytelcdiceongfdaa
end
section
namespace Go.Proofs.Ytelcdiceongfdaa
open Go.RowKit Go.BigFrame
set_option maxRecDepth 100000

def OwnPost (w : World) (b m bb : Nat) (sl : Value) (A : Ledger) (K : Book) (o : Offer) (seq taker to n given : Nat) (e : Ending) (w' : World) : Prop :=
  e = .returned (.tuple #[fillV seq taker to n given, .int .i64 0]) ∧ ∃ A2 S sl', PaidOr A taker o.owner o.buy given A2 ∧ Chg S w w' ∧ (∀ k ∈ S, k = m ∨ k = bb ∨ sl.ownBlock = some k) ∧ LedgerAt w' b m A2 ∧ BookAt w' bb (K.take seq n).2 sl'

set_option maxHeartbeats 8000000 in
theorem do_own {w : World} {b m : Nat} {A : Ledger} (h : LedgerAt w b m A) {bb : Nat} {K : Book} {sl : Value} (hK : BookAt w bb K sl) (hn : 1 ≤ K.next) (hm : K.l.length ≤ 1000000000000) (hLf : ∀ k, k < K.l.length → 0 ≤ (K.l[k]!).left ∧ (K.l[k]!).left ≤ 9223372036854775807)
    (hd : bb ≠ b ∧ bb ≠ m ∧ ∀ k, sl.ownBlock = some k → k ≠ b ∧ k ≠ m) (o : Offer) (seq taker to n given : Nat) (x : Int) (hfd : Book.findD K.l seq = o) (hmay : Offer.may o = true) (hn1 : 1 ≤ n ∧ n ≤ 1099511627776) (hnx : (n : Int) ≤ x) (hgv : 1 ≤ given ∧ given ≤ 1099511627776)
    (hup : ∀ W, Calls Try.prog 18 #[.int .i64 n, .agg #[.int .i64 o.num, .int .i64 o.den]] W (PairPost W given 0)) (ht : 1 ≤ taker ∧ taker ≤ 16) (hto : 1 ≤ to ∧ to ≤ 16) (hot : o.owner ≠ taker) (hoo : to = o.owner) (h1 : A.has o.owner = true) (h2 : A.has taker = true) (h3 : A.has to = true)
    (hM : ∀ W, Below w.heap.size w W → Calls Try.prog 8 #[.agg #[.pointer (some ⟨b, 0, none⟩), .pointer (some ⟨bb, 0, none⟩)], .int .u64 seq, .int .u8 taker, .int .u8 to, .int .i64 n, .int .i64 1099511627776] W (IntPost W x)) :
    Calls Try.prog 7 #[.agg #[.pointer (some ⟨b, 0, none⟩), .pointer (some ⟨bb, 0, none⟩)], .int .u64 seq, .int .u8 taker, .int .u8 to, .int .i64 n] w (OwnPost w b m bb sl A K o seq taker to n given) := by
  have hmo : (1 ≤ o.owner ∧ o.owner ≤ 16) ∧ (1 ≤ o.sell ∧ o.sell ≤ 8) ∧ (1 ≤ o.buy ∧ o.buy ≤ 8) := by unfold Offer.may at hmay; simp only [Bool.and_eq_true, decide_eq_true_eq] at hmay; omega
  have HM := Lib.hid hM; clear hM
  have HUP := Lib.hid hup; clear hup
  have HFD := Lib.hid hfd; clear hfd hmay
  have HHas := Lib.hid (And.intro h1 (And.intro h2 h3)); clear h1 h2 h3
  have HMO := Lib.hid hmo; clear hmo
  have HD := Lib.hid hd; clear hd
  have HLF := Lib.hid hLf; clear hLf
  have hbl := h.lt
  have hml := h.map.lt
  have hbbl := hK.lt
  have e1 : decide ((n : Int) < 1) = false := by simp; omega
  have e2 : decide (x < (n : Int)) = false := by simp; omega
  have HG := Lib.hid (show (1 : Int) ≤ given ∧ (given : Int) ≤ 1099511627776 by omega)
  have HN := Lib.hid (show (1 : Int) ≤ n ∧ (n : Int) ≤ 1099511627776 by omega)
  have HOT := Lib.hid (show taker ≠ o.owner by omega)
  have HT := Lib.hid ht; have HTO := Lib.hid hto
  clear hgv hn1 hnx hot ht hto
  obtain ⟨sq, p, s, y, left, a, d⟩ := o
  dsimp only at *
  subst hoo
  go_enter Try.func7, Try.ntmps7
  go_wp2_with (first | (go_at_call 16; refine (ledgersCopy (h.below (by repeat (first | with_reducible exact Below.refl _ _ | with_reducible assumption | refine Below.drew ?_ | refine Below.setCell ?_ (by first | exact Nat.le_refl _ | omega | (simp; done) | (simp; omega)) _ | refine Below.alloc ?_ (by first | exact Nat.le_refl _ | omega | (simp; done) | (simp; omega)) _ | refine Below.tr ?_ (Nat.le_refl _) (by assumption) | exact Below.refl _ _ | assumption)))).mono ?_; rintro e w1 ⟨b', m', rfl, hb1, -, -, -⟩; obtain ⟨k0, k1, kz⟩ := two_blocks hb1; obtain ⟨c0, c1⟩ := houseMem k0; have hB1 : Below w.heap.size w w1 := (by repeat (first | with_reducible exact Below.refl _ _ | with_reducible assumption | refine Below.drew ?_ | refine Below.setCell ?_ (by first | exact Nat.le_refl _ | omega | (simp; done) | (simp; omega)) _ | refine Below.alloc ?_ (by first | exact Nat.le_refl _ | omega | (simp; done) | (simp; omega)) _ | refine Below.tr ?_ (Nat.le_refl _) (by assumption) | exact Below.refl _ _ | assumption)); clear k0 k1) | (go_at_call 17; refine (booksCopy (hK.below hB1) hn hm).mono ?_; rintro e w2 ⟨b2, sl2, rfl, hb2, -, -, -⟩; have hb3 := Lib.hid (hb1.trans (hb2.mono hb1.size)); obtain ⟨k0, k1, kz2⟩ := two_blocks hb3.out; obtain ⟨d0, d1⟩ := houseMem k0; have hB2 : Below w.heap.size w w2 := hB1.trans (hb2.mono hB1.size); clear k0 k1 hb1 hb2 hB1 c0 c1 kz) | (go_at_call 8; refine (HM.out _ hB2).mono ?_; rintro e w3 ⟨rfl, hb4⟩; have hb5 := Lib.hid (hb3.out.trans (hb4.mono hb3.out.size)); obtain ⟨k0, k1, kz3⟩ := two_blocks hb5.out; obtain ⟨g0, g1⟩ := houseMem k0; have hB3 : Below w.heap.size w w3 := hB2.trans (hb4.mono hB2.size); clear k0 k1 hb4 d0 d1 hB2 hb3 kz2) | (go_at_call 12; refine (booksFind (hK.below hB3) (by omega) hn seq).mono ?_; rintro e w4 ⟨rfl, hb6⟩; rw [HFD.out]; have hb7 := Lib.hid (hb5.out.trans (hb6.mono hb5.out.size)); clear hb6 hb5 hB3 g0 g1 kz3; simp only [Offer.val]) | (go_at_call 18; refine (HUP.out _).mono ?_; rintro e w6 ⟨rfl, hb8⟩; obtain ⟨M6, hB6, l6, l7⟩ := doMem_of (o := ⟨sq, to, s, y, left, a, d⟩) hb7.out hb8; obtain ⟨⟨p0, p1⟩, p2, p3, p4, p5, p6⟩ := M6.cells; have M6 := Lib.hid M6; have hB6 := Lib.hid hB6; have h6 := h.below hB6.out; clear hb7 hb8) | (go_at_call 19; refine (pay_or h6 taker to y given HT.out HMO.out.1 HOT.out HMO.out.2.2 HG.out HHas.out.2.1 HHas.out.1).mono ?_; rintro e w8 ⟨A2, v2, hp2, rfl, hC8, h8⟩; have M8 := M6.out.chg hC8 (by simp; omega) (by omega); obtain ⟨⟨r0, r1⟩, -⟩ := M8.cells; have M8 := Lib.hid M8; have HP2 := Lib.hid hp2; have hC8 := Lib.hid ((Chg.of_below (S := [m]) hB6.out).trans hC8 (fun x hx _ => hx)); have hK8 := hK.chg hC8.out (by simpa using HD.out.2.1) (fun k hk => by simpa using (HD.out.2.2 k hk).2); clear hp2 h6 p0 p1 p2 p3 p4 p5 p6 M6) | (go_at_call 20; refine (booksTake hK8 (by omega) hn seq n HLF.out).mono ?_; rintro e w9 ⟨rfl, S, sl', hC9, hS, hK9⟩; have M9 := M8.out.chg hC9 (fun k hk => (hS k hk).elim (fun e => e ▸ hbbl) (fun e => hK.own_lt e)) (by omega); obtain ⟨z0, z1, z2, z3, z4, zf⟩ := fillMem M9.hF; have HF9 := Lib.hid M9.hF; have h9 := h8.chg hC9 (fun hk => (hS b hk).elim (fun e => HD.out.1 e.symm) (fun e => (HD.out.2.2 b e).1 rfl)) (fun hk => (hS m hk).elim (fun e => HD.out.2.1 e.symm) (fun e => (HD.out.2.2 m e).2 rfl)); clear M8 M9 r0 r1 h8))
  refine bodyPost_ret (v := .tuple #[fillV seq taker to n given, .int .i64 0]) ?_ rfl ⟨rfl, A2, S ++ [m], sl', HP2.out, ?_, ?_, ?_, ?_⟩
  · simp [results, Try.results7, go_sem, z0, z1, z2, z3, z4]
  · iterate 5 refine Chg.set ?_ (.inr (by omega)) _ _
    exact (hC8.out.mono (S' := S ++ [m]) (fun x hx _ => by simp at hx; simp [hx])).trans hC9 (fun x hx _ => by simp [hx])
  · intro k hk
    rcases List.mem_append.1 hk with h' | h'
    · exact .inr (hS k h')
    · exact .inl (by simpa using h')
  · refine h9.chg (S := [w.heap.size + 1]) ?_ (by simp; omega) (by simp; omega)
    iterate 5 refine Chg.set ?_ (.inl (by simp)) _ _
    exact Chg.refl _ _
  · refine hK9.chg (S := [w.heap.size + 1]) ?_ (by simp; omega) ?_
    · iterate 5 refine Chg.set ?_ (.inl (by simp)) _ _
      exact Chg.refl _ _
    · intro k hk; simpa using hK9.own_ne HF9.out k hk
end Go.Proofs.Ytelcdiceongfdaa
end
section
namespace Go.Proofs.Ytelcdiceongfdaa
open Go.RowKit Go.BigFrame
set_option maxRecDepth 100000

theorem disj_of {w : World} {b m bb : Nat} {A : Ledger} {K : Book} {sl : Value} (h : LedgerAt w b m A) (hK : BookAt w bb K sl) : bb ≠ b ∧ bb ≠ m ∧ ∀ k, sl.ownBlock = some k → k ≠ b ∧ k ≠ m := by
  obtain ⟨es, clk, hm, -⟩ := h.map
  have hb := h.blk
  refine ⟨?_, ?_, fun k hk => ?_⟩
  · rintro rfl; rw [hK.blk] at hb; simp at hb
  · rintro rfl; rw [hK.blk] at hm; simp at hm
  · rcases hK.row.2 with ⟨e, _⟩ | ⟨g', cap, cur, e, _, hg, _⟩
    · rw [e] at hk; cases hk
    · rw [e] at hk
      simp only [Value.ownBlock, Option.some.injEq] at hk
      subst hk
      constructor
      · rintro rfl; rw [hg] at hb; simp at hb
      · rintro rfl; rw [hg] at hm; simp at hm

def LA : Ledger := ((((((Ledger.empty.openP 1).2.openP 2).2.openP 3).2).trust 3 2 1 9).2.trust 2 1 2 7).2
def LO : Offer := ⟨1, 2, 1, 2, 5, 3, 2⟩
def LB : Book := ((⟨[], 1⟩ : Book).place LO).2.2
theorem la_has1 : LA.has 1 = true := by decide +kernel
theorem la_has2 : LA.has 2 = true := by decide +kernel
theorem la_has3 : LA.has 3 = true := by decide +kernel
theorem lb_is : LB = ⟨[LO], 2⟩ := by decide +kernel
theorem lb_next : 1 ≤ LB.next := by rw [lb_is]; decide
theorem lb_len : LB.l.length ≤ 1000000000000 := by rw [lb_is]; decide
theorem lb_left : ∀ k, k < LB.l.length → 0 ≤ (LB.l[k]!).left ∧ (LB.l[k]!).left ≤ 9223372036854775807 := by
  rw [lb_is]
  intro k hk
  obtain rfl : k = 0 := by simpa using hk
  decide
theorem lo_may : LO.may = true := by decide +kernel
theorem lo_small : small LO := ⟨by decide, by decide⟩
theorem most_sell : MostIs LA 2 3 1 9 := by
  have h : (routeF 2 3 9223372036854775807 5 ⟨rooms LA 1, 0, []⟩).map (·.got) = some 9 := by decide +kernel
  obtain ⟨r, hr, e⟩ := Option.map_eq_some_iff.1 h
  exact ⟨5, r, hr, e.symm⟩
theorem most_buy : MostIs LA 1 2 2 7 := by
  have h : (routeF 1 2 9223372036854775807 5 ⟨rooms LA 2, 0, []⟩).map (·.got) = some 7 := by decide +kernel
  obtain ⟨r, hr, e⟩ := Option.map_eq_some_iff.1 h
  exact ⟨5, r, hr, e.symm⟩
theorem live_find {w : World} {bb : Nat} {sl : Value} (hK : BookAt w bb LB sl) : Calls Try.prog 12 #[.pointer (some ⟨bb, 0, none⟩), .int .u64 (1 : Nat)] w (FindPost w LO true) := by
  have e1 : Book.findD LB.l 1 = LO := by decide +kernel
  have e2 : Book.has LB.l 1 = true := by decide +kernel
  have := booksFind hK (by rw [lb_is]; decide) lb_next 1
  rw [e1, e2] at this
  exact this
theorem live_find7 {w : World} {bb : Nat} {sl : Value} (hK : BookAt w bb LB sl) : Calls Try.prog 12 #[.pointer (some ⟨bb, 0, none⟩), .int .u64 (7 : Nat)] w (FindPost w Offer.zero false) := by
  have e1 : Book.findD LB.l 7 = Offer.zero := by decide +kernel
  have e2 : Book.has LB.l 7 = false := by decide +kernel
  have := booksFind hK (by rw [lb_is]; decide) lb_next 7
  rw [e1, e2] at this
  exact this
theorem live_may {w : World} {b m bb : Nat} {sl : Value} (h : LedgerAt w b m LA) (hK : BookAt w bb LB sl) (want most x : Int) (hw : 0 < want) (hm : 1 ≤ most ∧ most ≤ 9223372036854775807) (hx : leastI want 5 9 (fitsI (min (min most 7) 1099511627776) 3 2) = x) :
    Calls Try.prog 8 #[.agg #[.pointer (some ⟨b, 0, none⟩), .pointer (some ⟨bb, 0, none⟩)], .int .u64 (1 : Nat), .int .u8 (1 : Nat), .int .u8 (3 : Nat), .int .i64 want, .int .i64 most] w (IntPost w x) := by
  subst hx
  refine may_yes h bb LO (.inl lo_small) lo_may 1 1 3 want most (by decide) (by decide) hm (ng := 9) (.inr ⟨by decide, most_sell⟩) ⟨7, most_buy, rfl⟩ ?_
  intro W hW
  exact trade_yes (h.below hW) (some ⟨bb, 0, none⟩) 1 1 3 want most LO (fun W' hW' => live_find ((hK.below hW).below hW')) (by decide) (by decide) (by decide) (by decide) la_has2 la_has1 la_has3 hw (by omega)
theorem live_same {w : World} {b m bb : Nat} {sl : Value} (_h : LedgerAt w b m LA) (hK : BookAt w bb LB sl) (want most : Int) :
    Calls Try.prog 8 #[.agg #[.pointer (some ⟨b, 0, none⟩), .pointer (some ⟨bb, 0, none⟩)], .int .u64 (1 : Nat), .int .u8 (2 : Nat), .int .u8 (3 : Nat), .int .i64 want, .int .i64 most] w (IntPost w 0) :=
  may_no _ _ LO 1 2 3 want most fun W hW => trade_same _ (some ⟨bb, 0, none⟩) 1 2 3 want most LO (fun W' hW' => live_find ((hK.below hW).below hW')) (by decide) (by decide) (by decide)
theorem live_none {w : World} {b m bb : Nat} {sl : Value} (_h : LedgerAt w b m LA) (hK : BookAt w bb LB sl) (want most : Int) :
    Calls Try.prog 8 #[.agg #[.pointer (some ⟨b, 0, none⟩), .pointer (some ⟨bb, 0, none⟩)], .int .u64 (7 : Nat), .int .u8 (1 : Nat), .int .u8 (3 : Nat), .int .i64 want, .int .i64 most] w (IntPost w 0) :=
  may_no _ _ Offer.zero 7 1 3 want most fun _W hW => trade_none _ (some ⟨bb, 0, none⟩) 7 1 3 want most Offer.zero (fun _W' hW' => live_find7 ((hK.below hW).below hW'))
theorem live_do5 {w : World} {b m bb : Nat} {sl : Value} (h : LedgerAt w b m LA) (hK : BookAt w bb LB sl) :
    Calls Try.prog 7 #[.agg #[.pointer (some ⟨b, 0, none⟩), .pointer (some ⟨bb, 0, none⟩)], .int .u64 (1 : Nat), .int .u8 (1 : Nat), .int .u8 (3 : Nat), .int .i64 5] w (DoPost w (fillV 0 0 0 0 0) 1) :=
  do_more h hK lb_next lb_len 1 1 3 5 4 (by decide) (by decide) fun W hW => live_may (h.below hW) (hK.below hW) 5 1099511627776 4 (by decide) (by decide) (by decide)
theorem live_do3 {w : World} {b m bb : Nat} {sl : Value} (h : LedgerAt w b m LA) (hK : BookAt w bb LB sl) :
    Calls Try.prog 7 #[.agg #[.pointer (some ⟨b, 0, none⟩), .pointer (some ⟨bb, 0, none⟩)], .int .u64 (1 : Nat), .int .u8 (1 : Nat), .int .u8 (3 : Nat), .int .i64 (3 : Nat)] w (DonePost w b m bb sl LA LB LO 1 1 3 3 5) :=
  do_ok h hK lb_next lb_len lb_left (disj_of h hK) LO 1 1 3 3 5 3 (by decide +kernel) lo_may (by decide) (by decide) (by decide) (fun W => ratsUp_ok 3 3 2 (fun hb => absurd hb (by decide)) (by decide) (by decide) (by decide) W) (by decide) (by decide) (by decide) (by decide) la_has2 la_has1 la_has3 fun W hW => live_may (h.below hW) (hK.below hW) 3 1099511627776 3 (by decide) (by decide) (by decide)
end Go.Proofs.Ytelcdiceongfdaa
end
section
namespace Go.Proofs.Ytelcdiceongfdaa
open Go.RowKit Go.BigFrame
set_option maxRecDepth 100000

def A1 : Ledger := (Ledger.empty.openP 1).2
def A2 : Ledger := (A1.openP 2).2
def A3 : Ledger := (A2.openP 3).2
def A4 : Ledger := (A3.trust 3 2 1 9).2
theorem below_chg {w W W' : World} {S : List Nat} (hB : Below w.heap.size w W) (hC : Chg S W W') (hS : ∀ k ∈ S, w.heap.size ≤ k) : Below w.heap.size w W' :=
  ⟨hC.os.trans hB.os, hC.tape.trans hB.tape, hC.output.trans hB.output, Nat.le_trans hB.size hC.size, fun k hk => (hC.block k (by have := hB.size; omega) (fun hm => absurd (hS k hm) (by omega))).trans (hB.block k hk)⟩
theorem live_new (w : World) : Calls Try.prog 5 #[] w fun e w' => ∃ b m, e = .returned (.pointer (some ⟨b, 0, none⟩)) ∧ Below w.heap.size w w' ∧ w.heap.size ≤ b ∧ w.heap.size ≤ m ∧ LedgerAt w' b m .empty :=
  (ledgersNew w).mono fun e w' ⟨he, hb, _, h⟩ => ⟨_, _, he, hb, by omega, by omega, h⟩
theorem live_open1 {w0 w : World} {b m : Nat} (h : LedgerAt w b m .empty) (hB : Below w0.heap.size w0 w) (hb : w0.heap.size ≤ b) : Calls Try.prog 27 #[.pointer (some ⟨b, 0, none⟩), .int .u8 (1 : Nat)] w fun e w' => (∃ v, e = .returned v) ∧ LedgerAt w' b m A1 ∧ Below w0.heap.size w0 w' :=
  (open_any h 1 (by decide)).mono fun e w' ⟨he, hC, h'⟩ => ⟨⟨_, he⟩, h', below_chg hB hC (by simpa using hb)⟩
theorem live_open2 {w0 w : World} {b m : Nat} (h : LedgerAt w b m A1) (hB : Below w0.heap.size w0 w) (hb : w0.heap.size ≤ b) : Calls Try.prog 27 #[.pointer (some ⟨b, 0, none⟩), .int .u8 (2 : Nat)] w fun e w' => (∃ v, e = .returned v) ∧ LedgerAt w' b m A2 ∧ Below w0.heap.size w0 w' :=
  (open_any h 2 (by decide)).mono fun e w' ⟨he, hC, h'⟩ => ⟨⟨_, he⟩, h', below_chg hB hC (by simpa using hb)⟩
theorem live_open3 {w0 w : World} {b m : Nat} (h : LedgerAt w b m A2) (hB : Below w0.heap.size w0 w) (hb : w0.heap.size ≤ b) : Calls Try.prog 27 #[.pointer (some ⟨b, 0, none⟩), .int .u8 (3 : Nat)] w fun e w' => (∃ v, e = .returned v) ∧ LedgerAt w' b m A3 ∧ Below w0.heap.size w0 w' :=
  (open_any h 3 (by decide)).mono fun e w' ⟨he, hC, h'⟩ => ⟨⟨_, he⟩, h', below_chg hB hC (by simpa using hb)⟩
theorem live_trust1 {w0 w : World} {b m : Nat} (h : LedgerAt w b m A3) (hB : Below w0.heap.size w0 w) (hb : w0.heap.size ≤ m) : Calls Try.prog 28 #[.pointer (some ⟨b, 0, none⟩), .int .u8 (3 : Nat), .int .u8 (2 : Nat), .int .u8 (1 : Nat), .int .i64 9] w fun e w' => (∃ v, e = .returned v) ∧ LedgerAt w' b m A4 ∧ Below w0.heap.size w0 w' :=
  (trust_any h 3 2 1 (by decide) (by decide) (by decide) 9).mono fun e w' ⟨he, hC, h'⟩ => ⟨⟨_, he⟩, h', below_chg hB hC (by simpa using hb)⟩
theorem live_trust2 {w0 w : World} {b m : Nat} (h : LedgerAt w b m A4) (hB : Below w0.heap.size w0 w) (hb : w0.heap.size ≤ m) : Calls Try.prog 28 #[.pointer (some ⟨b, 0, none⟩), .int .u8 (2 : Nat), .int .u8 (1 : Nat), .int .u8 (2 : Nat), .int .i64 7] w fun e w' => (∃ v, e = .returned v) ∧ LedgerAt w' b m LA ∧ Below w0.heap.size w0 w' :=
  (trust_any h 2 1 2 (by decide) (by decide) (by decide) 7).mono fun e w' ⟨he, hC, h'⟩ => ⟨⟨_, he⟩, h', below_chg hB hC (by simpa using hb)⟩
theorem live_books {w0 w : World} {b m : Nat} (h : LedgerAt w b m LA) (hB : Below w0.heap.size w0 w) : Calls Try.prog 6 #[] w fun e w' => ∃ bb, e = .returned (.pointer (some ⟨bb, 0, none⟩)) ∧ LedgerAt w' b m LA ∧ BookAt w' bb ⟨[], 1⟩ (.slice none 0 0) ∧ Below w0.heap.size w0 w' ∧ w0.heap.size ≤ bb :=
  (booksNew w).mono fun _e _w' ⟨he, hb, _, hk⟩ => ⟨_, he, h.below hb, hk, hB.trans (hb.mono hB.size), hB.size⟩
theorem live_place {w0 w : World} {b m bb : Nat} (h : LedgerAt w b m LA) (hK : BookAt w bb ⟨[], 1⟩ (.slice none 0 0)) (hB : Below w0.heap.size w0 w) (hb : w0.heap.size ≤ bb) :
    Calls Try.prog 29 #[.pointer (some ⟨bb, 0, none⟩), .int .u8 (2 : Nat), .int .u8 (1 : Nat), .int .u8 (2 : Nat), .int .i64 5, .agg #[.int .i64 3, .int .i64 2]] w fun e w' => (∃ v, e = .returned v) ∧ LedgerAt w' b m LA ∧ ∃ sl, BookAt w' bb LB sl ∧ Below w0.heap.size w0 w' ∧ ∀ k, sl.ownBlock = some k → w0.heap.size ≤ k :=
  (booksPlace hK (by decide) LO ⟨by decide, by decide, by decide, by decide, by decide, by decide, by decide, by decide, by decide, by decide⟩ (by decide)).mono fun e w' ⟨he, S, sl', hC, hS, hK', hO⟩ => by
    obtain ⟨d1, d2, d3⟩ := disj_of h hK
    have hz := hB.size
    refine ⟨⟨_, he⟩, h.chg hC (fun hk => (hS b hk).elim (fun e => d1 e.symm) (fun e => by cases e)) (fun hk => (hS m hk).elim (fun e => d2 e.symm) (fun e => by cases e)), sl', hK', below_chg hB hC (fun k hk => (hS k hk).elim (fun e => by omega) (fun e => by cases e)), fun k hk => (hO k hk).elim (fun e => by cases e) (fun e => by omega)⟩

/-- the house in memory -/
structure LiveAt (W : World) (b m bb : Nat) (sl : Value) (g : Nat) : Prop where
  led : LedgerAt W b m LA
  book : BookAt W bb LB sl
  blk : W.heap[g]? = some (.cells #[.pointer (some ⟨b, 0, none⟩), .pointer (some ⟨bb, 0, none⟩)] 29 (0, 0))
theorem LiveAt.below {W W' : World} {b m bb : Nat} {sl : Value} {g : Nat} (h : LiveAt W b m bb sl g) (hb : Below W.heap.size W W') : LiveAt W' b m bb sl g :=
  ⟨h.led.below hb, h.book.below hb, (hb.block _ (lt_of_block h.blk)).trans h.blk⟩
theorem LiveAt.new {W : World} {b m bb : Nat} {sl : Value} (h : LedgerAt W b m LA) (hK : BookAt W bb LB sl) : LiveAt (W.alloc (.cells #[.pointer (some ⟨b, 0, none⟩), .pointer (some ⟨bb, 0, none⟩)] 29)) b m bb sl W.heap.size :=
  have hb : Below W.heap.size W (W.alloc (.cells #[.pointer (some ⟨b, 0, none⟩), .pointer (some ⟨bb, 0, none⟩)] 29)) := (Below.refl _ _).alloc (Nat.le_refl _) _
  ⟨h.below hb, hK.below hb, alloc_new W _⟩
theorem LiveAt.alloc {W : World} {b m bb : Nat} {sl : Value} {g : Nat} (h : LiveAt W b m bb sl g) (o : Obj) : LiveAt (W.alloc o) b m bb sl g := h.below ((Below.refl _ _).alloc (Nat.le_refl _) _)

set_option maxHeartbeats 4000000 in
theorem lives_true (w : World) : Calls Try.prog 9 #[] w fun e w' => e = .returned (.bool true) ∧ Below w.heap.size w w' := by
  go_enter Try.func9, Try.ntmps9
  go_wp2_with (first | (go_at_call 5; refine (live_new _).mono ?_; rintro e w1 ⟨b, m, rfl, B1, hb, hm, h1⟩; have B1 := Lib.hid B1; have hb := Lib.hid hb; have hm := Lib.hid hm) | (go_at_call 27; refine (live_open1 h1 B1.out hb.out).mono ?_; rintro e w2 ⟨⟨v2, rfl⟩, h2, B2⟩; have B2 := Lib.hid B2; clear h1 B1) | (go_at_call 27; refine (live_open2 h2 B2.out hb.out).mono ?_; rintro e w3 ⟨⟨v3, rfl⟩, h3, B3⟩; have B3 := Lib.hid B3; clear h2 B2) | (go_at_call 27; refine (live_open3 h3 B3.out hb.out).mono ?_; rintro e w4 ⟨⟨v4, rfl⟩, h4, B4⟩; have B4 := Lib.hid B4; clear h3 B3) | (go_at_call 28; refine (live_trust1 h4 B4.out hm.out).mono ?_; rintro e w5 ⟨⟨v5, rfl⟩, h5, B5⟩; have B5 := Lib.hid B5; clear h4 B4) | (go_at_call 28; refine (live_trust2 h5 B5.out hm.out).mono ?_; rintro e w6 ⟨⟨v6, rfl⟩, h6, B6⟩; have B6 := Lib.hid B6; clear h5 B5) | (go_at_call 6; refine (live_books h6 B6.out).mono ?_; rintro e w7 ⟨bb, rfl, h7, k7, B7, hbb⟩; have B7 := Lib.hid B7; have hbb := Lib.hid hbb; clear h6 B6) | (go_at_call 29; refine (live_place h7 k7 B7.out hbb.out).mono ?_; rintro e w8 ⟨⟨v8, rfl⟩, h8, sl8, k8, B8, ho8⟩; have B8 := Lib.hid B8; have ho8 := Lib.hid ho8; have h8 := LiveAt.new h8 k8; clear h7 k7 k8 B7) | (go_at_call 8; refine (live_may h8.led h8.book 9 100 4 (by decide) (by decide) (by decide)).mono ?_; rintro e w9 ⟨rfl, hb9⟩; have h9 := h8.below hb9; obtain ⟨p0, p1⟩ := houseMem h9.blk; have B9 := Lib.hid ((B8.out.alloc B8.out.size _).trans (hb9.mono (by have := B8.out.size; simp; omega))); clear h8 hb9 B8) | (go_at_call 8; refine (live_may h9.led h9.book 9 5 3 (by decide) (by decide) (by decide)).mono ?_; rintro e w10 ⟨rfl, hb10⟩; have h10 := h9.below hb10; obtain ⟨q0, q1⟩ := houseMem h10.blk; have B10 := Lib.hid (B9.out.trans (hb10.mono B9.out.size)); clear h9 hb10 p0 p1 B9) | (go_at_call 8; refine (live_same h10.led h10.book 9 9).mono ?_; rintro e w11 ⟨rfl, hb11⟩; have h11 := h10.below hb11; obtain ⟨p0, p1⟩ := houseMem h11.blk; have B11 := Lib.hid (B10.out.trans (hb11.mono B10.out.size)); clear h10 hb11 q0 q1 B10) | (go_at_call 8; refine (live_none h11.led h11.book 9 9).mono ?_; rintro e w12 ⟨rfl, hb12⟩; have h12 := h11.below hb12; obtain ⟨q0, q1⟩ := houseMem h12.blk; have B12 := Lib.hid (B11.out.trans (hb12.mono B11.out.size)); clear h11 hb12 p0 p1 B11) | (go_at_call 7; refine (live_do5 h12.led h12.book).mono ?_; rintro e w13 ⟨rfl, hb13⟩; have h13 := h12.below hb13; obtain ⟨p0, p1⟩ := houseMem h13.blk; have B13 := Lib.hid (B12.out.trans (hb13.mono B12.out.size)); have s13 := lt_of_block h13.blk; have h14 := h13.alloc (.cells #[.int .u64 0, .int .u8 0, .int .u8 0, .int .i64 0, .int .i64 0] 41); clear h12 h13 hb13 q0 q1 B12) | (go_at_call 7; refine (live_do3 h14.led h14.book).mono ?_; rintro e w15 ⟨rfl, A5, A6, S, sl9, -, -, hC, hS, -, -⟩; have B15 := Lib.hid (below_chg (B13.out.alloc B13.out.size _) hC (fun k hk => (hS k hk).elim (fun e => e ▸ hm.out) (fun e => e.elim (fun e => e ▸ hbb.out) (fun e => ho8.out k e)))); clear h14 p0 p1 hC hS B13))
  go_ret
  exact ⟨rfl, B15.out.alloc B15.out.size _⟩
end Go.Proofs.Ytelcdiceongfdaa
end
section
namespace Go.Proofs.Ytelcdiceongfdaa
open Go.RowKit Go.BigFrame
set_option maxRecDepth 100000

/-- offers in memory -/
structure OffersIn (w : World) (b off n : Nat) (f : Nat → Offer) : Prop where
  c0 : ∀ i, i < n → w.cell? ⟨b, off + i * 7, none⟩ = some (.int .u64 (f i).seq)
  c1 : ∀ i, i < n → w.cell? ⟨b, off + i * 7 + 1, none⟩ = some (.int .u8 (f i).owner)
  c2 : ∀ i, i < n → w.cell? ⟨b, off + i * 7 + 2, none⟩ = some (.int .u8 (f i).sell)
  c3 : ∀ i, i < n → w.cell? ⟨b, off + i * 7 + 3, none⟩ = some (.int .u8 (f i).buy)
  c4 : ∀ i, i < n → w.cell? ⟨b, off + i * 7 + 4, none⟩ = some (.int .i64 (f i).left)
  c5 : ∀ i, i < n → w.cell? ⟨b, off + i * 7 + 5, none⟩ = some (.int .i64 (f i).num)
  c6 : ∀ i, i < n → w.cell? ⟨b, off + i * 7 + 6, none⟩ = some (.int .i64 (f i).den)
  typed : ∀ i, i < n → (f i).typed
theorem OffersIn.below {w W : World} {b off n : Nat} {f : Nat → Offer} (h : OffersIn w b off n f) (hb : Below w.heap.size w W) : OffersIn W b off n f := by
  have q : ∀ (o : Nat) (v : Value), w.cell? ⟨b, o, none⟩ = some v → W.cell? ⟨b, o, none⟩ = some v := fun o v hv => (hb.cell (p := ⟨b, o, none⟩) (lt_of_cell hv)).trans hv
  exact ⟨fun i hi => q _ _ (h.c0 i hi), fun i hi => q _ _ (h.c1 i hi), fun i hi => q _ _ (h.c2 i hi), fun i hi => q _ _ (h.c3 i hi), fun i hi => q _ _ (h.c4 i hi), fun i hi => q _ _ (h.c5 i hi), fun i hi => q _ _ (h.c6 i hi), h.typed⟩
/-- a house in memory that a call has made -/
def HousePost (w : World) (A : Ledger) (K : Book) (e : Ending) (w' : World) : Prop :=
  ∃ b m bb sl, e = .returned (.agg #[.pointer (some ⟨b, 0, none⟩), .pointer (some ⟨bb, 0, none⟩)]) ∧ Below w.heap.size w w' ∧ LedgerAt w' b m A ∧ BookAt w' bb K sl ∧ w.heap.size ≤ b ∧ w.heap.size ≤ m ∧ w.heap.size ≤ bb ∧ ∀ k, sl.ownBlock = some k → w.heap.size ≤ k

/-- the maker's own blocks, and the book as far as it is made -/
structure MakeMem (w W : World) (v1 v2 : Value) (K : Book) (sl : Value) : Prop where
  box : W.heap[w.heap.size]? = some (.cells #[v1, v2] 50 (0, 0))
  res : W.heap[w.heap.size + 1]? = some (.cells #[.pointer none, .pointer none] 29 (0, 0))
  book : BookAt W (w.heap.size + 2) K sl
  own : ∀ k, sl.ownBlock = some k → w.heap.size + 2 ≤ k
  bel : Below w.heap.size w W
theorem MakeMem.below {w W W' : World} {v1 v2 : Value} {K : Book} {sl : Value} (h : MakeMem w W v1 v2 K sl) (hb : Below W.heap.size W W') : MakeMem w W' v1 v2 K sl :=
  ⟨(hb.block _ (lt_of_block h.box)).trans h.box, (hb.block _ (lt_of_block h.res)).trans h.res, h.book.below hb, h.own, h.bel.trans (hb.mono h.bel.size)⟩
theorem MakeMem.place {w W W' : World} {v1 v2 : Value} {K K' : Book} {sl sl' : Value} {S : List Nat} (h : MakeMem w W v1 v2 K sl) (hC : Chg S W W') (hS : ∀ k ∈ S, k = w.heap.size + 2 ∨ sl.ownBlock = some k) (hK : BookAt W' (w.heap.size + 2) K' sl') (hO : ∀ k, sl'.ownBlock = some k → sl.ownBlock = some k ∨ W.heap.size ≤ k) : MakeMem w W' v1 v2 K' sl' := by
  have hS2 : ∀ k ∈ S, w.heap.size + 2 ≤ k := fun k hk => (hS k hk).elim (fun e => by omega) (fun e => h.own k e)
  have hlt := lt_of_block h.res
  refine ⟨(hC.block _ (lt_of_block h.box) (fun hm => absurd (hS2 _ hm) (by omega))).trans h.box, (hC.block _ hlt (fun hm => absurd (hS2 _ hm) (by omega))).trans h.res, hK, fun k hk => (hO k hk).elim (h.own k) (fun e => by have := h.book.lt; omega), below_of_chg h.bel hC (fun k hk => by have := hS2 k hk; omega)⟩
theorem MakeMem.cells {w W : World} {v1 v2 : Value} {K : Book} {sl : Value} (h : MakeMem w W v1 v2 K sl) :
    (W.cell? ⟨w.heap.size, 0, none⟩ = some v1 ∧ W.cell? ⟨w.heap.size, 1, none⟩ = some v2) ∧ (W.cell? ⟨w.heap.size + 1, 0, none⟩ = some (.pointer none) ∧ W.cell? ⟨w.heap.size + 1, 1, none⟩ = some (.pointer none)) ∧ (∀ j, W.frozen? ⟨w.heap.size + 1, j, none⟩ = false) := by
  have q : ∀ j v, (#[v1, v2] : Array Value)[j]? = some v → W.cell? ⟨w.heap.size, j, none⟩ = some v := fun j v hv => (cell_of_row _ _ j _ _ _ h.box).trans hv
  have q2 : ∀ j v, (#[.pointer none, .pointer none] : Array Value)[j]? = some v → W.cell? ⟨w.heap.size + 1, j, none⟩ = some v := fun j v hv => (cell_of_row _ _ j _ _ _ h.res).trans hv
  exact ⟨⟨q 0 _ rfl, q 1 _ rfl⟩, ⟨q2 0 _ rfl, q2 1 _ rfl⟩, fun j => by simp [World.frozen?, h.res]⟩

theorem make_init {w w1 : World} {v1 v2 : Value}
    (hb : Below ((w.alloc (.cells #[v1, v2] 50)).alloc (.cells #[.pointer none, .pointer none] 29)).heap.size ((w.alloc (.cells #[v1, v2] 50)).alloc (.cells #[.pointer none, .pointer none] 29)) w1)
    (hk : BookAt w1 ((w.alloc (.cells #[v1, v2] 50)).alloc (.cells #[.pointer none, .pointer none] 29)).heap.size ⟨[], 1⟩ (.slice none 0 0)) : MakeMem w w1 v1 v2 ⟨[], 1⟩ (.slice none 0 0) := by
  obtain ⟨k0, k1, kz⟩ := two_blocks hb
  refine ⟨k0, k1, ?_, (fun k hk => by cases hk), (((Below.refl _ _).alloc (Nat.le_refl _) _).alloc (by simp) _).trans (hb.mono (by simp; omega))⟩
  have e : ((w.alloc (.cells #[v1, v2] 50)).alloc (.cells #[.pointer none, .pointer none] 29)).heap.size = w.heap.size + 2 := by simp
  rw [e] at hk
  exact hk

set_option maxHeartbeats 4000000 in
theorem made10 {w : World} {ad1 ad2 : Option Addr} {b1 o1 n1 c1 b2 o2 n2 c2 : Nat} {f : Nat → Act} {g : Nat → Offer} (had1 : 0 < n1 → ad1 = some ⟨b1, o1, none⟩) (h1 : ActsIn w b1 o1 n1 f) (hn1 : n1 ≤ 1099511627776)
    (had2 : 0 < n2 → ad2 = some ⟨b2, o2, none⟩) (h2 : OffersIn w b2 o2 n2 g) (hn2 : n2 ≤ 1099511627776) :
    Calls Try.prog 11 #[.agg #[.slice ad1 n1 c1, .slice ad2 n2 c2]] w (HousePost w (madeL f n1) (madeB g n2)) := by
  have HAD1 := Lib.hid had1; clear had1
  have HAD2 := Lib.hid had2; clear had2
  have HN1 := Lib.hid hn1; clear hn1
  go_enter Try.func11, Try.ntmps11
  go_wp2_with (go_at_call 6; refine (booksNew _).mono ?_; rintro e w1 ⟨rfl, hb1, hz1, hk1⟩; have HB1 := Lib.hid hb1; have HK1 := Lib.hid hk1; have HZ1 := Lib.hid hz1; clear hb1 hk1 hz1)
  have HM1 := Lib.hid (make_init HB1.out HK1.out)
  clear HB1 HK1 HZ1
  go_loopg [4] n2 (fun gg s4 wr => ∃ k : Nat, k ≤ n2 ∧ n2 - k ≤ gg ∧ s4 = .int .i64 k ∧ ∃ sl, Aside (MakeMem w wr (.slice ad1 n1 c1) (.slice ad2 n2 c2) (madeB g k) sl))
  case atStart => exact ⟨0, by omega, by omega, rfl, _, HM1.out⟩
  case round =>
    obtain ⟨k, hk, hgg, rfl, sl, HM⟩ := hrel
    obtain ⟨⟨a0, a1⟩, ⟨r0, r1⟩, rf⟩ := HM.out.cells
    by_cases hlt : k < n2
    · obtain rfl := HAD2.out (by omega)
      have hA := h2.below HM.out.bel
      have h0 := hA.c0 k hlt
      have h1' := hA.c1 k hlt
      have h2' := hA.c2 k hlt
      have h3 := hA.c3 k hlt
      have h4 := hA.c4 k hlt
      have h5 := hA.c5 k hlt
      have h6 := hA.c6 k hlt
      have ty := hA.typed k hlt
      have hs := Lib.hid (show madeB g (k + 1) = ((madeB g k).place (g k)).2.2 from rfl)
      have hfine := madeB_fine g k
      have hN1 := hfine.next1
      have hN2 := hfine.nextN
      have ty2 : Offer.typed { (g k) with seq := (madeB g k).next } := ⟨by show (madeB g k).next < _; omega, ty.owner, ty.sell, ty.buy, ty.left0, ty.left1, ty.num0, ty.num1, ty.den0, ty.den1⟩
      have hplace := Lib.hid (fun (o : Obj) => booksPlace (HM.out.below ((Below.refl _ _).alloc (Nat.le_refl _) o)).book hN1 (g k) ty2 (by omega))
      clear hA hfine ty2 hN1 hN2
      generalize g k = x at *
      obtain ⟨sq, p, s, y, left, a, d⟩ := x
      dsimp only at *
      have hsz := HM.out.bel.size
      clear ty
      go_wp2_with (go_at_call 29; refine (hplace.out _).mono ?_; rintro e w2 ⟨rfl, S, sl', hC, hS, hK, hO⟩; have HM2 := Lib.hid ((HM.out.below ((Below.refl _ _).alloc (Nat.le_refl _) _)).place hC hS hK hO); clear hC hS hK hO)
      go_roundg (n2 - (k + 1))
      case measure => omega
      case rel => exact ⟨k + 1, by omega, by omega, by go_num, sl', by rw [hs.out]; exact HM2.out⟩
    · obtain rfl : k = n2 := by omega
      have hsz := HM.out.res
      have hsz := lt_of_block hsz
      have HX := Lib.hid (h1.below HM.out.bel)
      go_wp2_with (go_at_call 30; refine (made3 HAD1.out HX.out HN1.out).mono ?_; rintro e w2 ⟨b, m, rfl, hb2, hb, hm, hl⟩; have HM2 := HM.out.below hb2; obtain ⟨-, ⟨q0, q1⟩, qf⟩ := HM2.cells; have HM2 := Lib.hid HM2; have HL := Lib.hid hl; clear hl)
      have hbk := HM2.out.book.lt
      have hlt2 := lt_of_block HM2.out.res
      have hC : Chg [w.heap.size + 1] w2 ((w2.setCell ⟨w.heap.size + 1, 0, none⟩ (.pointer (some ⟨b, 0, none⟩))).setCell ⟨w.heap.size + 1, 1, none⟩ (.pointer (some ⟨w.heap.size + 2, 0, none⟩))) :=
        Chg.set (Chg.set (Chg.refl _ _) (.inl (by simp)) _ _) (.inl (by simp)) _ _
      refine bodyPost_ret (v := .agg #[.pointer (some ⟨b, 0, none⟩), .pointer (some ⟨w.heap.size + 2, 0, none⟩)]) ?_ rfl ⟨b, m, w.heap.size + 2, sl, rfl, below_of_chg HM2.out.bel hC (by simp), HL.out.chg hC (by simp; omega) (by simp; omega), HM2.out.book.chg hC (by simp) (fun k hk => by have := HM2.out.own k hk; simp; omega), by omega, by omega, by omega, fun k hk => by have := HM2.out.own k hk; omega⟩
      simp [results, Try.results11, go_sem, q0, q1]
end Go.Proofs.Ytelcdiceongfdaa
end
section
namespace Go.Proofs.Ytelcdiceongfdaa
open Go.RowKit Go.BigFrame
set_option maxRecDepth 100000

/-- is there such a trade? -/
def tradeB (A : Ledger) (K : Book) (seq taker to : Nat) (want most : Int) : Bool :=
  Book.has K.l seq && (decide ((Book.findD K.l seq).owner ≠ taker) && (A.has (Book.findD K.l seq).owner && (A.has taker && (A.has to && (decide (0 < want) && decide (0 < most))))))
/-- as much may be filled -/
def MayIs (A : Ledger) (K : Book) (seq taker to : Nat) (want most n : Int) : Prop :=
  (tradeB A K seq taker to want most = false ∧ n = 0) ∨
  (tradeB A K seq taker to want most = true ∧ ∃ ng nf, GoesIs A (Book.findD K.l seq) to ng ∧ FitsIs A (Book.findD K.l seq) taker most nf ∧ n = leastI want (Book.findD K.l seq).left ng nf)
theorem findD_mem {l : List Offer} {s : Nat} (h : Book.has l s = true) : Book.findD l s ∈ l := by
  unfold Book.has at h
  rw [decide_eq_true_eq] at h
  obtain ⟨k, hk, hl⟩ := at_range h
  unfold Book.findD
  rw [if_pos h, hk, Int.toNat_natCast, getElem!_pos l k hl]
  exact List.getElem_mem hl
theorem findD_none {l : List Offer} {s : Nat} (h : Book.has l s = false) : Book.findD l s = Offer.zero := by
  unfold Book.has at h
  rw [decide_eq_false_iff_not] at h
  unfold Book.findD
  rw [if_neg h]

theorem may_all {w : World} {b m : Nat} {A : Ledger} (h : LedgerAt w b m A) {bb : Nat} {K : Book} {sl : Value} (hK : BookAt w bb K sl) {N : Nat} (hf : K.fine N) (HD : DivHigh) (seq taker to : Nat) (want most : Int) (ht : taker < 256) (hto : to < 256) (hm : most ≤ 9223372036854775807) {n : Int} (hn : MayIs A K seq taker to want most n) :
    Calls Try.prog 8 #[.agg #[.pointer (some ⟨b, 0, none⟩), .pointer (some ⟨bb, 0, none⟩)], .int .u64 seq, .int .u8 taker, .int .u8 to, .int .i64 want, .int .i64 most] w (IntPost w n) := by
  have hl := hf.len
  have hF : ∀ W, Below w.heap.size w W → Calls Try.prog 12 #[.pointer (some ⟨bb, 0, none⟩), .int .u64 seq] W (FindPost W (Book.findD K.l seq) (Book.has K.l seq)) := fun W hW => booksFind (hK.below hW) (by omega) hf.next1 seq
  have hFF := fun (W : World) (hW : Below w.heap.size w W) (W' : World) (hW' : Below W.heap.size W W') => hF W' (hW.trans (hW'.mono hW.size))
  rcases hn with ⟨ht0, rfl⟩ | ⟨ht1, ng, nf, hg, hft, rfl⟩
  · refine may_no _ _ (Book.findD K.l seq) seq taker to want most fun W hW => ?_
    have hW1 := h.below hW
    unfold tradeB at ht0
    cases e1 : Book.has K.l seq with
    | false => exact trade_none _ _ seq taker to want most _ fun W' hW' => e1 ▸ hFF W hW W' hW'
    | true =>
      have hF1 : ∀ W', Below W.heap.size W W' → Calls Try.prog 12 #[.pointer (some ⟨bb, 0, none⟩), .int .u64 seq] W' (FindPost W' (Book.findD K.l seq) true) := fun W' hW' => e1 ▸ hFF W hW W' hW'
      have ho := (Offer.may_ends (hf.may _ (findD_mem e1))).1
      generalize Book.findD K.l seq = o at *
      rw [e1, Bool.true_and] at ht0
      by_cases e2 : o.owner = taker
      · exact trade_same _ _ seq taker to want most o hF1 e2 (by omega) ht
      · rw [decide_eq_true e2, Bool.true_and] at ht0
        cases e3 : A.has o.owner with
        | false => exact trade_noOwner hW1 _ seq taker to want most o hF1 e2 (by omega) ht hto e3
        | true =>
          cases e4 : A.has taker with
          | false => exact trade_noTaker hW1 _ seq taker to want most o hF1 e2 (by omega) ht hto e3 e4
          | true =>
            cases e5 : A.has to with
            | false => exact trade_noTo hW1 _ seq taker to want most o hF1 e2 (by omega) ht hto e3 e4 e5
            | true =>
              by_cases e6 : 0 < want
              · by_cases e7 : 0 < most
                · rw [e3, e4, e5, decide_eq_true e6, decide_eq_true e7] at ht0; cases ht0
                · exact trade_noMost hW1 _ seq taker to want most o hF1 e2 (by omega) ht hto e3 e4 e5 e6 (by omega)
              · exact trade_noWant hW1 _ seq taker to want most o hF1 e2 (by omega) ht hto e3 e4 e5 (by omega)
  · unfold tradeB at ht1
    simp only [Bool.and_eq_true, decide_eq_true_eq] at ht1
    obtain ⟨e1, e2, e3, e4, e5, e6, e7⟩ := ht1
    have hmay := hf.may _ (findD_mem e1)
    have ho := (Offer.may_ends hmay).1
    refine may_yes h bb _ (.inr HD) hmay seq taker to want most ht hto ⟨by omega, hm⟩ hg hft fun W hW => ?_
    exact trade_yes (h.below hW) _ seq taker to want most _ (fun W' hW' => e1 ▸ hFF W hW W' hW') e2 (by omega) ht hto e3 e4 e5 e6 e7
theorem may_ex {w : World} {b m : Nat} {A : Ledger} (h : LedgerAt w b m A) {K : Book} {N : Nat} (hf : K.fine N) (seq taker to : Nat) (want most : Int) (ht : taker < 256) (hto : to < 256) : ∃ n, MayIs A K seq taker to want most n ∧ 0 ≤ n ∧ n ≤ 1099511627776 := by
  cases e : tradeB A K seq taker to want most with
  | false => exact ⟨0, .inl ⟨e, rfl⟩, by omega, by omega⟩
  | true =>
    have e1 := e
    unfold tradeB at e1
    simp only [Bool.and_eq_true] at e1
    have ho := (Offer.may_ends (hf.may _ (findD_mem e1.1))).1
    obtain ⟨ng, hg, -, -⟩ := goes_ex h (Book.findD K.l seq) to (by omega) hto
    obtain ⟨nf, hft, -, -⟩ := fits_ex h (Book.findD K.l seq) taker most (by omega) ht
    exact ⟨_, .inr ⟨e, ng, nf, hg, hft, rfl⟩, by unfold leastI; omega, by unfold leastI; omega⟩
theorem MayIs.bd {A : Ledger} {K : Book} {seq taker to : Nat} {want most n : Int} (h : MayIs A K seq taker to want most n) : 0 ≤ n ∧ n ≤ 1099511627776 ∧ n ≤ max want 0 := by
  rcases h with ⟨-, rfl⟩ | ⟨-, ng, nf, -, -, rfl⟩
  · omega
  · unfold leastI; omega
end Go.Proofs.Ytelcdiceongfdaa
end
