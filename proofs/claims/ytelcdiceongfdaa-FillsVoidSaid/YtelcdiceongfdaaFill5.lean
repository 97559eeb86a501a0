/- Walks of the layer fills, fifth part: fills that are not done. -/
import Derived.Test.YtelcdiceongfdaaFill4
import Derived.Test.YtelcdiceongfdaaLCopy
import Derived.Test.YtelcdiceongfdaaBook7
namespace Go.Proofs.Ytelcdiceongfdaa
open Go.RowKit Go.BigFrame
set_option maxRecDepth 100000

abbrev fillV (seq taker to : Nat) (got given : Int) : Value := .agg #[.int .u64 seq, .int .u8 taker, .int .u8 to, .int .i64 got, .int .i64 given]
def DoPost (w : World) (v : Value) (er : Int) (e : Ending) (w' : World) : Prop := e = .returned (.tuple #[v, .int .i64 er]) ∧ Below w.heap.size w w'
theorem NoBook.below {w w' : World} {p : Option Addr} (h : NoBook w p) (hb : Below w.heap.size w w') : NoBook w' p := by
  rcases h with h | ⟨b, hp, hc⟩
  · exact .inl h
  · exact .inr ⟨b, hp, (hb.cell (p := ⟨b, 1, none⟩) (World.block_lt_of_cell? w _ hc)).trans hc⟩
theorem fillMem {w1 : World} {b : Nat} (h : w1.heap[b]? = some (.cells #[.int .u64 0, .int .u8 0, .int .u8 0, .int .i64 0, .int .i64 0] 41 (0, 0))) :
    w1.cell? ⟨b, 0, none⟩ = some (.int .u64 0) ∧ w1.cell? ⟨b, 1, none⟩ = some (.int .u8 0) ∧ w1.cell? ⟨b, 2, none⟩ = some (.int .u8 0) ∧ w1.cell? ⟨b, 3, none⟩ = some (.int .i64 0) ∧ w1.cell? ⟨b, 4, none⟩ = some (.int .i64 0) ∧ ∀ j, w1.frozen? ⟨b, j, none⟩ = false := by
  have q : ∀ j v, (#[.int .u64 0, .int .u8 0, .int .u8 0, .int .i64 0, .int .i64 0] : Array Value)[j]? = some v → w1.cell? ⟨b, j, none⟩ = some v := fun j v hv => (cell_of_row _ _ j _ _ _ h).trans hv
  exact ⟨q 0 _ rfl, q 1 _ rfl, q 2 _ rfl, q 3 _ rfl, q 4 _ rfl, fun j => by simp [World.frozen?, h]⟩

set_option maxHeartbeats 2000000 in
/-- a house without a ledger -/
theorem do_noL {w : World} {L : Option Addr} (hL : NoLedger w L) (B : Option Addr) (seq taker to : Nat) (n : Int) :
    Calls Try.prog 7 #[.agg #[.pointer L, .pointer B], .int .u64 seq, .int .u8 taker, .int .u8 to, .int .i64 n] w (DoPost w (fillV 0 0 0 0 0) 2) := by
  go_enter Try.func7, Try.ntmps7
  go_wp2_with (go_at_call 16; refine (ledgersCopy_no (hL.below (by repeat (first | with_reducible exact Below.refl _ _ | with_reducible assumption | refine Below.drew ?_ | refine Below.setCell ?_ (by first | exact Nat.le_refl _ | omega | (simp; done) | (simp; omega)) _ | refine Below.alloc ?_ (by first | exact Nat.le_refl _ | omega | (simp; done) | (simp; omega)) _ | refine Below.tr ?_ (Nat.le_refl _) (by assumption) | exact Below.refl _ _ | assumption)))).mono ?_; rintro e w' ⟨rfl, rfl⟩)
  refine bodyPost_ret (v := .tuple #[fillV 0 0 0 0 0, .int .i64 2]) ?_ rfl ⟨rfl, ?_⟩
  · simp [results, Try.results7, go_sem]
  · exact (by repeat (first | with_reducible exact Below.refl _ _ | with_reducible assumption | refine Below.drew ?_ | refine Below.setCell ?_ (by first | exact Nat.le_refl _ | omega | (simp; done) | (simp; omega)) _ | refine Below.alloc ?_ (by first | exact Nat.le_refl _ | omega | (simp; done) | (simp; omega)) _ | refine Below.tr ?_ (Nat.le_refl _) (by assumption) | exact Below.refl _ _ | assumption))

set_option maxHeartbeats 2000000 in
/-- a house without a book -/
theorem do_noB {w : World} {b m : Nat} {A : Ledger} (h : LedgerAt w b m A) {B : Option Addr} (hB : NoBook w B) (seq taker to : Nat) (n : Int) :
    Calls Try.prog 7 #[.agg #[.pointer (some ⟨b, 0, none⟩), .pointer B], .int .u64 seq, .int .u8 taker, .int .u8 to, .int .i64 n] w (DoPost w (fillV 0 0 0 0 0) 2) := by
  go_enter Try.func7, Try.ntmps7
  go_wp2_with (first | (go_at_call 16; refine (ledgersCopy (h.below (by repeat (first | with_reducible exact Below.refl _ _ | with_reducible assumption | refine Below.drew ?_ | refine Below.setCell ?_ (by first | exact Nat.le_refl _ | omega | (simp; done) | (simp; omega)) _ | refine Below.alloc ?_ (by first | exact Nat.le_refl _ | omega | (simp; done) | (simp; omega)) _ | refine Below.tr ?_ (Nat.le_refl _) (by assumption) | exact Below.refl _ _ | assumption)))).mono ?_; rintro e w1 ⟨b', m', rfl, hb1, -, -, -⟩; obtain ⟨k0, k1, kz⟩ := two_blocks hb1; obtain ⟨c0, c1⟩ := houseMem k0; obtain ⟨z0, z1, z2, z3, z4, zf⟩ := fillMem k1; have hB1 : Below w.heap.size w w1 := (by repeat (first | with_reducible exact Below.refl _ _ | with_reducible assumption | refine Below.drew ?_ | refine Below.setCell ?_ (by first | exact Nat.le_refl _ | omega | (simp; done) | (simp; omega)) _ | refine Below.alloc ?_ (by first | exact Nat.le_refl _ | omega | (simp; done) | (simp; omega)) _ | refine Below.tr ?_ (Nat.le_refl _) (by assumption) | exact Below.refl _ _ | assumption)); have hN := hB.below hB1; have s0 : w.heap.size < w1.heap.size := (by omega); have s1 : w.heap.size + 1 < w1.heap.size := (by omega); clear k0 k1) | (go_at_call 17; refine (booksCopy_no hN).mono ?_; rintro e w' ⟨rfl, rfl⟩))
  refine bodyPost_ret (v := .tuple #[fillV 0 0 0 0 0, .int .i64 2]) ?_ rfl ⟨rfl, ?_⟩
  · simp [results, Try.results7, go_sem, z0, z1, z2, z3, z4]
  · exact (by repeat (first | with_reducible exact Below.refl _ _ | with_reducible assumption | refine Below.drew ?_ | refine Below.setCell ?_ (by first | exact Nat.le_refl _ | omega | (simp; done) | (simp; omega)) _ | refine Below.alloc ?_ (by first | exact Nat.le_refl _ | omega | (simp; done) | (simp; omega)) _ | refine Below.tr ?_ (Nat.le_refl _) (by assumption) | exact Below.refl _ _ | assumption))

set_option maxHeartbeats 4000000 in
/-- fewer than one -/
theorem do_few {w : World} {b m : Nat} {A : Ledger} (h : LedgerAt w b m A) {bb : Nat} {K : Book} {sl : Value} (hK : BookAt w bb K sl) (hn : 1 ≤ K.next) (hm : K.l.length ≤ 1000000000000) (seq taker to : Nat) (n : Int) (hlt : n < 1) :
    Calls Try.prog 7 #[.agg #[.pointer (some ⟨b, 0, none⟩), .pointer (some ⟨bb, 0, none⟩)], .int .u64 seq, .int .u8 taker, .int .u8 to, .int .i64 n] w (DoPost w (fillV 0 0 0 0 0) 1) := by
  go_enter Try.func7, Try.ntmps7
  go_wp2_with (first | (go_at_call 16; refine (ledgersCopy (h.below (by repeat (first | with_reducible exact Below.refl _ _ | with_reducible assumption | refine Below.drew ?_ | refine Below.setCell ?_ (by first | exact Nat.le_refl _ | omega | (simp; done) | (simp; omega)) _ | refine Below.alloc ?_ (by first | exact Nat.le_refl _ | omega | (simp; done) | (simp; omega)) _ | refine Below.tr ?_ (Nat.le_refl _) (by assumption) | exact Below.refl _ _ | assumption)))).mono ?_; rintro e w1 ⟨b', m', rfl, hb1, -, -, -⟩; obtain ⟨k0, k1, kz⟩ := two_blocks hb1; obtain ⟨c0, c1⟩ := houseMem k0; have hB1 : Below w.heap.size w w1 := (by repeat (first | with_reducible exact Below.refl _ _ | with_reducible assumption | refine Below.drew ?_ | refine Below.setCell ?_ (by first | exact Nat.le_refl _ | omega | (simp; done) | (simp; omega)) _ | refine Below.alloc ?_ (by first | exact Nat.le_refl _ | omega | (simp; done) | (simp; omega)) _ | refine Below.tr ?_ (Nat.le_refl _) (by assumption) | exact Below.refl _ _ | assumption)); clear k0 k1) | (go_at_call 17; refine (booksCopy (hK.below hB1) hn hm).mono ?_; rintro e w2 ⟨b2, sl2, rfl, hb2, -, -, -⟩; obtain ⟨k0, k1, kz2⟩ := two_blocks (hb1.trans (hb2.mono hb1.size)); obtain ⟨d0, d1⟩ := houseMem k0; obtain ⟨z0, z1, z2, z3, z4, zf⟩ := fillMem k1; have s0 : w.heap.size < w2.heap.size := (by omega); have s1 : w.heap.size + 1 < w2.heap.size := (by omega); have hB2 : Below w.heap.size w w2 := hB1.trans (hb2.mono hB1.size); clear k0 k1 hb1 hb2 hB1 c0 c1 kz))
  refine bodyPost_ret (v := .tuple #[fillV 0 0 0 0 0, .int .i64 1]) ?_ rfl ⟨rfl, ?_⟩
  · simp [results, Try.results7, go_sem, z0, z1, z2, z3, z4]
  · iterate 5 refine Below.setCell ?_ (by simp) _
    exact hB2

set_option maxHeartbeats 4000000 in
/-- more than may be -/
theorem do_more {w : World} {b m : Nat} {A : Ledger} (h : LedgerAt w b m A) {bb : Nat} {K : Book} {sl : Value} (hK : BookAt w bb K sl) (hn : 1 ≤ K.next) (hm : K.l.length ≤ 1000000000000) (seq taker to : Nat) (n x : Int) (h1n : 1 ≤ n) (hlt : x < n)
    (hM : ∀ W, Below w.heap.size w W → Calls Try.prog 8 #[.agg #[.pointer (some ⟨b, 0, none⟩), .pointer (some ⟨bb, 0, none⟩)], .int .u64 seq, .int .u8 taker, .int .u8 to, .int .i64 n, .int .i64 1099511627776] W (IntPost W x)) :
    Calls Try.prog 7 #[.agg #[.pointer (some ⟨b, 0, none⟩), .pointer (some ⟨bb, 0, none⟩)], .int .u64 seq, .int .u8 taker, .int .u8 to, .int .i64 n] w (DoPost w (fillV 0 0 0 0 0) 1) := by
  have HM := Lib.hid hM; clear hM
  have e1 : decide (n < 1) = false := by simp; omega
  have e2 : decide (x < n) = true := by simp [hlt]
  go_enter Try.func7, Try.ntmps7
  go_wp2_with (first | (go_at_call 16; refine (ledgersCopy (h.below (by repeat (first | with_reducible exact Below.refl _ _ | with_reducible assumption | refine Below.drew ?_ | refine Below.setCell ?_ (by first | exact Nat.le_refl _ | omega | (simp; done) | (simp; omega)) _ | refine Below.alloc ?_ (by first | exact Nat.le_refl _ | omega | (simp; done) | (simp; omega)) _ | refine Below.tr ?_ (Nat.le_refl _) (by assumption) | exact Below.refl _ _ | assumption)))).mono ?_; rintro e w1 ⟨b', m', rfl, hb1, -, -, -⟩; obtain ⟨k0, k1, kz⟩ := two_blocks hb1; obtain ⟨c0, c1⟩ := houseMem k0; have hB1 : Below w.heap.size w w1 := (by repeat (first | with_reducible exact Below.refl _ _ | with_reducible assumption | refine Below.drew ?_ | refine Below.setCell ?_ (by first | exact Nat.le_refl _ | omega | (simp; done) | (simp; omega)) _ | refine Below.alloc ?_ (by first | exact Nat.le_refl _ | omega | (simp; done) | (simp; omega)) _ | refine Below.tr ?_ (Nat.le_refl _) (by assumption) | exact Below.refl _ _ | assumption)); clear k0 k1) | (go_at_call 17; refine (booksCopy (hK.below hB1) hn hm).mono ?_; rintro e w2 ⟨b2, sl2, rfl, hb2, -, -, -⟩; have hb3 := Lib.hid (hb1.trans (hb2.mono hb1.size)); obtain ⟨k0, k1, kz2⟩ := two_blocks hb3.out; obtain ⟨d0, d1⟩ := houseMem k0; have hB2 : Below w.heap.size w w2 := hB1.trans (hb2.mono hB1.size); clear k0 k1 hb1 hb2 hB1 c0 c1 kz) | (go_at_call 8; refine (HM.out _ hB2).mono ?_; rintro e w3 ⟨rfl, hb4⟩; obtain ⟨k0, k1, kz3⟩ := two_blocks (hb3.out.trans (hb4.mono hb3.out.size)); obtain ⟨z0, z1, z2, z3, z4, zf⟩ := fillMem k1; have s0 : w.heap.size < w3.heap.size := (by omega); have s1 : w.heap.size + 1 < w3.heap.size := (by omega); have hB3 : Below w.heap.size w w3 := hB2.trans (hb4.mono hB2.size); clear k0 k1))
  refine bodyPost_ret (v := .tuple #[fillV 0 0 0 0 0, .int .i64 1]) ?_ rfl ⟨rfl, ?_⟩
  · simp [results, Try.results7, go_sem, z0, z1, z2, z3, z4]
  · iterate 5 refine Below.setCell ?_ (by simp) _
    exact hB3
end Go.Proofs.Ytelcdiceongfdaa
