/- Walks of the layer fills, eighth part: 'lives' is true. -/
import Derived.Test.YtelcdiceongfdaaFill7
namespace Go.Proofs.Ytelcdiceongfdaa
open Go.RowKit Go.BigFrame
set_option maxRecDepth 100000

def A1 : Ledger := (Ledger.empty.openP 1).2
def A2 : Ledger := (A1.openP 2).2
def A3 : Ledger := (A2.openP 3).2
def A4 : Ledger := (A3.trust 3 2 1 9).2
theorem below_chg {w W W' : World} {S : List Nat} (hB : Below w.heap.size w W) (hC : Chg S W W') (hS : ∀ k ∈ S, w.heap.size ≤ k) : Below w.heap.size w W' :=
  ⟨hC.os.trans hB.os, hC.tape.trans hB.tape, hC.output.trans hB.output, Nat.le_trans hB.size hC.size, fun k hk => (hC.block k (by have := hB.size; omega) (fun hm => absurd (hS k hm) (by omega))).trans (hB.block k hk)⟩
theorem live_new (w : World) : Calls Try.prog 5 #[] w fun e w' => ∃ b m, e = .returned (.pointer (some ⟨b, 0, none⟩)) ∧ Below w.heap.size w w' ∧ w.heap.size ≤ b ∧ w.heap.size ≤ m ∧ LedgerAt w' b m .empty :=
  (ledgersNew w).mono fun e w' ⟨he, hb, _, h⟩ => ⟨_, _, he, hb, by omega, by omega, h⟩
theorem live_open1 {w0 w : World} {b m : Nat} (h : LedgerAt w b m .empty) (hB : Below w0.heap.size w0 w) (hb : w0.heap.size ≤ b) : Calls Try.prog 27 #[.pointer (some ⟨b, 0, none⟩), .int .u8 (1 : Nat)] w fun e w' => (∃ v, e = .returned v) ∧ LedgerAt w' b m A1 ∧ Below w0.heap.size w0 w' :=
  (open_any h 1 (by decide)).mono fun e w' ⟨he, hC, h'⟩ => ⟨⟨_, he⟩, h', below_chg hB hC (by simpa using hb)⟩
theorem live_open2 {w0 w : World} {b m : Nat} (h : LedgerAt w b m A1) (hB : Below w0.heap.size w0 w) (hb : w0.heap.size ≤ b) : Calls Try.prog 27 #[.pointer (some ⟨b, 0, none⟩), .int .u8 (2 : Nat)] w fun e w' => (∃ v, e = .returned v) ∧ LedgerAt w' b m A2 ∧ Below w0.heap.size w0 w' :=
  (open_any h 2 (by decide)).mono fun e w' ⟨he, hC, h'⟩ => ⟨⟨_, he⟩, h', below_chg hB hC (by simpa using hb)⟩
theorem live_open3 {w0 w : World} {b m : Nat} (h : LedgerAt w b m A2) (hB : Below w0.heap.size w0 w) (hb : w0.heap.size ≤ b) : Calls Try.prog 27 #[.pointer (some ⟨b, 0, none⟩), .int .u8 (3 : Nat)] w fun e w' => (∃ v, e = .returned v) ∧ LedgerAt w' b m A3 ∧ Below w0.heap.size w0 w' :=
  (open_any h 3 (by decide)).mono fun e w' ⟨he, hC, h'⟩ => ⟨⟨_, he⟩, h', below_chg hB hC (by simpa using hb)⟩
theorem live_trust1 {w0 w : World} {b m : Nat} (h : LedgerAt w b m A3) (hB : Below w0.heap.size w0 w) (hb : w0.heap.size ≤ m) : Calls Try.prog 28 #[.pointer (some ⟨b, 0, none⟩), .int .u8 (3 : Nat), .int .u8 (2 : Nat), .int .u8 (1 : Nat), .int .i64 9] w fun e w' => (∃ v, e = .returned v) ∧ LedgerAt w' b m A4 ∧ Below w0.heap.size w0 w' :=
  (trust_any h 3 2 1 (by decide) (by decide) (by decide) 9).mono fun e w' ⟨he, hC, h'⟩ => ⟨⟨_, he⟩, h', below_chg hB hC (by simpa using hb)⟩
theorem live_trust2 {w0 w : World} {b m : Nat} (h : LedgerAt w b m A4) (hB : Below w0.heap.size w0 w) (hb : w0.heap.size ≤ m) : Calls Try.prog 28 #[.pointer (some ⟨b, 0, none⟩), .int .u8 (2 : Nat), .int .u8 (1 : Nat), .int .u8 (2 : Nat), .int .i64 7] w fun e w' => (∃ v, e = .returned v) ∧ LedgerAt w' b m LA ∧ Below w0.heap.size w0 w' :=
  (trust_any h 2 1 2 (by decide) (by decide) (by decide) 7).mono fun e w' ⟨he, hC, h'⟩ => ⟨⟨_, he⟩, h', below_chg hB hC (by simpa using hb)⟩
theorem live_books {w0 w : World} {b m : Nat} (h : LedgerAt w b m LA) (hB : Below w0.heap.size w0 w) : Calls Try.prog 6 #[] w fun e w' => ∃ bb, e = .returned (.pointer (some ⟨bb, 0, none⟩)) ∧ LedgerAt w' b m LA ∧ BookAt w' bb ⟨[], 1⟩ (.slice none 0 0) ∧ Below w0.heap.size w0 w' ∧ w0.heap.size ≤ bb :=
  (booksNew w).mono fun _e _w' ⟨he, hb, _, hk⟩ => ⟨_, he, h.below hb, hk, hB.trans (hb.mono hB.size), hB.size⟩
theorem live_place {w0 w : World} {b m bb : Nat} (h : LedgerAt w b m LA) (hK : BookAt w bb ⟨[], 1⟩ (.slice none 0 0)) (hB : Below w0.heap.size w0 w) (hb : w0.heap.size ≤ bb) :
    Calls Try.prog 29 #[.pointer (some ⟨bb, 0, none⟩), .int .u8 (2 : Nat), .int .u8 (1 : Nat), .int .u8 (2 : Nat), .int .i64 5, .agg #[.int .i64 3, .int .i64 2]] w fun e w' => (∃ v, e = .returned v) ∧ LedgerAt w' b m LA ∧ ∃ sl, BookAt w' bb LB sl ∧ Below w0.heap.size w0 w' ∧ ∀ k, sl.ownBlock = some k → w0.heap.size ≤ k :=
  (booksPlace hK (by decide) LO ⟨by decide, by decide, by decide, by decide, by decide, by decide, by decide, by decide, by decide, by decide⟩ (by decide)).mono fun e w' ⟨he, S, sl', hC, hS, hK', hO⟩ => by
    obtain ⟨d1, d2, d3⟩ := disj_of h hK
    have hz := hB.size
    refine ⟨⟨_, he⟩, h.chg hC (fun hk => (hS b hk).elim (fun e => d1 e.symm) (fun e => by cases e)) (fun hk => (hS m hk).elim (fun e => d2 e.symm) (fun e => by cases e)), sl', hK', below_chg hB hC (fun k hk => (hS k hk).elim (fun e => by omega) (fun e => by cases e)), fun k hk => (hO k hk).elim (fun e => by cases e) (fun e => by omega)⟩

/-- the house in memory -/
structure LiveAt (W : World) (b m bb : Nat) (sl : Value) (g : Nat) : Prop where
  led : LedgerAt W b m LA
  book : BookAt W bb LB sl
  blk : W.heap[g]? = some (.cells #[.pointer (some ⟨b, 0, none⟩), .pointer (some ⟨bb, 0, none⟩)] 29 (0, 0))
theorem LiveAt.below {W W' : World} {b m bb : Nat} {sl : Value} {g : Nat} (h : LiveAt W b m bb sl g) (hb : Below W.heap.size W W') : LiveAt W' b m bb sl g :=
  ⟨h.led.below hb, h.book.below hb, (hb.block _ (lt_of_block h.blk)).trans h.blk⟩
theorem LiveAt.new {W : World} {b m bb : Nat} {sl : Value} (h : LedgerAt W b m LA) (hK : BookAt W bb LB sl) : LiveAt (W.alloc (.cells #[.pointer (some ⟨b, 0, none⟩), .pointer (some ⟨bb, 0, none⟩)] 29)) b m bb sl W.heap.size :=
  have hb : Below W.heap.size W (W.alloc (.cells #[.pointer (some ⟨b, 0, none⟩), .pointer (some ⟨bb, 0, none⟩)] 29)) := (Below.refl _ _).alloc (Nat.le_refl _) _
  ⟨h.below hb, hK.below hb, alloc_new W _⟩
theorem LiveAt.alloc {W : World} {b m bb : Nat} {sl : Value} {g : Nat} (h : LiveAt W b m bb sl g) (o : Obj) : LiveAt (W.alloc o) b m bb sl g := h.below ((Below.refl _ _).alloc (Nat.le_refl _) _)

set_option maxHeartbeats 4000000 in
theorem lives_true (w : World) : Calls Try.prog 9 #[] w fun e w' => e = .returned (.bool true) ∧ Below w.heap.size w w' := by
  go_enter Try.func9, Try.ntmps9
  go_wp2_with (first | (go_at_call 5; refine (live_new _).mono ?_; rintro e w1 ⟨b, m, rfl, B1, hb, hm, h1⟩; have B1 := Lib.hid B1; have hb := Lib.hid hb; have hm := Lib.hid hm) | (go_at_call 27; refine (live_open1 h1 B1.out hb.out).mono ?_; rintro e w2 ⟨⟨v2, rfl⟩, h2, B2⟩; have B2 := Lib.hid B2; clear h1 B1) | (go_at_call 27; refine (live_open2 h2 B2.out hb.out).mono ?_; rintro e w3 ⟨⟨v3, rfl⟩, h3, B3⟩; have B3 := Lib.hid B3; clear h2 B2) | (go_at_call 27; refine (live_open3 h3 B3.out hb.out).mono ?_; rintro e w4 ⟨⟨v4, rfl⟩, h4, B4⟩; have B4 := Lib.hid B4; clear h3 B3) | (go_at_call 28; refine (live_trust1 h4 B4.out hm.out).mono ?_; rintro e w5 ⟨⟨v5, rfl⟩, h5, B5⟩; have B5 := Lib.hid B5; clear h4 B4) | (go_at_call 28; refine (live_trust2 h5 B5.out hm.out).mono ?_; rintro e w6 ⟨⟨v6, rfl⟩, h6, B6⟩; have B6 := Lib.hid B6; clear h5 B5) | (go_at_call 6; refine (live_books h6 B6.out).mono ?_; rintro e w7 ⟨bb, rfl, h7, k7, B7, hbb⟩; have B7 := Lib.hid B7; have hbb := Lib.hid hbb; clear h6 B6) | (go_at_call 29; refine (live_place h7 k7 B7.out hbb.out).mono ?_; rintro e w8 ⟨⟨v8, rfl⟩, h8, sl8, k8, B8, ho8⟩; have B8 := Lib.hid B8; have ho8 := Lib.hid ho8; have h8 := LiveAt.new h8 k8; clear h7 k7 k8 B7) | (go_at_call 8; refine (live_may h8.led h8.book 9 100 4 (by decide) (by decide) (by decide)).mono ?_; rintro e w9 ⟨rfl, hb9⟩; have h9 := h8.below hb9; obtain ⟨p0, p1⟩ := houseMem h9.blk; have B9 := Lib.hid ((B8.out.alloc B8.out.size _).trans (hb9.mono (by have := B8.out.size; simp; omega))); clear h8 hb9 B8) | (go_at_call 8; refine (live_may h9.led h9.book 9 5 3 (by decide) (by decide) (by decide)).mono ?_; rintro e w10 ⟨rfl, hb10⟩; have h10 := h9.below hb10; obtain ⟨q0, q1⟩ := houseMem h10.blk; have B10 := Lib.hid (B9.out.trans (hb10.mono B9.out.size)); clear h9 hb10 p0 p1 B9) | (go_at_call 8; refine (live_same h10.led h10.book 9 9).mono ?_; rintro e w11 ⟨rfl, hb11⟩; have h11 := h10.below hb11; obtain ⟨p0, p1⟩ := houseMem h11.blk; have B11 := Lib.hid (B10.out.trans (hb11.mono B10.out.size)); clear h10 hb11 q0 q1 B10) | (go_at_call 8; refine (live_none h11.led h11.book 9 9).mono ?_; rintro e w12 ⟨rfl, hb12⟩; have h12 := h11.below hb12; obtain ⟨q0, q1⟩ := houseMem h12.blk; have B12 := Lib.hid (B11.out.trans (hb12.mono B11.out.size)); clear h11 hb12 p0 p1 B11) | (go_at_call 7; refine (live_do5 h12.led h12.book).mono ?_; rintro e w13 ⟨rfl, hb13⟩; have h13 := h12.below hb13; obtain ⟨p0, p1⟩ := houseMem h13.blk; have B13 := Lib.hid (B12.out.trans (hb13.mono B12.out.size)); have s13 := lt_of_block h13.blk; have h14 := h13.alloc (.cells #[.int .u64 0, .int .u8 0, .int .u8 0, .int .i64 0, .int .i64 0] 41); clear h12 h13 hb13 q0 q1 B12) | (go_at_call 7; refine (live_do3 h14.led h14.book).mono ?_; rintro e w15 ⟨rfl, A5, A6, S, sl9, -, -, hC, hS, -, -⟩; have B15 := Lib.hid (below_chg (B13.out.alloc B13.out.size _) hC (fun k hk => (hS k hk).elim (fun e => e ▸ hm.out) (fun e => e.elim (fun e => e ▸ hbb.out) (fun e => ho8.out k e)))); clear h14 p0 p1 hC hS B13))
  go_ret
  exact ⟨rfl, B15.out.alloc B15.out.size _⟩
end Go.Proofs.Ytelcdiceongfdaa
