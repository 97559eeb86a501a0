/- The walk of the law 'FillsVoid': a house without a ledger, or a book, fills nothing. -/
import Derived.Test.YtelcdiceongfdaaFill8
namespace Go.Proofs.Ytelcdiceongfdaa
open Go.RowKit Go.BigFrame
set_option maxRecDepth 100000

/-- four houses: without both; without a book; without a ledger; with a ledger and a book that were never made -/
structure VoidAt (W : World) (b m bb z y : Nat) : Prop where
  led : LedgerAt W b m .empty
  book : BookAt W bb ⟨[], 1⟩ (.slice none 0 0)
  noL : W.cell? ⟨z, 17, none⟩ = some (.map none)
  noB : W.cell? ⟨y, 1, none⟩ = some (.int .u64 0)
theorem VoidAt.below {W W' : World} {b m bb z y : Nat} (h : VoidAt W b m bb z y) (hb : Below W.heap.size W W') : VoidAt W' b m bb z y :=
  ⟨h.led.below hb, h.book.below hb, (hb.cell (p := ⟨z, 17, none⟩) (World.block_lt_of_cell? W _ h.noL)).trans h.noL, (hb.cell (p := ⟨y, 1, none⟩) (World.block_lt_of_cell? W _ h.noB)).trans h.noB⟩
def houseI (b bb z y : Nat) : Nat → Option Addr × Option Addr
  | 0 => (none, none)
  | 1 => (some ⟨b, 0, none⟩, none)
  | 2 => (none, some ⟨bb, 0, none⟩)
  | _ => (some ⟨z, 0, none⟩, some ⟨y, 0, none⟩)
theorem void_do {W : World} {b m bb z y : Nat} (h : VoidAt W b m bb z y) (i seq taker to : Nat) (n : Int) :
    Calls Try.prog 7 #[.agg #[.pointer (houseI b bb z y i).1, .pointer (houseI b bb z y i).2], .int .u64 seq, .int .u8 taker, .int .u8 to, .int .i64 n] W (DoPost W (fillV 0 0 0 0 0) 2) := by
  match i with
  | 0 => exact do_noL (.inl rfl) none seq taker to n
  | 1 => exact do_noB h.led (.inl rfl) seq taker to n
  | 2 => exact do_noL (.inl rfl) _ seq taker to n
  | i + 3 => exact do_noL (.inr ⟨z, rfl, h.noL⟩) _ seq taker to n
theorem void_find {W : World} {b m bb z y : Nat} (h : VoidAt W b m bb z y) (i seq : Nat) : Calls Try.prog 12 #[.pointer (houseI b bb z y i).2, .int .u64 seq] W (FindPost W Offer.zero false) := by
  have e : Book.findD [] seq = Offer.zero ∧ Book.has [] seq = false := ⟨rfl, rfl⟩
  match i with
  | 0 => exact booksFind_no (.inl rfl) seq
  | 1 => exact booksFind_no (.inl rfl) seq
  | 2 => exact booksFind h.book (by decide) (by decide) seq
  | i + 3 => exact booksFind_no (.inr ⟨y, rfl, h.noB⟩) seq
theorem void_may {W : World} {b m bb z y : Nat} (h : VoidAt W b m bb z y) (i seq taker to : Nat) (n most : Int) :
    Calls Try.prog 8 #[.agg #[.pointer (houseI b bb z y i).1, .pointer (houseI b bb z y i).2], .int .u64 seq, .int .u8 taker, .int .u8 to, .int .i64 n, .int .i64 most] W (IntPost W 0) :=
  may_no _ _ Offer.zero seq taker to n most fun _ hW => trade_none _ _ seq taker to n most Offer.zero (fun _ hW2 => void_find ((h.below hW).below hW2) i seq)

theorem infoFill : ((Try.prog).info? 41).map (·.size) = some 5 := by kernel_rfl
theorem thereFill {w : World} {g : Nat} (h : w.heap[g]? = some (.cells #[.int .u64 0, .int .u8 0, .int .u8 0, .int .i64 0, .int .i64 0] 41 (0, 0))) : w.there g 0 5 := fun j hj => by
  have e : ∃ v, (#[.int .u64 0, .int .u8 0, .int .u8 0, .int .i64 0, .int .i64 0] : Array Value)[0 + j]? = some v := ⟨_, Array.getElem?_eq_getElem (by simpa using hj)⟩
  obtain ⟨v, hv⟩ := e
  exact ⟨by rw [(cell_of_row _ _ _ _ _ _ h).trans hv]; rfl, by simp [World.frozen?, h]⟩
def fillCells (g : Nat) (W : World) : Prop := W.cell? ⟨g, 0, none⟩ = some (.int .u64 0) ∧ W.cell? ⟨g, 1, none⟩ = some (.int .u8 0) ∧ W.cell? ⟨g, 2, none⟩ = some (.int .u8 0) ∧ W.cell? ⟨g, 3, none⟩ = some (.int .i64 0) ∧ W.cell? ⟨g, 4, none⟩ = some (.int .i64 0)
theorem fillCells_below {W W' : World} {g : Nat} (hb : Below W.heap.size W W') (h : fillCells g W) : fillCells g W' := by
  obtain ⟨h0, h1, h2, h3, h4⟩ := h
  have hg : g < W.heap.size := World.block_lt_of_cell? W _ h0
  exact ⟨(hb.cell (p := ⟨g, 0, none⟩) hg).trans h0, (hb.cell (p := ⟨g, 1, none⟩) hg).trans h1, (hb.cell (p := ⟨g, 2, none⟩) hg).trans h2, (hb.cell (p := ⟨g, 3, none⟩) hg).trans h3, (hb.cell (p := ⟨g, 4, none⟩) hg).trans h4⟩
theorem fillCells_of {W : World} {g : Nat} (h : W.rangeAt g 0 [.int .u64 0, .int .u8 0, .int .u8 0, .int .i64 0, .int .i64 0]) : fillCells g W.drew :=
  ⟨h 0 _ rfl, h 1 _ rfl, h 2 _ rfl, h 3 _ rfl, h 4 _ rfl⟩
/-- what every operation of the first region of a round keeps -/
def VHold (W3 : World) (gl g0 k : Nat) (L B : Option Addr) (seq taker to : Nat) (n most : Int) (W : World) : Prop :=
  Below W3.heap.size W3 W ∧ W.cell? ⟨gl, k, none⟩ = some (.pointer L) ∧ W.cell? ⟨gl, k + 1, none⟩ = some (.pointer B) ∧ W.cell? ⟨g0, 0, none⟩ = some (.int .u64 seq) ∧ W.cell? ⟨g0, 1, none⟩ = some (.int .u8 taker) ∧ W.cell? ⟨g0, 2, none⟩ = some (.int .u8 to) ∧ W.cell? ⟨g0, 3, none⟩ = some (.int .i64 n) ∧ W.cell? ⟨g0, 4, none⟩ = some (.int .i64 most)
/-- .. and of the second one -/
def VHold2 (W3 : World) (gl g0 k : Nat) (L B : Option Addr) (seq taker to : Nat) (n most : Int) (g5 : Nat) (W : World) : Prop := VHold W3 gl g0 k L B seq taker to n most W ∧ fillCells g5 W
theorem VHold.of {W3 : World} {gl g0 k : Nat} {L B : Option Addr} {seq taker to : Nat} {n most : Int} (h : VHold W3 gl g0 k L B seq taker to n most W3) : ∀ W, Below W3.heap.size W3 W → VHold W3 gl g0 k L B seq taker to n most W := fun W hb => by
  obtain ⟨-, h1, h2, h3, h4, h5, h6, h7⟩ := h
  have hl : gl < W3.heap.size := World.block_lt_of_cell? W3 _ h1
  have h0 : g0 < W3.heap.size := World.block_lt_of_cell? W3 _ h3
  exact ⟨hb, (hb.cell (p := ⟨gl, k, none⟩) hl).trans h1, (hb.cell (p := ⟨gl, k + 1, none⟩) hl).trans h2, (hb.cell (p := ⟨g0, 0, none⟩) h0).trans h3, (hb.cell (p := ⟨g0, 1, none⟩) h0).trans h4, (hb.cell (p := ⟨g0, 2, none⟩) h0).trans h5, (hb.cell (p := ⟨g0, 3, none⟩) h0).trans h6, (hb.cell (p := ⟨g0, 4, none⟩) h0).trans h7⟩

theorem void_start {w w1 w2 W3 : World} {ask zl zb lst : Array Value} {ta tl tb th : TypeId} (hb1 : Below (w.alloc (.cells ask ta)).heap.size (w.alloc (.cells ask ta)) w1) (hz1 : w1.heap.size = (w.alloc (.cells ask ta)).heap.size + 2) (h1 : LedgerAt w1 ((w.alloc (.cells ask ta)).heap.size + 1) (w.alloc (.cells ask ta)).heap.size .empty)
    (hb2 : Below w1.heap.size w1 w2) (hz2 : w2.heap.size = w1.heap.size + 1) (k2 : BookAt w2 w1.heap.size ⟨[], 1⟩ (.slice none 0 0)) (hzl : zl[17]? = some (.map none)) (hzb : zb[1]? = some (.int .u64 0)) (hW3 : ((w2.alloc (.cells zl tl)).alloc (.cells zb tb)).alloc (.cells lst th) = W3) :
    VoidAt W3 (w.heap.size + 1 + 1) (w.heap.size + 1) (w.heap.size + 1 + 2) (w.heap.size + 1 + 2 + 1) (w.heap.size + 1 + 2 + 1 + 1) ∧ Below w.heap.size w W3 ∧ (∀ j v, ask[j]? = some v → W3.cell? ⟨w.heap.size, j, none⟩ = some v) ∧ (∀ j v, lst[j]? = some v → W3.cell? ⟨w.heap.size + 1 + 2 + 1 + 1 + 1, j, none⟩ = some v) := by
  subst hW3
  have sA : (w.alloc (.cells ask ta)).heap.size = w.heap.size + 1 := by simp
  rw [sA] at hz1 h1
  have hz2' : w2.heap.size = w.heap.size + 1 + 2 + 1 := by omega
  rw [hz1] at k2
  have s1 : (w2.alloc (.cells zl tl)).heap.size = w.heap.size + 1 + 2 + 1 + 1 := by simp; omega
  have s2 : ((w2.alloc (.cells zl tl)).alloc (.cells zb tb)).heap.size = w.heap.size + 1 + 2 + 1 + 1 + 1 := by rw [World.size_alloc, s1]
  have B23 : Below w2.heap.size w2 (((w2.alloc (.cells zl tl)).alloc (.cells zb tb)).alloc (.cells lst th)) := ((((Below.refl _ w2).alloc (Nat.le_refl _) _).alloc (by simp) _).alloc (by simp; omega) _)
  have B03 := (hb1.trans (hb2.mono (by omega))).trans (B23.mono (by omega))
  have zc := cell_of_row _ _ 17 _ _ _ (alloc_new w2 (.cells zl tl))
  have yc := cell_of_row _ _ 1 _ _ _ (alloc_new (w2.alloc (.cells zl tl)) (.cells zb tb))
  rw [hz2'] at zc
  rw [s1] at yc
  refine ⟨⟨(h1.below hb2).below B23, k2.below B23, ?_, ?_⟩, ?_, fun j v hv => ?_, fun j v hv => ?_⟩
  · rw [World.cell?_alloc_some _ _ _ (by rw [World.cell?_alloc_some _ _ _ (by rw [zc, hzl]; rfl), zc, hzl]; rfl), World.cell?_alloc_some _ _ _ (by rw [zc, hzl]; rfl), zc, hzl]
  · rw [World.cell?_alloc_some _ _ _ (by rw [yc, hzb]; rfl), yc, hzb]
  · exact ((Below.refl _ w).alloc (Nat.le_refl _) _).trans (B03.mono (by omega))
  · exact (B03.cell (p := ⟨w.heap.size, j, none⟩) (by simp)).trans ((cell_of_row _ _ j _ _ _ (alloc_new w (.cells ask ta))).trans hv)
  · have := cell_of_row _ _ j _ _ _ (alloc_new ((w2.alloc (.cells zl tl)).alloc (.cells zb tb)) (.cells lst th))
    rw [s2] at this
    exact this.trans hv

set_option maxHeartbeats 8000000 in
theorem fillsVoid_walk (seq taker to : Nat) (n most : Int) (full : Bool) (w : World) :
    Calls Try.prog 3 #[.agg #[.int .u64 seq, .int .u8 taker, .int .u8 to, .int .i64 n, .int .i64 most, .bool full]] w fun e w' => e = .returned (.bool true) ∧ Below w.heap.size w w' := by
  go_enter Try.func3, Try.ntmps3
  go_wp2_with (first | (go_at_call 5; refine (ledgersNew _).mono ?_; rintro e w1 ⟨rfl, hb1, hz1, h1⟩) | (go_at_call 6; refine (booksNew _).mono ?_; rintro e w2 ⟨rfl, hb2, hz2, k2⟩))
  obtain ⟨V3, B3, qa, ql⟩ := void_start (zl := #[.bool false, .bool false, .bool false, .bool false, .bool false, .bool false, .bool false, .bool false, .bool false, .bool false, .bool false, .bool false, .bool false, .bool false, .bool false, .bool false, .bool false, .map none]) (zb := #[.slice none 0 0, .int .u64 0]) (lst := #[.pointer none, .pointer none, .pointer (some ⟨w.heap.size + 1 + 1, 0, none⟩), .pointer none, .pointer none, .pointer (some ⟨w.heap.size + 1 + 2, 0, none⟩), .pointer (some ⟨w.heap.size + 1 + 2 + 1, 0, none⟩), .pointer (some ⟨w.heap.size + 1 + 2 + 1 + 1, 0, none⟩)]) (tl := 35) (tb := 38) (th := 29) hb1 hz1 h1 hb2 hz2 k2 rfl rfl rfl
  generalize World.alloc (World.alloc (World.alloc w2 _) _) _ = W3 at *
  have HB3 := Lib.hid B3
  have V3 := Lib.hid V3
  clear hb1 hz1 h1 hb2 hz2 k2 B3
  generalize w.heap.size + 1 + 2 + 1 + 1 + 1 = gl at *
  generalize w.heap.size + 1 + 2 + 1 + 1 = y at *
  generalize w.heap.size + 1 + 2 + 1 = z at *
  generalize w.heap.size + 1 + 2 = bb at *
  generalize w.heap.size + 1 + 1 = b1 at *
  generalize w.heap.size + 1 = m1 at *
  obtain ⟨g0, hg0⟩ : ∃ g0, w.heap.size = g0 := ⟨_, rfl⟩
  rw [hg0] at qa ⊢
  have QA := Lib.hid qa
  have QL := Lib.hid ql
  have HG0 := Lib.hid hg0
  clear qa ql hg0
  go_loopg [4] 4 (fun gg s4 wr => ∃ i : Nat, i ≤ 4 ∧ 4 - i ≤ gg ∧ s4 = .int .i64 i ∧ Aside (Below W3.heap.size W3 wr))
  case atStart => exact ⟨0, by omega, by omega, rfl, Below.refl _ _⟩
  case round =>
    obtain ⟨i, hi, hgg, rfl, BW⟩ := hrel
    have hcase : i = 0 ∨ i = 1 ∨ i = 2 ∨ i = 3 ∨ i = 4 := by omega
    rcases hcase with rfl | rfl | rfl | rfl | rfl
    · have HS5 := Lib.hid (VHold.of (W3 := W3) (gl := gl) (g0 := g0) (k := 0) (L := none) (B := none) (seq := seq) (taker := taker) (to := to) (n := n) (most := most) ⟨Below.refl _ _, QL.out 0 _ rfl, QL.out 1 _ rfl, QA.out 0 _ rfl, QA.out 1 _ rfl, QA.out 2 _ rfl, QA.out 3 _ rfl, QA.out 4 _ rfl⟩)
      go_wp2
      refine wp_region_held_drew (S := VHold W3 gl g0 0 none none seq taker to n most) (by kernel_rfl) ?_ (fun hHeld => ?_)
      · exact HS5.out _ (Below.drew BW.out)
      revert hHeld
      have hle0 : W3.heap.size ≤ (World.drew wr).heap.size := BW.out.size
      revert hle0
      generalize World.drew _ = W0
      intro hle0 hHeld
      refine wpAnyH_take (i := 0) (oi := ⟨some 25, _, _, _, _, _⟩) (v := ?va0x1) rfl (by kernel_rfl) (by kernel_rfl) (by kernel_rfl) (fun _ _ _ h => h) (Or.inl ⟨by rfl, ?ya0x1⟩) (by assumption) ?ra0x1
      case ya0x1 => (rintro w0 ⟨sa, sb, sc, sd, se, sf, sg, sh⟩; go_simp; try with_reducible rfl)
      try simp only [Act.put, List.setIfInBounds_toArray, List.set_cons_zero, List.set_cons_succ]
      refine wpAnyH_take (i := 1) (oi := ⟨some 26, _, _, _, _, _⟩) (v := ?va0x2) rfl (by kernel_rfl) (by kernel_rfl) (by kernel_rfl) (fun _ _ _ h => h) (Or.inl ⟨by rfl, ?ya0x2⟩) (by assumption) ?ra0x2
      case ya0x2 => (rintro w0 ⟨sa, sb, sc, sd, se, sf, sg, sh⟩; go_simp; try with_reducible rfl)
      try simp only [Act.put, List.setIfInBounds_toArray, List.set_cons_zero, List.set_cons_succ]
      refine wpAnyH_take (i := 2) (oi := ⟨some 27, _, _, _, _, _⟩) (v := ?va0x3) rfl (by kernel_rfl) (by kernel_rfl) (by kernel_rfl) (fun _ _ _ h => h) (Or.inl ⟨by rfl, ?ya0x3⟩) (by assumption) ?ra0x3
      case ya0x3 => (rintro w0 ⟨sa, sb, sc, sd, se, sf, sg, sh⟩; go_simp; try with_reducible rfl)
      try simp only [Act.put, List.setIfInBounds_toArray, List.set_cons_zero, List.set_cons_succ]
      refine wpAnyH_take (i := 3) (oi := ⟨some 28, _, _, _, _, _⟩) (v := ?va0x4) rfl (by kernel_rfl) (by kernel_rfl) (by kernel_rfl) (fun _ _ _ h => h) (Or.inl ⟨by rfl, ?ya0x4⟩) (by assumption) ?ra0x4
      case ya0x4 => (rintro w0 ⟨sa, sb, sc, sd, se, sf, sg, sh⟩; go_simp; try with_reducible rfl)
      try simp only [Act.put, List.setIfInBounds_toArray, List.set_cons_zero, List.set_cons_succ]
      refine wpAnyH_take (i := 4) (oi := ⟨some 29, _, _, _, _, _⟩) (v := ?va0x5) rfl (by kernel_rfl) (by kernel_rfl) (by kernel_rfl) (fun _ _ _ h => h) (Or.inl ⟨by rfl, ?ya0x5⟩) (by assumption) ?ra0x5
      case ya0x5 => (rintro w0 ⟨sa, sb, sc, sd, se, sf, sg, sh⟩; go_simp; try with_reducible rfl)
      try simp only [Act.put, List.setIfInBounds_toArray, List.set_cons_zero, List.set_cons_succ]
      refine wpAnyH_take (i := 5) (oi := ⟨some 30, _, _, _, _, _⟩) (v := ?va0x6) rfl (by kernel_rfl) (by kernel_rfl) (by kernel_rfl) (fun _ _ _ h => h) (Or.inl ⟨by rfl, ?ya0x6⟩) (by assumption) ?ra0x6
      case ya0x6 => (rintro w0 ⟨sa, sb, sc, sd, se, sf, sg, sh⟩; go_simp; try with_reducible rfl)
      try simp only [Act.put, List.setIfInBounds_toArray, List.set_cons_zero, List.set_cons_succ]
      refine wpAnyH_take (i := 6) (oi := ⟨some 31, _, _, _, _, _⟩) (v := ?va0x7) rfl (by kernel_rfl) (by kernel_rfl) (by kernel_rfl) (fun _ _ _ h => h) (Or.inl ⟨by rfl, ?ya0x7⟩) (by assumption) ?ra0x7
      case ya0x7 => (rintro w0 ⟨sa, sb, sc, sd, se, sf, sg, sh⟩; go_simp; try with_reducible rfl)
      try simp only [Act.put, List.setIfInBounds_toArray, List.set_cons_zero, List.set_cons_succ]
      refine wpAnyH_take (i := 7) (oi := ⟨some 32, _, _, _, _, _⟩) (v := ?va0x8) rfl (by kernel_rfl) (by kernel_rfl) (by kernel_rfl) (fun _ _ _ h => h) (Or.inl ⟨by rfl, ?ya0x8⟩) (by assumption) ?ra0x8
      case ya0x8 => (rintro w0 ⟨sa, sb, sc, sd, se, sf, sg, sh⟩; go_simp; try with_reducible rfl)
      try simp only [Act.put, List.setIfInBounds_toArray, List.set_cons_zero, List.set_cons_succ]
      refine wpAnyH_take (i := 8) (oi := ⟨some 33, _, _, _, _, _⟩) (v := ?va0x9) rfl (by kernel_rfl) (by kernel_rfl) (by kernel_rfl) (fun _ _ _ h => h) (Or.inl ⟨by rfl, ?ya0x9⟩) (by assumption) ?ra0x9
      case ya0x9 => (rintro w0 ⟨sa, sb, sc, sd, se, sf, sg, sh⟩; go_simp; try with_reducible rfl)
      try simp only [Act.put, List.setIfInBounds_toArray, List.set_cons_zero, List.set_cons_succ]
      refine wpAnyH_take (i := 9) (oi := ⟨some 34, _, _, _, _, _⟩) (v := ?va0x10) rfl (by kernel_rfl) (by kernel_rfl) (by kernel_rfl) (fun _ _ _ h => h) (Or.inl ⟨by rfl, ?ya0x10⟩) (by assumption) ?ra0x10
      case ya0x10 => (rintro w0 ⟨sa, sb, sc, sd, se, sf, sg, sh⟩; go_simp; try with_reducible rfl)
      try simp only [Act.put, List.setIfInBounds_toArray, List.set_cons_zero, List.set_cons_succ]
      refine wpAnyH_take (i := 10) (oi := ⟨some 35, _, _, _, _, _⟩) (v := ?va0x11) rfl (by kernel_rfl) (by kernel_rfl) (by kernel_rfl) (fun _ _ _ h => h) (Or.inl ⟨by rfl, ?ya0x11⟩) (by assumption) ?ra0x11
      case ya0x11 => (rintro w0 ⟨sa, sb, sc, sd, se, sf, sg, sh⟩; go_simp; try with_reducible rfl)
      try simp only [Act.put, List.setIfInBounds_toArray, List.set_cons_zero, List.set_cons_succ]
      refine wpAnyH_take (i := 11) (oi := ⟨some 36, _, _, _, _, _⟩) (v := ?va0x12) rfl (by kernel_rfl) (by kernel_rfl) (by kernel_rfl) (fun _ _ _ h => h) (Or.inl ⟨by rfl, ?ya0x12⟩) (by assumption) ?ra0x12
      case ya0x12 => (rintro w0 ⟨sa, sb, sc, sd, se, sf, sg, sh⟩; go_simp; try with_reducible rfl)
      try simp only [Act.put, List.setIfInBounds_toArray, List.set_cons_zero, List.set_cons_succ]
      refine wpAnyH_ready (rs := [12, 16]) (by kernel_rfl) (by simp) ?_
      refine AllReadyH.cons (o := ⟨some 37, _, _, _, _, _⟩) rfl (fun K1 hK1 => ?_) ?_
      · rw [if_pos (by rfl)]
        go_wp2_with (go_at_call 7; refine (void_do (V3.out.below hHeld.1) 0 seq taker to n).mono ?_; rintro e w5 ⟨rfl, hb5⟩)
        have hB5 := hHeld.1.trans (hb5.mono hHeld.1.size)
        refine hK1.out _ _ (HS5.out _ (hHeld.1.trans (hb5.mono hHeld.1.size))) (fun hHeld => ?_)
        clear hK1 K1
        try simp only [Act.put, List.setIfInBounds_toArray, List.set_cons_zero, List.set_cons_succ]
        refine wpAnyH_take (i := 13) (oi := ⟨some 24, _, _, _, _, _⟩) (v := ?va0x13) rfl (by kernel_rfl) (by kernel_rfl) (by kernel_rfl) (fun _ _ _ h => h) (Or.inl ⟨by rfl, ?ya0x13⟩) (by assumption) ?ra0x13
        case ya0x13 => (rintro w0 ⟨sa, sb, sc, sd, se, sf, sg, sh⟩; go_simp; try with_reducible rfl)
        try simp only [Act.put, List.setIfInBounds_toArray, List.set_cons_zero, List.set_cons_succ]
        refine wpAnyH_take (i := 14) (oi := ⟨some 38, _, _, _, _, _⟩) (v := ?va0x14) rfl (by kernel_rfl) (by kernel_rfl) (by kernel_rfl) (fun _ _ _ h => h) (Or.inl ⟨by rfl, ?ya0x14⟩) (by assumption) ?ra0x14
        case ya0x14 => (rintro w0 ⟨sa, sb, sc, sd, se, sf, sg, sh⟩; go_simp; try with_reducible rfl)
        try simp only [Act.put, List.setIfInBounds_toArray, List.set_cons_zero, List.set_cons_succ]
        refine wpAnyH_take (i := 15) (oi := ⟨some 39, _, _, _, _, _⟩) (v := ?va0x15) rfl (by kernel_rfl) (by kernel_rfl) (by kernel_rfl) (fun _ _ _ h => h) (Or.inl ⟨by rfl, ?ya0x15⟩) (by assumption) ?ra0x15
        case ya0x15 => (rintro w0 ⟨sa, sb, sc, sd, se, sf, sg, sh⟩; go_simp; try with_reducible rfl)
        try simp only [Act.put, List.setIfInBounds_toArray, List.set_cons_zero, List.set_cons_succ]
        refine wpAnyH_ready (rs := [16]) (by kernel_rfl) (by simp) ?_
        refine AllReadyH.cons (o := ⟨some 5, _, _, _, _, _⟩) rfl (fun K1 hK1 => ?_) ?_
        · rw [if_pos (by rfl)]
          go_simp
          refine hK1.out _ _ (HS5.out _ (hHeld.1.alloc hHeld.1.size _)) (fun hHeld => ?_)
          have kF := alloc_new w5 (.cells #[.int .u64 0, .int .u8 0, .int .u8 0, .int .i64 0, .int .i64 0] 41)
          have hle5 := (hB5).size
          clear hK1 K1
          try simp only [Act.put, List.setIfInBounds_toArray, List.set_cons_zero, List.set_cons_succ]
          refine wpAnyH_ready (rs := [17]) (by kernel_rfl) (by simp) ?_
          refine AllReadyH.cons (o := ⟨none, _, _, _, _, _⟩) rfl (fun K1 hK1 => ?_) ?_
          · rw [if_pos (by rfl)]
            refine wp_store_mid _ _ _ rfl _ 0 #[.int .u64 0, .int .u8 0, .int .u8 0, .int .i64 0, .int .i64 0] rfl rfl (thereFill kF) infoFill (by simp [Value.oneCell']) ?_
            have hq := World.rangeAt_setCells_same _ _ 0 [.int .u64 0, .int .u8 0, .int .u8 0, .int .i64 0, .int .i64 0] (thereFill kF)
            have hB6 := Below.setCells hHeld.1 (hle5) [.int .u64 0, .int .u8 0, .int .u8 0, .int .i64 0, .int .i64 0] 0
            refine hK1.out _ _ (HS5.out _ hB6) (fun hHeld => ?_)
            clear hK1 K1
            try simp only [Act.put]
            refine wpAnyH_take (i := 18) (oi := ⟨some 6, _, _, _, _, _⟩) (v := ?va0x16) rfl (by kernel_rfl) (by kernel_rfl) (by kernel_rfl) (fun _ _ _ h => h) (Or.inl ⟨by rfl, ?ya0x16⟩) (by assumption) ?ra0x16
            case ya0x16 => (rintro w0 ⟨sa, sb, sc, sd, se, sf, sg, sh⟩; go_simp; try with_reducible rfl)
            try simp only [Act.put, List.setIfInBounds_toArray, List.set_cons_zero, List.set_cons_succ]
            refine wpAnyH_done (by kernel_rfl) ?_ _
            have hq0 := Lib.hid hq
            clear hq
            have hB6 := hHeld.1
            go_wp2
            refine wp_region_held_drew (S := VHold2 W3 gl g0 0 none none seq taker to n most (w5.heap.size)) (by kernel_rfl) ?_ (fun hHeld => ?_)
            · exact ⟨HS5.out _ (Below.drew hB6), fillCells_of hq0.out⟩
            revert hHeld
            generalize World.drew _ = W6
            intro hHeld
            refine wpAnyH_take (i := 0) (oi := ⟨some 40, _, _, _, _, _⟩) (v := ?vb0Ax1) rfl (by kernel_rfl) (by kernel_rfl) (by kernel_rfl) (fun _ _ _ h => h) (Or.inl ⟨by rfl, ?yb0Ax1⟩) (by assumption) ?rb0Ax1
            case yb0Ax1 => (rintro w0 ⟨⟨sa, sb, sc, sd, se, sf, sg, sh⟩, ta, tb, tc, td, te⟩; go_simp; try with_reducible rfl)
            try simp only [Act.put, List.setIfInBounds_toArray, List.set_cons_zero, List.set_cons_succ]
            refine wpAnyH_take (i := 1) (oi := ⟨some 41, _, _, _, _, _⟩) (v := ?vb0Ax2) rfl (by kernel_rfl) (by kernel_rfl) (by kernel_rfl) (fun _ _ _ h => h) (Or.inl ⟨by rfl, ?yb0Ax2⟩) (by assumption) ?rb0Ax2
            case yb0Ax2 => (rintro w0 ⟨⟨sa, sb, sc, sd, se, sf, sg, sh⟩, ta, tb, tc, td, te⟩; go_simp; try with_reducible rfl)
            try simp only [Act.put, List.setIfInBounds_toArray, List.set_cons_zero, List.set_cons_succ]
            refine wpAnyH_take (i := 2) (oi := ⟨some 42, _, _, _, _, _⟩) (v := ?vb0Ax3) rfl (by kernel_rfl) (by kernel_rfl) (by kernel_rfl) (fun _ _ _ h => h) (Or.inl ⟨by rfl, ?yb0Ax3⟩) (by assumption) ?rb0Ax3
            case yb0Ax3 => (rintro w0 ⟨⟨sa, sb, sc, sd, se, sf, sg, sh⟩, ta, tb, tc, td, te⟩; go_simp; try with_reducible rfl)
            try simp only [Act.put, List.setIfInBounds_toArray, List.set_cons_zero, List.set_cons_succ]
            refine wpAnyH_take (i := 3) (oi := ⟨some 43, _, _, _, _, _⟩) (v := ?vb0Ax4) rfl (by kernel_rfl) (by kernel_rfl) (by kernel_rfl) (fun _ _ _ h => h) (Or.inl ⟨by rfl, ?yb0Ax4⟩) (by assumption) ?rb0Ax4
            case yb0Ax4 => (rintro w0 ⟨⟨sa, sb, sc, sd, se, sf, sg, sh⟩, ta, tb, tc, td, te⟩; go_simp; try with_reducible rfl)
            try simp only [Act.put, List.setIfInBounds_toArray, List.set_cons_zero, List.set_cons_succ]
            refine wpAnyH_take (i := 4) (oi := ⟨some 44, _, _, _, _, _⟩) (v := ?vb0Ax5) rfl (by kernel_rfl) (by kernel_rfl) (by kernel_rfl) (fun _ _ _ h => h) (Or.inl ⟨by rfl, ?yb0Ax5⟩) (by assumption) ?rb0Ax5
            case yb0Ax5 => (rintro w0 ⟨⟨sa, sb, sc, sd, se, sf, sg, sh⟩, ta, tb, tc, td, te⟩; go_simp; try with_reducible rfl)
            try simp only [Act.put, List.setIfInBounds_toArray, List.set_cons_zero, List.set_cons_succ]
            refine wpAnyH_take (i := 5) (oi := ⟨some 45, _, _, _, _, _⟩) (v := ?vb0Ax6) rfl (by kernel_rfl) (by kernel_rfl) (by kernel_rfl) (fun _ _ _ h => h) (Or.inl ⟨by rfl, ?yb0Ax6⟩) (by assumption) ?rb0Ax6
            case yb0Ax6 => (rintro w0 ⟨⟨sa, sb, sc, sd, se, sf, sg, sh⟩, ta, tb, tc, td, te⟩; go_simp; try with_reducible rfl)
            try simp only [Act.put, List.setIfInBounds_toArray, List.set_cons_zero, List.set_cons_succ]
            refine wpAnyH_take (i := 6) (oi := ⟨some 46, _, _, _, _, _⟩) (v := ?vb0Ax7) rfl (by kernel_rfl) (by kernel_rfl) (by kernel_rfl) (fun _ _ _ h => h) (Or.inl ⟨by rfl, ?yb0Ax7⟩) (by assumption) ?rb0Ax7
            case yb0Ax7 => (rintro w0 ⟨⟨sa, sb, sc, sd, se, sf, sg, sh⟩, ta, tb, tc, td, te⟩; go_simp; try with_reducible rfl)
            try simp only [Act.put, List.setIfInBounds_toArray, List.set_cons_zero, List.set_cons_succ]
            refine wpAnyH_take (i := 7) (oi := ⟨some 47, _, _, _, _, _⟩) (v := ?vb0Ax8) rfl (by kernel_rfl) (by kernel_rfl) (by kernel_rfl) (fun _ _ _ h => h) (Or.inl ⟨by rfl, ?yb0Ax8⟩) (by assumption) ?rb0Ax8
            case yb0Ax8 => (rintro w0 ⟨⟨sa, sb, sc, sd, se, sf, sg, sh⟩, ta, tb, tc, td, te⟩; go_simp; try with_reducible rfl)
            try simp only [Act.put, List.setIfInBounds_toArray, List.set_cons_zero, List.set_cons_succ]
            refine wpAnyH_take (i := 8) (oi := ⟨some 48, _, _, _, _, _⟩) (v := ?vb0Ax9) rfl (by kernel_rfl) (by kernel_rfl) (by kernel_rfl) (fun _ _ _ h => h) (Or.inl ⟨by rfl, ?yb0Ax9⟩) (by assumption) ?rb0Ax9
            case yb0Ax9 => (rintro w0 ⟨⟨sa, sb, sc, sd, se, sf, sg, sh⟩, ta, tb, tc, td, te⟩; go_simp; try with_reducible rfl)
            try simp only [Act.put, List.setIfInBounds_toArray, List.set_cons_zero, List.set_cons_succ]
            refine wpAnyH_take (i := 9) (oi := ⟨some 49, _, _, _, _, _⟩) (v := ?vb0Ax10) rfl (by kernel_rfl) (by kernel_rfl) (by kernel_rfl) (fun _ _ _ h => h) (Or.inl ⟨by rfl, ?yb0Ax10⟩) (by assumption) ?rb0Ax10
            case yb0Ax10 => (rintro w0 ⟨⟨sa, sb, sc, sd, se, sf, sg, sh⟩, ta, tb, tc, td, te⟩; go_simp; try with_reducible rfl)
            try simp only [Act.put, List.setIfInBounds_toArray, List.set_cons_zero, List.set_cons_succ]
            refine wpAnyH_take (i := 10) (oi := ⟨some 50, _, _, _, _, _⟩) (v := ?vb0Ax11) rfl (by kernel_rfl) (by kernel_rfl) (by kernel_rfl) (fun _ _ _ h => h) (Or.inl ⟨by rfl, ?yb0Ax11⟩) (by assumption) ?rb0Ax11
            case yb0Ax11 => (rintro w0 ⟨⟨sa, sb, sc, sd, se, sf, sg, sh⟩, ta, tb, tc, td, te⟩; go_simp; try with_reducible rfl)
            try simp only [Act.put, List.setIfInBounds_toArray, List.set_cons_zero, List.set_cons_succ]
            refine wpAnyH_take (i := 11) (oi := ⟨some 51, _, _, _, _, _⟩) (v := ?vb0Ax12) rfl (by kernel_rfl) (by kernel_rfl) (by kernel_rfl) (fun _ _ _ h => h) (Or.inl ⟨by rfl, ?yb0Ax12⟩) (by assumption) ?rb0Ax12
            case yb0Ax12 => (rintro w0 ⟨⟨sa, sb, sc, sd, se, sf, sg, sh⟩, ta, tb, tc, td, te⟩; go_simp; try with_reducible rfl)
            try simp only [Act.put, List.setIfInBounds_toArray, List.set_cons_zero, List.set_cons_succ]
            refine wpAnyH_take (i := 12) (oi := ⟨some 52, _, _, _, _, _⟩) (v := ?vb0Ax13) rfl (by kernel_rfl) (by kernel_rfl) (by kernel_rfl) (fun _ _ _ h => h) (Or.inl ⟨by rfl, ?yb0Ax13⟩) (by assumption) ?rb0Ax13
            case yb0Ax13 => (rintro w0 ⟨⟨sa, sb, sc, sd, se, sf, sg, sh⟩, ta, tb, tc, td, te⟩; go_simp; try with_reducible rfl)
            try simp only [Act.put, List.setIfInBounds_toArray, List.set_cons_zero, List.set_cons_succ]
            refine wpAnyH_take (i := 13) (oi := ⟨some 53, _, _, _, _, _⟩) (v := ?vb0Ax14) rfl (by kernel_rfl) (by kernel_rfl) (by kernel_rfl) (fun _ _ _ h => h) (Or.inl ⟨by rfl, ?yb0Ax14⟩) (by assumption) ?rb0Ax14
            case yb0Ax14 => (rintro w0 ⟨⟨sa, sb, sc, sd, se, sf, sg, sh⟩, ta, tb, tc, td, te⟩; go_simp; try with_reducible rfl)
            try simp only [Act.put, List.setIfInBounds_toArray, List.set_cons_zero, List.set_cons_succ]
            refine wpAnyH_take (i := 14) (oi := ⟨some 54, _, _, _, _, _⟩) (v := ?vb0Ax15) rfl (by kernel_rfl) (by kernel_rfl) (by kernel_rfl) (fun _ _ _ h => h) (Or.inl ⟨by rfl, ?yb0Ax15⟩) (by assumption) ?rb0Ax15
            case yb0Ax15 => (rintro w0 ⟨⟨sa, sb, sc, sd, se, sf, sg, sh⟩, ta, tb, tc, td, te⟩; go_simp; try with_reducible rfl)
            try simp only [Act.put, List.setIfInBounds_toArray, List.set_cons_zero, List.set_cons_succ]
            refine wpAnyH_take (i := 15) (oi := ⟨some 55, _, _, _, _, _⟩) (v := ?vb0Ax16) rfl (by kernel_rfl) (by kernel_rfl) (by kernel_rfl) (fun _ _ _ h => h) (Or.inl ⟨by rfl, ?yb0Ax16⟩) (by assumption) ?rb0Ax16
            case yb0Ax16 => (rintro w0 ⟨⟨sa, sb, sc, sd, se, sf, sg, sh⟩, ta, tb, tc, td, te⟩; go_simp; try with_reducible rfl)
            try simp only [Act.put, List.setIfInBounds_toArray, List.set_cons_zero, List.set_cons_succ]
            refine wpAnyH_take (i := 16) (oi := ⟨some 56, _, _, _, _, _⟩) (v := ?vb0Ax17) rfl (by kernel_rfl) (by kernel_rfl) (by kernel_rfl) (fun _ _ _ h => h) (Or.inl ⟨by rfl, ?yb0Ax17⟩) (by assumption) ?rb0Ax17
            case yb0Ax17 => (rintro w0 ⟨⟨sa, sb, sc, sd, se, sf, sg, sh⟩, ta, tb, tc, td, te⟩; go_simp; try with_reducible rfl)
            try simp only [Act.put, List.setIfInBounds_toArray, List.set_cons_zero, List.set_cons_succ]
            refine wpAnyH_take (i := 17) (oi := ⟨some 57, _, _, _, _, _⟩) (v := ?vb0Ax18) rfl (by kernel_rfl) (by kernel_rfl) (by kernel_rfl) (fun _ _ _ h => h) (Or.inl ⟨by rfl, ?yb0Ax18⟩) (by assumption) ?rb0Ax18
            case yb0Ax18 => (rintro w0 ⟨⟨sa, sb, sc, sd, se, sf, sg, sh⟩, ta, tb, tc, td, te⟩; go_simp; try with_reducible rfl)
            try simp only [Act.put, List.setIfInBounds_toArray, List.set_cons_zero, List.set_cons_succ]
            refine wpAnyH_take (i := 18) (oi := ⟨some 58, _, _, _, _, _⟩) (v := ?vb0Ax19) rfl (by kernel_rfl) (by kernel_rfl) (by kernel_rfl) (fun _ _ _ h => h) (Or.inl ⟨by rfl, ?yb0Ax19⟩) (by assumption) ?rb0Ax19
            case yb0Ax19 => (rintro w0 ⟨⟨sa, sb, sc, sd, se, sf, sg, sh⟩, ta, tb, tc, td, te⟩; go_simp; try with_reducible rfl)
            try simp only [Act.put, List.setIfInBounds_toArray, List.set_cons_zero, List.set_cons_succ]
            refine wpAnyH_take (i := 19) (oi := ⟨some 59, _, _, _, _, _⟩) (v := ?vb0Ax20) rfl (by kernel_rfl) (by kernel_rfl) (by kernel_rfl) (fun _ _ _ h => h) (Or.inl ⟨by rfl, ?yb0Ax20⟩) (by assumption) ?rb0Ax20
            case yb0Ax20 => (rintro w0 ⟨⟨sa, sb, sc, sd, se, sf, sg, sh⟩, ta, tb, tc, td, te⟩; go_simp; try with_reducible rfl)
            try simp only [Act.put, List.setIfInBounds_toArray, List.set_cons_zero, List.set_cons_succ]
            refine wpAnyH_take (i := 20) (oi := ⟨some 60, _, _, _, _, _⟩) (v := ?vb0Ax21) rfl (by kernel_rfl) (by kernel_rfl) (by kernel_rfl) (fun _ _ _ h => h) (Or.inl ⟨by rfl, ?yb0Ax21⟩) (by assumption) ?rb0Ax21
            case yb0Ax21 => (rintro w0 ⟨⟨sa, sb, sc, sd, se, sf, sg, sh⟩, ta, tb, tc, td, te⟩; go_simp; try with_reducible rfl)
            try simp only [Act.put, List.setIfInBounds_toArray, List.set_cons_zero, List.set_cons_succ]
            refine wpAnyH_take (i := 21) (oi := ⟨some 61, _, _, _, _, _⟩) (v := ?vb0Ax22) rfl (by kernel_rfl) (by kernel_rfl) (by kernel_rfl) (fun _ _ _ h => h) (Or.inl ⟨by rfl, ?yb0Ax22⟩) (by assumption) ?rb0Ax22
            case yb0Ax22 => (rintro w0 ⟨⟨sa, sb, sc, sd, se, sf, sg, sh⟩, ta, tb, tc, td, te⟩; go_simp; try with_reducible rfl)
            try simp only [Act.put, List.setIfInBounds_toArray, List.set_cons_zero, List.set_cons_succ]
            refine wpAnyH_ready (rs := [22]) (by kernel_rfl) (by simp) ?_
            refine AllReadyH.cons (o := ⟨some 62, _, _, _, _, _⟩) rfl (fun K1 hK1 => ?_) ?_
            · rw [if_pos (by rfl)]
              go_wp2_with (go_at_call 8; refine (void_may (V3.out.below hHeld.1.1) 0 seq taker to n most).mono ?_; rintro e w7 ⟨rfl, hb7⟩)
              have hB7 := hHeld.1.1.trans (hb7.mono hHeld.1.1.size)
              refine hK1.out _ _ ⟨HS5.out _ hB7, fillCells_below hb7 hHeld.2⟩ (fun hHeld => ?_)
              clear hK1 K1
              try simp only [Act.put, List.setIfInBounds_toArray, List.set_cons_zero, List.set_cons_succ]
              refine wpAnyH_take (i := 23) (oi := ⟨some 63, _, _, _, _, _⟩) (v := ?vb0Ax23) rfl (by kernel_rfl) (by kernel_rfl) (by kernel_rfl) (fun _ _ _ h => h) (Or.inl ⟨by rfl, ?yb0Ax23⟩) (by assumption) ?rb0Ax23
              case yb0Ax23 => (rintro w0 ⟨⟨sa, sb, sc, sd, se, sf, sg, sh⟩, ta, tb, tc, td, te⟩; go_simp; try with_reducible rfl)
              try simp only [Act.put, List.setIfInBounds_toArray, List.set_cons_zero, List.set_cons_succ]
              refine wpAnyH_take (i := 24) (oi := ⟨some 64, _, _, _, _, _⟩) (v := ?vb0Ax24) rfl (by kernel_rfl) (by kernel_rfl) (by kernel_rfl) (fun _ _ _ h => h) (Or.inl ⟨by rfl, ?yb0Ax24⟩) (by assumption) ?rb0Ax24
              case yb0Ax24 => (rintro w0 ⟨⟨sa, sb, sc, sd, se, sf, sg, sh⟩, ta, tb, tc, td, te⟩; go_simp; try with_reducible rfl)
              try simp only [Act.put, List.setIfInBounds_toArray, List.set_cons_zero, List.set_cons_succ]
              refine wpAnyH_done (by kernel_rfl) ?_ _
              have hB8 := hHeld.1.1
              go_wp2
              all_goals
                go_roundg 3
                case measure => omega
                case rel => exact ⟨1, by omega, by omega, rfl, hB8⟩
            exact AllReadyH.nil
          exact AllReadyH.nil
        exact AllReadyH.nil
      refine AllReadyH.cons (o := ⟨some 5, _, _, _, _, _⟩) rfl (fun K1 hK1 => ?_) ?_
      · rw [if_pos (by rfl)]
        go_simp
        refine hK1.out _ _ (HS5.out _ (hHeld.1.alloc hHeld.1.size _)) (fun hHeld => ?_)
        clear hK1 K1
        try simp only [Act.put, List.setIfInBounds_toArray, List.set_cons_zero, List.set_cons_succ]
        refine wpAnyH_ready (rs := [12]) (by kernel_rfl) (by simp) ?_
        refine AllReadyH.cons (o := ⟨some 37, _, _, _, _, _⟩) rfl (fun K1 hK1 => ?_) ?_
        · rw [if_pos (by rfl)]
          go_wp2_with (go_at_call 7; refine (void_do (V3.out.below hHeld.1) 0 seq taker to n).mono ?_; rintro e w5 ⟨rfl, hb5⟩)
          have kF := (hb5.block _ (by simp)).trans (alloc_new W0 (.cells #[.int .u64 0, .int .u8 0, .int .u8 0, .int .i64 0, .int .i64 0] 41))
          refine hK1.out _ _ (HS5.out _ (hHeld.1.trans (hb5.mono hHeld.1.size))) (fun hHeld => ?_)
          have hle5 := hle0
          clear hK1 K1
          try simp only [Act.put, List.setIfInBounds_toArray, List.set_cons_zero, List.set_cons_succ]
          refine wpAnyH_take (i := 13) (oi := ⟨some 24, _, _, _, _, _⟩) (v := ?va0x17) rfl (by kernel_rfl) (by kernel_rfl) (by kernel_rfl) (fun _ _ _ h => h) (Or.inl ⟨by rfl, ?ya0x17⟩) (by assumption) ?ra0x17
          case ya0x17 => (rintro w0 ⟨sa, sb, sc, sd, se, sf, sg, sh⟩; go_simp; try with_reducible rfl)
          try simp only [Act.put, List.setIfInBounds_toArray, List.set_cons_zero, List.set_cons_succ]
          refine wpAnyH_take (i := 14) (oi := ⟨some 38, _, _, _, _, _⟩) (v := ?va0x18) rfl (by kernel_rfl) (by kernel_rfl) (by kernel_rfl) (fun _ _ _ h => h) (Or.inl ⟨by rfl, ?ya0x18⟩) (by assumption) ?ra0x18
          case ya0x18 => (rintro w0 ⟨sa, sb, sc, sd, se, sf, sg, sh⟩; go_simp; try with_reducible rfl)
          try simp only [Act.put, List.setIfInBounds_toArray, List.set_cons_zero, List.set_cons_succ]
          refine wpAnyH_take (i := 15) (oi := ⟨some 39, _, _, _, _, _⟩) (v := ?va0x19) rfl (by kernel_rfl) (by kernel_rfl) (by kernel_rfl) (fun _ _ _ h => h) (Or.inl ⟨by rfl, ?ya0x19⟩) (by assumption) ?ra0x19
          case ya0x19 => (rintro w0 ⟨sa, sb, sc, sd, se, sf, sg, sh⟩; go_simp; try with_reducible rfl)
          try simp only [Act.put, List.setIfInBounds_toArray, List.set_cons_zero, List.set_cons_succ]
          refine wpAnyH_ready (rs := [17]) (by kernel_rfl) (by simp) ?_
          refine AllReadyH.cons (o := ⟨none, _, _, _, _, _⟩) rfl (fun K1 hK1 => ?_) ?_
          · rw [if_pos (by rfl)]
            refine wp_store_mid _ _ _ rfl _ 0 #[.int .u64 0, .int .u8 0, .int .u8 0, .int .i64 0, .int .i64 0] rfl rfl (thereFill kF) infoFill (by simp [Value.oneCell']) ?_
            have hq := World.rangeAt_setCells_same _ _ 0 [.int .u64 0, .int .u8 0, .int .u8 0, .int .i64 0, .int .i64 0] (thereFill kF)
            have hB6 := Below.setCells hHeld.1 (hle5) [.int .u64 0, .int .u8 0, .int .u8 0, .int .i64 0, .int .i64 0] 0
            refine hK1.out _ _ (HS5.out _ hB6) (fun hHeld => ?_)
            clear hK1 K1
            try simp only [Act.put]
            refine wpAnyH_take (i := 18) (oi := ⟨some 6, _, _, _, _, _⟩) (v := ?va0x20) rfl (by kernel_rfl) (by kernel_rfl) (by kernel_rfl) (fun _ _ _ h => h) (Or.inl ⟨by rfl, ?ya0x20⟩) (by assumption) ?ra0x20
            case ya0x20 => (rintro w0 ⟨sa, sb, sc, sd, se, sf, sg, sh⟩; go_simp; try with_reducible rfl)
            try simp only [Act.put, List.setIfInBounds_toArray, List.set_cons_zero, List.set_cons_succ]
            refine wpAnyH_done (by kernel_rfl) ?_ _
            have hq0 := Lib.hid hq
            clear hq
            have hB6 := hHeld.1
            go_wp2
            refine wp_region_held_drew (S := VHold2 W3 gl g0 0 none none seq taker to n most (W0.heap.size)) (by kernel_rfl) ?_ (fun hHeld => ?_)
            · exact ⟨HS5.out _ (Below.drew hB6), fillCells_of hq0.out⟩
            revert hHeld
            generalize World.drew _ = W6
            intro hHeld
            refine wpAnyH_take (i := 0) (oi := ⟨some 40, _, _, _, _, _⟩) (v := ?vb0Bx1) rfl (by kernel_rfl) (by kernel_rfl) (by kernel_rfl) (fun _ _ _ h => h) (Or.inl ⟨by rfl, ?yb0Bx1⟩) (by assumption) ?rb0Bx1
            case yb0Bx1 => (rintro w0 ⟨⟨sa, sb, sc, sd, se, sf, sg, sh⟩, ta, tb, tc, td, te⟩; go_simp; try with_reducible rfl)
            try simp only [Act.put, List.setIfInBounds_toArray, List.set_cons_zero, List.set_cons_succ]
            refine wpAnyH_take (i := 1) (oi := ⟨some 41, _, _, _, _, _⟩) (v := ?vb0Bx2) rfl (by kernel_rfl) (by kernel_rfl) (by kernel_rfl) (fun _ _ _ h => h) (Or.inl ⟨by rfl, ?yb0Bx2⟩) (by assumption) ?rb0Bx2
            case yb0Bx2 => (rintro w0 ⟨⟨sa, sb, sc, sd, se, sf, sg, sh⟩, ta, tb, tc, td, te⟩; go_simp; try with_reducible rfl)
            try simp only [Act.put, List.setIfInBounds_toArray, List.set_cons_zero, List.set_cons_succ]
            refine wpAnyH_take (i := 2) (oi := ⟨some 42, _, _, _, _, _⟩) (v := ?vb0Bx3) rfl (by kernel_rfl) (by kernel_rfl) (by kernel_rfl) (fun _ _ _ h => h) (Or.inl ⟨by rfl, ?yb0Bx3⟩) (by assumption) ?rb0Bx3
            case yb0Bx3 => (rintro w0 ⟨⟨sa, sb, sc, sd, se, sf, sg, sh⟩, ta, tb, tc, td, te⟩; go_simp; try with_reducible rfl)
            try simp only [Act.put, List.setIfInBounds_toArray, List.set_cons_zero, List.set_cons_succ]
            refine wpAnyH_take (i := 3) (oi := ⟨some 43, _, _, _, _, _⟩) (v := ?vb0Bx4) rfl (by kernel_rfl) (by kernel_rfl) (by kernel_rfl) (fun _ _ _ h => h) (Or.inl ⟨by rfl, ?yb0Bx4⟩) (by assumption) ?rb0Bx4
            case yb0Bx4 => (rintro w0 ⟨⟨sa, sb, sc, sd, se, sf, sg, sh⟩, ta, tb, tc, td, te⟩; go_simp; try with_reducible rfl)
            try simp only [Act.put, List.setIfInBounds_toArray, List.set_cons_zero, List.set_cons_succ]
            refine wpAnyH_take (i := 4) (oi := ⟨some 44, _, _, _, _, _⟩) (v := ?vb0Bx5) rfl (by kernel_rfl) (by kernel_rfl) (by kernel_rfl) (fun _ _ _ h => h) (Or.inl ⟨by rfl, ?yb0Bx5⟩) (by assumption) ?rb0Bx5
            case yb0Bx5 => (rintro w0 ⟨⟨sa, sb, sc, sd, se, sf, sg, sh⟩, ta, tb, tc, td, te⟩; go_simp; try with_reducible rfl)
            try simp only [Act.put, List.setIfInBounds_toArray, List.set_cons_zero, List.set_cons_succ]
            refine wpAnyH_take (i := 5) (oi := ⟨some 45, _, _, _, _, _⟩) (v := ?vb0Bx6) rfl (by kernel_rfl) (by kernel_rfl) (by kernel_rfl) (fun _ _ _ h => h) (Or.inl ⟨by rfl, ?yb0Bx6⟩) (by assumption) ?rb0Bx6
            case yb0Bx6 => (rintro w0 ⟨⟨sa, sb, sc, sd, se, sf, sg, sh⟩, ta, tb, tc, td, te⟩; go_simp; try with_reducible rfl)
            try simp only [Act.put, List.setIfInBounds_toArray, List.set_cons_zero, List.set_cons_succ]
            refine wpAnyH_take (i := 6) (oi := ⟨some 46, _, _, _, _, _⟩) (v := ?vb0Bx7) rfl (by kernel_rfl) (by kernel_rfl) (by kernel_rfl) (fun _ _ _ h => h) (Or.inl ⟨by rfl, ?yb0Bx7⟩) (by assumption) ?rb0Bx7
            case yb0Bx7 => (rintro w0 ⟨⟨sa, sb, sc, sd, se, sf, sg, sh⟩, ta, tb, tc, td, te⟩; go_simp; try with_reducible rfl)
            try simp only [Act.put, List.setIfInBounds_toArray, List.set_cons_zero, List.set_cons_succ]
            refine wpAnyH_take (i := 7) (oi := ⟨some 47, _, _, _, _, _⟩) (v := ?vb0Bx8) rfl (by kernel_rfl) (by kernel_rfl) (by kernel_rfl) (fun _ _ _ h => h) (Or.inl ⟨by rfl, ?yb0Bx8⟩) (by assumption) ?rb0Bx8
            case yb0Bx8 => (rintro w0 ⟨⟨sa, sb, sc, sd, se, sf, sg, sh⟩, ta, tb, tc, td, te⟩; go_simp; try with_reducible rfl)
            try simp only [Act.put, List.setIfInBounds_toArray, List.set_cons_zero, List.set_cons_succ]
            refine wpAnyH_take (i := 8) (oi := ⟨some 48, _, _, _, _, _⟩) (v := ?vb0Bx9) rfl (by kernel_rfl) (by kernel_rfl) (by kernel_rfl) (fun _ _ _ h => h) (Or.inl ⟨by rfl, ?yb0Bx9⟩) (by assumption) ?rb0Bx9
            case yb0Bx9 => (rintro w0 ⟨⟨sa, sb, sc, sd, se, sf, sg, sh⟩, ta, tb, tc, td, te⟩; go_simp; try with_reducible rfl)
            try simp only [Act.put, List.setIfInBounds_toArray, List.set_cons_zero, List.set_cons_succ]
            refine wpAnyH_take (i := 9) (oi := ⟨some 49, _, _, _, _, _⟩) (v := ?vb0Bx10) rfl (by kernel_rfl) (by kernel_rfl) (by kernel_rfl) (fun _ _ _ h => h) (Or.inl ⟨by rfl, ?yb0Bx10⟩) (by assumption) ?rb0Bx10
            case yb0Bx10 => (rintro w0 ⟨⟨sa, sb, sc, sd, se, sf, sg, sh⟩, ta, tb, tc, td, te⟩; go_simp; try with_reducible rfl)
            try simp only [Act.put, List.setIfInBounds_toArray, List.set_cons_zero, List.set_cons_succ]
            refine wpAnyH_take (i := 10) (oi := ⟨some 50, _, _, _, _, _⟩) (v := ?vb0Bx11) rfl (by kernel_rfl) (by kernel_rfl) (by kernel_rfl) (fun _ _ _ h => h) (Or.inl ⟨by rfl, ?yb0Bx11⟩) (by assumption) ?rb0Bx11
            case yb0Bx11 => (rintro w0 ⟨⟨sa, sb, sc, sd, se, sf, sg, sh⟩, ta, tb, tc, td, te⟩; go_simp; try with_reducible rfl)
            try simp only [Act.put, List.setIfInBounds_toArray, List.set_cons_zero, List.set_cons_succ]
            refine wpAnyH_take (i := 11) (oi := ⟨some 51, _, _, _, _, _⟩) (v := ?vb0Bx12) rfl (by kernel_rfl) (by kernel_rfl) (by kernel_rfl) (fun _ _ _ h => h) (Or.inl ⟨by rfl, ?yb0Bx12⟩) (by assumption) ?rb0Bx12
            case yb0Bx12 => (rintro w0 ⟨⟨sa, sb, sc, sd, se, sf, sg, sh⟩, ta, tb, tc, td, te⟩; go_simp; try with_reducible rfl)
            try simp only [Act.put, List.setIfInBounds_toArray, List.set_cons_zero, List.set_cons_succ]
            refine wpAnyH_take (i := 12) (oi := ⟨some 52, _, _, _, _, _⟩) (v := ?vb0Bx13) rfl (by kernel_rfl) (by kernel_rfl) (by kernel_rfl) (fun _ _ _ h => h) (Or.inl ⟨by rfl, ?yb0Bx13⟩) (by assumption) ?rb0Bx13
            case yb0Bx13 => (rintro w0 ⟨⟨sa, sb, sc, sd, se, sf, sg, sh⟩, ta, tb, tc, td, te⟩; go_simp; try with_reducible rfl)
            try simp only [Act.put, List.setIfInBounds_toArray, List.set_cons_zero, List.set_cons_succ]
            refine wpAnyH_take (i := 13) (oi := ⟨some 53, _, _, _, _, _⟩) (v := ?vb0Bx14) rfl (by kernel_rfl) (by kernel_rfl) (by kernel_rfl) (fun _ _ _ h => h) (Or.inl ⟨by rfl, ?yb0Bx14⟩) (by assumption) ?rb0Bx14
            case yb0Bx14 => (rintro w0 ⟨⟨sa, sb, sc, sd, se, sf, sg, sh⟩, ta, tb, tc, td, te⟩; go_simp; try with_reducible rfl)
            try simp only [Act.put, List.setIfInBounds_toArray, List.set_cons_zero, List.set_cons_succ]
            refine wpAnyH_take (i := 14) (oi := ⟨some 54, _, _, _, _, _⟩) (v := ?vb0Bx15) rfl (by kernel_rfl) (by kernel_rfl) (by kernel_rfl) (fun _ _ _ h => h) (Or.inl ⟨by rfl, ?yb0Bx15⟩) (by assumption) ?rb0Bx15
            case yb0Bx15 => (rintro w0 ⟨⟨sa, sb, sc, sd, se, sf, sg, sh⟩, ta, tb, tc, td, te⟩; go_simp; try with_reducible rfl)
            try simp only [Act.put, List.setIfInBounds_toArray, List.set_cons_zero, List.set_cons_succ]
            refine wpAnyH_take (i := 15) (oi := ⟨some 55, _, _, _, _, _⟩) (v := ?vb0Bx16) rfl (by kernel_rfl) (by kernel_rfl) (by kernel_rfl) (fun _ _ _ h => h) (Or.inl ⟨by rfl, ?yb0Bx16⟩) (by assumption) ?rb0Bx16
            case yb0Bx16 => (rintro w0 ⟨⟨sa, sb, sc, sd, se, sf, sg, sh⟩, ta, tb, tc, td, te⟩; go_simp; try with_reducible rfl)
            try simp only [Act.put, List.setIfInBounds_toArray, List.set_cons_zero, List.set_cons_succ]
            refine wpAnyH_take (i := 16) (oi := ⟨some 56, _, _, _, _, _⟩) (v := ?vb0Bx17) rfl (by kernel_rfl) (by kernel_rfl) (by kernel_rfl) (fun _ _ _ h => h) (Or.inl ⟨by rfl, ?yb0Bx17⟩) (by assumption) ?rb0Bx17
            case yb0Bx17 => (rintro w0 ⟨⟨sa, sb, sc, sd, se, sf, sg, sh⟩, ta, tb, tc, td, te⟩; go_simp; try with_reducible rfl)
            try simp only [Act.put, List.setIfInBounds_toArray, List.set_cons_zero, List.set_cons_succ]
            refine wpAnyH_take (i := 17) (oi := ⟨some 57, _, _, _, _, _⟩) (v := ?vb0Bx18) rfl (by kernel_rfl) (by kernel_rfl) (by kernel_rfl) (fun _ _ _ h => h) (Or.inl ⟨by rfl, ?yb0Bx18⟩) (by assumption) ?rb0Bx18
            case yb0Bx18 => (rintro w0 ⟨⟨sa, sb, sc, sd, se, sf, sg, sh⟩, ta, tb, tc, td, te⟩; go_simp; try with_reducible rfl)
            try simp only [Act.put, List.setIfInBounds_toArray, List.set_cons_zero, List.set_cons_succ]
            refine wpAnyH_take (i := 18) (oi := ⟨some 58, _, _, _, _, _⟩) (v := ?vb0Bx19) rfl (by kernel_rfl) (by kernel_rfl) (by kernel_rfl) (fun _ _ _ h => h) (Or.inl ⟨by rfl, ?yb0Bx19⟩) (by assumption) ?rb0Bx19
            case yb0Bx19 => (rintro w0 ⟨⟨sa, sb, sc, sd, se, sf, sg, sh⟩, ta, tb, tc, td, te⟩; go_simp; try with_reducible rfl)
            try simp only [Act.put, List.setIfInBounds_toArray, List.set_cons_zero, List.set_cons_succ]
            refine wpAnyH_take (i := 19) (oi := ⟨some 59, _, _, _, _, _⟩) (v := ?vb0Bx20) rfl (by kernel_rfl) (by kernel_rfl) (by kernel_rfl) (fun _ _ _ h => h) (Or.inl ⟨by rfl, ?yb0Bx20⟩) (by assumption) ?rb0Bx20
            case yb0Bx20 => (rintro w0 ⟨⟨sa, sb, sc, sd, se, sf, sg, sh⟩, ta, tb, tc, td, te⟩; go_simp; try with_reducible rfl)
            try simp only [Act.put, List.setIfInBounds_toArray, List.set_cons_zero, List.set_cons_succ]
            refine wpAnyH_take (i := 20) (oi := ⟨some 60, _, _, _, _, _⟩) (v := ?vb0Bx21) rfl (by kernel_rfl) (by kernel_rfl) (by kernel_rfl) (fun _ _ _ h => h) (Or.inl ⟨by rfl, ?yb0Bx21⟩) (by assumption) ?rb0Bx21
            case yb0Bx21 => (rintro w0 ⟨⟨sa, sb, sc, sd, se, sf, sg, sh⟩, ta, tb, tc, td, te⟩; go_simp; try with_reducible rfl)
            try simp only [Act.put, List.setIfInBounds_toArray, List.set_cons_zero, List.set_cons_succ]
            refine wpAnyH_take (i := 21) (oi := ⟨some 61, _, _, _, _, _⟩) (v := ?vb0Bx22) rfl (by kernel_rfl) (by kernel_rfl) (by kernel_rfl) (fun _ _ _ h => h) (Or.inl ⟨by rfl, ?yb0Bx22⟩) (by assumption) ?rb0Bx22
            case yb0Bx22 => (rintro w0 ⟨⟨sa, sb, sc, sd, se, sf, sg, sh⟩, ta, tb, tc, td, te⟩; go_simp; try with_reducible rfl)
            try simp only [Act.put, List.setIfInBounds_toArray, List.set_cons_zero, List.set_cons_succ]
            refine wpAnyH_ready (rs := [22]) (by kernel_rfl) (by simp) ?_
            refine AllReadyH.cons (o := ⟨some 62, _, _, _, _, _⟩) rfl (fun K1 hK1 => ?_) ?_
            · rw [if_pos (by rfl)]
              go_wp2_with (go_at_call 8; refine (void_may (V3.out.below hHeld.1.1) 0 seq taker to n most).mono ?_; rintro e w7 ⟨rfl, hb7⟩)
              have hB7 := hHeld.1.1.trans (hb7.mono hHeld.1.1.size)
              refine hK1.out _ _ ⟨HS5.out _ hB7, fillCells_below hb7 hHeld.2⟩ (fun hHeld => ?_)
              clear hK1 K1
              try simp only [Act.put, List.setIfInBounds_toArray, List.set_cons_zero, List.set_cons_succ]
              refine wpAnyH_take (i := 23) (oi := ⟨some 63, _, _, _, _, _⟩) (v := ?vb0Bx23) rfl (by kernel_rfl) (by kernel_rfl) (by kernel_rfl) (fun _ _ _ h => h) (Or.inl ⟨by rfl, ?yb0Bx23⟩) (by assumption) ?rb0Bx23
              case yb0Bx23 => (rintro w0 ⟨⟨sa, sb, sc, sd, se, sf, sg, sh⟩, ta, tb, tc, td, te⟩; go_simp; try with_reducible rfl)
              try simp only [Act.put, List.setIfInBounds_toArray, List.set_cons_zero, List.set_cons_succ]
              refine wpAnyH_take (i := 24) (oi := ⟨some 64, _, _, _, _, _⟩) (v := ?vb0Bx24) rfl (by kernel_rfl) (by kernel_rfl) (by kernel_rfl) (fun _ _ _ h => h) (Or.inl ⟨by rfl, ?yb0Bx24⟩) (by assumption) ?rb0Bx24
              case yb0Bx24 => (rintro w0 ⟨⟨sa, sb, sc, sd, se, sf, sg, sh⟩, ta, tb, tc, td, te⟩; go_simp; try with_reducible rfl)
              try simp only [Act.put, List.setIfInBounds_toArray, List.set_cons_zero, List.set_cons_succ]
              refine wpAnyH_done (by kernel_rfl) ?_ _
              have hB8 := hHeld.1.1
              go_wp2
              all_goals
                go_roundg 3
                case measure => omega
                case rel => exact ⟨1, by omega, by omega, rfl, hB8⟩
            exact AllReadyH.nil
          exact AllReadyH.nil
        exact AllReadyH.nil
      exact AllReadyH.nil
    · have HS5 := Lib.hid (VHold.of (W3 := W3) (gl := gl) (g0 := g0) (k := 2) (L := some ⟨b1, 0, none⟩) (B := none) (seq := seq) (taker := taker) (to := to) (n := n) (most := most) ⟨Below.refl _ _, QL.out 2 _ rfl, QL.out 3 _ rfl, QA.out 0 _ rfl, QA.out 1 _ rfl, QA.out 2 _ rfl, QA.out 3 _ rfl, QA.out 4 _ rfl⟩)
      go_wp2
      refine wp_region_held_drew (S := VHold W3 gl g0 2 (some ⟨b1, 0, none⟩) none seq taker to n most) (by kernel_rfl) ?_ (fun hHeld => ?_)
      · exact HS5.out _ (Below.drew BW.out)
      revert hHeld
      have hle0 : W3.heap.size ≤ (World.drew wr).heap.size := BW.out.size
      revert hle0
      generalize World.drew _ = W0
      intro hle0 hHeld
      refine wpAnyH_take (i := 0) (oi := ⟨some 25, _, _, _, _, _⟩) (v := ?va1x1) rfl (by kernel_rfl) (by kernel_rfl) (by kernel_rfl) (fun _ _ _ h => h) (Or.inl ⟨by rfl, ?ya1x1⟩) (by assumption) ?ra1x1
      case ya1x1 => (rintro w0 ⟨sa, sb, sc, sd, se, sf, sg, sh⟩; go_simp; try with_reducible rfl)
      try simp only [Act.put, List.setIfInBounds_toArray, List.set_cons_zero, List.set_cons_succ]
      refine wpAnyH_take (i := 1) (oi := ⟨some 26, _, _, _, _, _⟩) (v := ?va1x2) rfl (by kernel_rfl) (by kernel_rfl) (by kernel_rfl) (fun _ _ _ h => h) (Or.inl ⟨by rfl, ?ya1x2⟩) (by assumption) ?ra1x2
      case ya1x2 => (rintro w0 ⟨sa, sb, sc, sd, se, sf, sg, sh⟩; go_simp; try with_reducible rfl)
      try simp only [Act.put, List.setIfInBounds_toArray, List.set_cons_zero, List.set_cons_succ]
      refine wpAnyH_take (i := 2) (oi := ⟨some 27, _, _, _, _, _⟩) (v := ?va1x3) rfl (by kernel_rfl) (by kernel_rfl) (by kernel_rfl) (fun _ _ _ h => h) (Or.inl ⟨by rfl, ?ya1x3⟩) (by assumption) ?ra1x3
      case ya1x3 => (rintro w0 ⟨sa, sb, sc, sd, se, sf, sg, sh⟩; go_simp; try with_reducible rfl)
      try simp only [Act.put, List.setIfInBounds_toArray, List.set_cons_zero, List.set_cons_succ]
      refine wpAnyH_take (i := 3) (oi := ⟨some 28, _, _, _, _, _⟩) (v := ?va1x4) rfl (by kernel_rfl) (by kernel_rfl) (by kernel_rfl) (fun _ _ _ h => h) (Or.inl ⟨by rfl, ?ya1x4⟩) (by assumption) ?ra1x4
      case ya1x4 => (rintro w0 ⟨sa, sb, sc, sd, se, sf, sg, sh⟩; go_simp; try with_reducible rfl)
      try simp only [Act.put, List.setIfInBounds_toArray, List.set_cons_zero, List.set_cons_succ]
      refine wpAnyH_take (i := 4) (oi := ⟨some 29, _, _, _, _, _⟩) (v := ?va1x5) rfl (by kernel_rfl) (by kernel_rfl) (by kernel_rfl) (fun _ _ _ h => h) (Or.inl ⟨by rfl, ?ya1x5⟩) (by assumption) ?ra1x5
      case ya1x5 => (rintro w0 ⟨sa, sb, sc, sd, se, sf, sg, sh⟩; go_simp; try with_reducible rfl)
      try simp only [Act.put, List.setIfInBounds_toArray, List.set_cons_zero, List.set_cons_succ]
      refine wpAnyH_take (i := 5) (oi := ⟨some 30, _, _, _, _, _⟩) (v := ?va1x6) rfl (by kernel_rfl) (by kernel_rfl) (by kernel_rfl) (fun _ _ _ h => h) (Or.inl ⟨by rfl, ?ya1x6⟩) (by assumption) ?ra1x6
      case ya1x6 => (rintro w0 ⟨sa, sb, sc, sd, se, sf, sg, sh⟩; go_simp; try with_reducible rfl)
      try simp only [Act.put, List.setIfInBounds_toArray, List.set_cons_zero, List.set_cons_succ]
      refine wpAnyH_take (i := 6) (oi := ⟨some 31, _, _, _, _, _⟩) (v := ?va1x7) rfl (by kernel_rfl) (by kernel_rfl) (by kernel_rfl) (fun _ _ _ h => h) (Or.inl ⟨by rfl, ?ya1x7⟩) (by assumption) ?ra1x7
      case ya1x7 => (rintro w0 ⟨sa, sb, sc, sd, se, sf, sg, sh⟩; go_simp; try with_reducible rfl)
      try simp only [Act.put, List.setIfInBounds_toArray, List.set_cons_zero, List.set_cons_succ]
      refine wpAnyH_take (i := 7) (oi := ⟨some 32, _, _, _, _, _⟩) (v := ?va1x8) rfl (by kernel_rfl) (by kernel_rfl) (by kernel_rfl) (fun _ _ _ h => h) (Or.inl ⟨by rfl, ?ya1x8⟩) (by assumption) ?ra1x8
      case ya1x8 => (rintro w0 ⟨sa, sb, sc, sd, se, sf, sg, sh⟩; go_simp; try with_reducible rfl)
      try simp only [Act.put, List.setIfInBounds_toArray, List.set_cons_zero, List.set_cons_succ]
      refine wpAnyH_take (i := 8) (oi := ⟨some 33, _, _, _, _, _⟩) (v := ?va1x9) rfl (by kernel_rfl) (by kernel_rfl) (by kernel_rfl) (fun _ _ _ h => h) (Or.inl ⟨by rfl, ?ya1x9⟩) (by assumption) ?ra1x9
      case ya1x9 => (rintro w0 ⟨sa, sb, sc, sd, se, sf, sg, sh⟩; go_simp; try with_reducible rfl)
      try simp only [Act.put, List.setIfInBounds_toArray, List.set_cons_zero, List.set_cons_succ]
      refine wpAnyH_take (i := 9) (oi := ⟨some 34, _, _, _, _, _⟩) (v := ?va1x10) rfl (by kernel_rfl) (by kernel_rfl) (by kernel_rfl) (fun _ _ _ h => h) (Or.inl ⟨by rfl, ?ya1x10⟩) (by assumption) ?ra1x10
      case ya1x10 => (rintro w0 ⟨sa, sb, sc, sd, se, sf, sg, sh⟩; go_simp; try with_reducible rfl)
      try simp only [Act.put, List.setIfInBounds_toArray, List.set_cons_zero, List.set_cons_succ]
      refine wpAnyH_take (i := 10) (oi := ⟨some 35, _, _, _, _, _⟩) (v := ?va1x11) rfl (by kernel_rfl) (by kernel_rfl) (by kernel_rfl) (fun _ _ _ h => h) (Or.inl ⟨by rfl, ?ya1x11⟩) (by assumption) ?ra1x11
      case ya1x11 => (rintro w0 ⟨sa, sb, sc, sd, se, sf, sg, sh⟩; go_simp; try with_reducible rfl)
      try simp only [Act.put, List.setIfInBounds_toArray, List.set_cons_zero, List.set_cons_succ]
      refine wpAnyH_take (i := 11) (oi := ⟨some 36, _, _, _, _, _⟩) (v := ?va1x12) rfl (by kernel_rfl) (by kernel_rfl) (by kernel_rfl) (fun _ _ _ h => h) (Or.inl ⟨by rfl, ?ya1x12⟩) (by assumption) ?ra1x12
      case ya1x12 => (rintro w0 ⟨sa, sb, sc, sd, se, sf, sg, sh⟩; go_simp; try with_reducible rfl)
      try simp only [Act.put, List.setIfInBounds_toArray, List.set_cons_zero, List.set_cons_succ]
      refine wpAnyH_ready (rs := [12, 16]) (by kernel_rfl) (by simp) ?_
      refine AllReadyH.cons (o := ⟨some 37, _, _, _, _, _⟩) rfl (fun K1 hK1 => ?_) ?_
      · rw [if_pos (by rfl)]
        go_wp2_with (go_at_call 7; refine (void_do (V3.out.below hHeld.1) 1 seq taker to n).mono ?_; rintro e w5 ⟨rfl, hb5⟩)
        have hB5 := hHeld.1.trans (hb5.mono hHeld.1.size)
        refine hK1.out _ _ (HS5.out _ (hHeld.1.trans (hb5.mono hHeld.1.size))) (fun hHeld => ?_)
        clear hK1 K1
        try simp only [Act.put, List.setIfInBounds_toArray, List.set_cons_zero, List.set_cons_succ]
        refine wpAnyH_take (i := 13) (oi := ⟨some 24, _, _, _, _, _⟩) (v := ?va1x13) rfl (by kernel_rfl) (by kernel_rfl) (by kernel_rfl) (fun _ _ _ h => h) (Or.inl ⟨by rfl, ?ya1x13⟩) (by assumption) ?ra1x13
        case ya1x13 => (rintro w0 ⟨sa, sb, sc, sd, se, sf, sg, sh⟩; go_simp; try with_reducible rfl)
        try simp only [Act.put, List.setIfInBounds_toArray, List.set_cons_zero, List.set_cons_succ]
        refine wpAnyH_take (i := 14) (oi := ⟨some 38, _, _, _, _, _⟩) (v := ?va1x14) rfl (by kernel_rfl) (by kernel_rfl) (by kernel_rfl) (fun _ _ _ h => h) (Or.inl ⟨by rfl, ?ya1x14⟩) (by assumption) ?ra1x14
        case ya1x14 => (rintro w0 ⟨sa, sb, sc, sd, se, sf, sg, sh⟩; go_simp; try with_reducible rfl)
        try simp only [Act.put, List.setIfInBounds_toArray, List.set_cons_zero, List.set_cons_succ]
        refine wpAnyH_take (i := 15) (oi := ⟨some 39, _, _, _, _, _⟩) (v := ?va1x15) rfl (by kernel_rfl) (by kernel_rfl) (by kernel_rfl) (fun _ _ _ h => h) (Or.inl ⟨by rfl, ?ya1x15⟩) (by assumption) ?ra1x15
        case ya1x15 => (rintro w0 ⟨sa, sb, sc, sd, se, sf, sg, sh⟩; go_simp; try with_reducible rfl)
        try simp only [Act.put, List.setIfInBounds_toArray, List.set_cons_zero, List.set_cons_succ]
        refine wpAnyH_ready (rs := [16]) (by kernel_rfl) (by simp) ?_
        refine AllReadyH.cons (o := ⟨some 5, _, _, _, _, _⟩) rfl (fun K1 hK1 => ?_) ?_
        · rw [if_pos (by rfl)]
          go_simp
          refine hK1.out _ _ (HS5.out _ (hHeld.1.alloc hHeld.1.size _)) (fun hHeld => ?_)
          have kF := alloc_new w5 (.cells #[.int .u64 0, .int .u8 0, .int .u8 0, .int .i64 0, .int .i64 0] 41)
          have hle5 := (hB5).size
          clear hK1 K1
          try simp only [Act.put, List.setIfInBounds_toArray, List.set_cons_zero, List.set_cons_succ]
          refine wpAnyH_ready (rs := [17]) (by kernel_rfl) (by simp) ?_
          refine AllReadyH.cons (o := ⟨none, _, _, _, _, _⟩) rfl (fun K1 hK1 => ?_) ?_
          · rw [if_pos (by rfl)]
            refine wp_store_mid _ _ _ rfl _ 0 #[.int .u64 0, .int .u8 0, .int .u8 0, .int .i64 0, .int .i64 0] rfl rfl (thereFill kF) infoFill (by simp [Value.oneCell']) ?_
            have hq := World.rangeAt_setCells_same _ _ 0 [.int .u64 0, .int .u8 0, .int .u8 0, .int .i64 0, .int .i64 0] (thereFill kF)
            have hB6 := Below.setCells hHeld.1 (hle5) [.int .u64 0, .int .u8 0, .int .u8 0, .int .i64 0, .int .i64 0] 0
            refine hK1.out _ _ (HS5.out _ hB6) (fun hHeld => ?_)
            clear hK1 K1
            try simp only [Act.put]
            refine wpAnyH_take (i := 18) (oi := ⟨some 6, _, _, _, _, _⟩) (v := ?va1x16) rfl (by kernel_rfl) (by kernel_rfl) (by kernel_rfl) (fun _ _ _ h => h) (Or.inl ⟨by rfl, ?ya1x16⟩) (by assumption) ?ra1x16
            case ya1x16 => (rintro w0 ⟨sa, sb, sc, sd, se, sf, sg, sh⟩; go_simp; try with_reducible rfl)
            try simp only [Act.put, List.setIfInBounds_toArray, List.set_cons_zero, List.set_cons_succ]
            refine wpAnyH_done (by kernel_rfl) ?_ _
            have hq0 := Lib.hid hq
            clear hq
            have hB6 := hHeld.1
            go_wp2
            refine wp_region_held_drew (S := VHold2 W3 gl g0 2 (some ⟨b1, 0, none⟩) none seq taker to n most (w5.heap.size)) (by kernel_rfl) ?_ (fun hHeld => ?_)
            · exact ⟨HS5.out _ (Below.drew hB6), fillCells_of hq0.out⟩
            revert hHeld
            generalize World.drew _ = W6
            intro hHeld
            refine wpAnyH_take (i := 0) (oi := ⟨some 40, _, _, _, _, _⟩) (v := ?vb1Ax1) rfl (by kernel_rfl) (by kernel_rfl) (by kernel_rfl) (fun _ _ _ h => h) (Or.inl ⟨by rfl, ?yb1Ax1⟩) (by assumption) ?rb1Ax1
            case yb1Ax1 => (rintro w0 ⟨⟨sa, sb, sc, sd, se, sf, sg, sh⟩, ta, tb, tc, td, te⟩; go_simp; try with_reducible rfl)
            try simp only [Act.put, List.setIfInBounds_toArray, List.set_cons_zero, List.set_cons_succ]
            refine wpAnyH_take (i := 1) (oi := ⟨some 41, _, _, _, _, _⟩) (v := ?vb1Ax2) rfl (by kernel_rfl) (by kernel_rfl) (by kernel_rfl) (fun _ _ _ h => h) (Or.inl ⟨by rfl, ?yb1Ax2⟩) (by assumption) ?rb1Ax2
            case yb1Ax2 => (rintro w0 ⟨⟨sa, sb, sc, sd, se, sf, sg, sh⟩, ta, tb, tc, td, te⟩; go_simp; try with_reducible rfl)
            try simp only [Act.put, List.setIfInBounds_toArray, List.set_cons_zero, List.set_cons_succ]
            refine wpAnyH_take (i := 2) (oi := ⟨some 42, _, _, _, _, _⟩) (v := ?vb1Ax3) rfl (by kernel_rfl) (by kernel_rfl) (by kernel_rfl) (fun _ _ _ h => h) (Or.inl ⟨by rfl, ?yb1Ax3⟩) (by assumption) ?rb1Ax3
            case yb1Ax3 => (rintro w0 ⟨⟨sa, sb, sc, sd, se, sf, sg, sh⟩, ta, tb, tc, td, te⟩; go_simp; try with_reducible rfl)
            try simp only [Act.put, List.setIfInBounds_toArray, List.set_cons_zero, List.set_cons_succ]
            refine wpAnyH_take (i := 3) (oi := ⟨some 43, _, _, _, _, _⟩) (v := ?vb1Ax4) rfl (by kernel_rfl) (by kernel_rfl) (by kernel_rfl) (fun _ _ _ h => h) (Or.inl ⟨by rfl, ?yb1Ax4⟩) (by assumption) ?rb1Ax4
            case yb1Ax4 => (rintro w0 ⟨⟨sa, sb, sc, sd, se, sf, sg, sh⟩, ta, tb, tc, td, te⟩; go_simp; try with_reducible rfl)
            try simp only [Act.put, List.setIfInBounds_toArray, List.set_cons_zero, List.set_cons_succ]
            refine wpAnyH_take (i := 4) (oi := ⟨some 44, _, _, _, _, _⟩) (v := ?vb1Ax5) rfl (by kernel_rfl) (by kernel_rfl) (by kernel_rfl) (fun _ _ _ h => h) (Or.inl ⟨by rfl, ?yb1Ax5⟩) (by assumption) ?rb1Ax5
            case yb1Ax5 => (rintro w0 ⟨⟨sa, sb, sc, sd, se, sf, sg, sh⟩, ta, tb, tc, td, te⟩; go_simp; try with_reducible rfl)
            try simp only [Act.put, List.setIfInBounds_toArray, List.set_cons_zero, List.set_cons_succ]
            refine wpAnyH_take (i := 5) (oi := ⟨some 45, _, _, _, _, _⟩) (v := ?vb1Ax6) rfl (by kernel_rfl) (by kernel_rfl) (by kernel_rfl) (fun _ _ _ h => h) (Or.inl ⟨by rfl, ?yb1Ax6⟩) (by assumption) ?rb1Ax6
            case yb1Ax6 => (rintro w0 ⟨⟨sa, sb, sc, sd, se, sf, sg, sh⟩, ta, tb, tc, td, te⟩; go_simp; try with_reducible rfl)
            try simp only [Act.put, List.setIfInBounds_toArray, List.set_cons_zero, List.set_cons_succ]
            refine wpAnyH_take (i := 6) (oi := ⟨some 46, _, _, _, _, _⟩) (v := ?vb1Ax7) rfl (by kernel_rfl) (by kernel_rfl) (by kernel_rfl) (fun _ _ _ h => h) (Or.inl ⟨by rfl, ?yb1Ax7⟩) (by assumption) ?rb1Ax7
            case yb1Ax7 => (rintro w0 ⟨⟨sa, sb, sc, sd, se, sf, sg, sh⟩, ta, tb, tc, td, te⟩; go_simp; try with_reducible rfl)
            try simp only [Act.put, List.setIfInBounds_toArray, List.set_cons_zero, List.set_cons_succ]
            refine wpAnyH_take (i := 7) (oi := ⟨some 47, _, _, _, _, _⟩) (v := ?vb1Ax8) rfl (by kernel_rfl) (by kernel_rfl) (by kernel_rfl) (fun _ _ _ h => h) (Or.inl ⟨by rfl, ?yb1Ax8⟩) (by assumption) ?rb1Ax8
            case yb1Ax8 => (rintro w0 ⟨⟨sa, sb, sc, sd, se, sf, sg, sh⟩, ta, tb, tc, td, te⟩; go_simp; try with_reducible rfl)
            try simp only [Act.put, List.setIfInBounds_toArray, List.set_cons_zero, List.set_cons_succ]
            refine wpAnyH_take (i := 8) (oi := ⟨some 48, _, _, _, _, _⟩) (v := ?vb1Ax9) rfl (by kernel_rfl) (by kernel_rfl) (by kernel_rfl) (fun _ _ _ h => h) (Or.inl ⟨by rfl, ?yb1Ax9⟩) (by assumption) ?rb1Ax9
            case yb1Ax9 => (rintro w0 ⟨⟨sa, sb, sc, sd, se, sf, sg, sh⟩, ta, tb, tc, td, te⟩; go_simp; try with_reducible rfl)
            try simp only [Act.put, List.setIfInBounds_toArray, List.set_cons_zero, List.set_cons_succ]
            refine wpAnyH_take (i := 9) (oi := ⟨some 49, _, _, _, _, _⟩) (v := ?vb1Ax10) rfl (by kernel_rfl) (by kernel_rfl) (by kernel_rfl) (fun _ _ _ h => h) (Or.inl ⟨by rfl, ?yb1Ax10⟩) (by assumption) ?rb1Ax10
            case yb1Ax10 => (rintro w0 ⟨⟨sa, sb, sc, sd, se, sf, sg, sh⟩, ta, tb, tc, td, te⟩; go_simp; try with_reducible rfl)
            try simp only [Act.put, List.setIfInBounds_toArray, List.set_cons_zero, List.set_cons_succ]
            refine wpAnyH_take (i := 10) (oi := ⟨some 50, _, _, _, _, _⟩) (v := ?vb1Ax11) rfl (by kernel_rfl) (by kernel_rfl) (by kernel_rfl) (fun _ _ _ h => h) (Or.inl ⟨by rfl, ?yb1Ax11⟩) (by assumption) ?rb1Ax11
            case yb1Ax11 => (rintro w0 ⟨⟨sa, sb, sc, sd, se, sf, sg, sh⟩, ta, tb, tc, td, te⟩; go_simp; try with_reducible rfl)
            try simp only [Act.put, List.setIfInBounds_toArray, List.set_cons_zero, List.set_cons_succ]
            refine wpAnyH_take (i := 11) (oi := ⟨some 51, _, _, _, _, _⟩) (v := ?vb1Ax12) rfl (by kernel_rfl) (by kernel_rfl) (by kernel_rfl) (fun _ _ _ h => h) (Or.inl ⟨by rfl, ?yb1Ax12⟩) (by assumption) ?rb1Ax12
            case yb1Ax12 => (rintro w0 ⟨⟨sa, sb, sc, sd, se, sf, sg, sh⟩, ta, tb, tc, td, te⟩; go_simp; try with_reducible rfl)
            try simp only [Act.put, List.setIfInBounds_toArray, List.set_cons_zero, List.set_cons_succ]
            refine wpAnyH_take (i := 12) (oi := ⟨some 52, _, _, _, _, _⟩) (v := ?vb1Ax13) rfl (by kernel_rfl) (by kernel_rfl) (by kernel_rfl) (fun _ _ _ h => h) (Or.inl ⟨by rfl, ?yb1Ax13⟩) (by assumption) ?rb1Ax13
            case yb1Ax13 => (rintro w0 ⟨⟨sa, sb, sc, sd, se, sf, sg, sh⟩, ta, tb, tc, td, te⟩; go_simp; try with_reducible rfl)
            try simp only [Act.put, List.setIfInBounds_toArray, List.set_cons_zero, List.set_cons_succ]
            refine wpAnyH_take (i := 13) (oi := ⟨some 53, _, _, _, _, _⟩) (v := ?vb1Ax14) rfl (by kernel_rfl) (by kernel_rfl) (by kernel_rfl) (fun _ _ _ h => h) (Or.inl ⟨by rfl, ?yb1Ax14⟩) (by assumption) ?rb1Ax14
            case yb1Ax14 => (rintro w0 ⟨⟨sa, sb, sc, sd, se, sf, sg, sh⟩, ta, tb, tc, td, te⟩; go_simp; try with_reducible rfl)
            try simp only [Act.put, List.setIfInBounds_toArray, List.set_cons_zero, List.set_cons_succ]
            refine wpAnyH_take (i := 14) (oi := ⟨some 54, _, _, _, _, _⟩) (v := ?vb1Ax15) rfl (by kernel_rfl) (by kernel_rfl) (by kernel_rfl) (fun _ _ _ h => h) (Or.inl ⟨by rfl, ?yb1Ax15⟩) (by assumption) ?rb1Ax15
            case yb1Ax15 => (rintro w0 ⟨⟨sa, sb, sc, sd, se, sf, sg, sh⟩, ta, tb, tc, td, te⟩; go_simp; try with_reducible rfl)
            try simp only [Act.put, List.setIfInBounds_toArray, List.set_cons_zero, List.set_cons_succ]
            refine wpAnyH_take (i := 15) (oi := ⟨some 55, _, _, _, _, _⟩) (v := ?vb1Ax16) rfl (by kernel_rfl) (by kernel_rfl) (by kernel_rfl) (fun _ _ _ h => h) (Or.inl ⟨by rfl, ?yb1Ax16⟩) (by assumption) ?rb1Ax16
            case yb1Ax16 => (rintro w0 ⟨⟨sa, sb, sc, sd, se, sf, sg, sh⟩, ta, tb, tc, td, te⟩; go_simp; try with_reducible rfl)
            try simp only [Act.put, List.setIfInBounds_toArray, List.set_cons_zero, List.set_cons_succ]
            refine wpAnyH_take (i := 16) (oi := ⟨some 56, _, _, _, _, _⟩) (v := ?vb1Ax17) rfl (by kernel_rfl) (by kernel_rfl) (by kernel_rfl) (fun _ _ _ h => h) (Or.inl ⟨by rfl, ?yb1Ax17⟩) (by assumption) ?rb1Ax17
            case yb1Ax17 => (rintro w0 ⟨⟨sa, sb, sc, sd, se, sf, sg, sh⟩, ta, tb, tc, td, te⟩; go_simp; try with_reducible rfl)
            try simp only [Act.put, List.setIfInBounds_toArray, List.set_cons_zero, List.set_cons_succ]
            refine wpAnyH_take (i := 17) (oi := ⟨some 57, _, _, _, _, _⟩) (v := ?vb1Ax18) rfl (by kernel_rfl) (by kernel_rfl) (by kernel_rfl) (fun _ _ _ h => h) (Or.inl ⟨by rfl, ?yb1Ax18⟩) (by assumption) ?rb1Ax18
            case yb1Ax18 => (rintro w0 ⟨⟨sa, sb, sc, sd, se, sf, sg, sh⟩, ta, tb, tc, td, te⟩; go_simp; try with_reducible rfl)
            try simp only [Act.put, List.setIfInBounds_toArray, List.set_cons_zero, List.set_cons_succ]
            refine wpAnyH_take (i := 18) (oi := ⟨some 58, _, _, _, _, _⟩) (v := ?vb1Ax19) rfl (by kernel_rfl) (by kernel_rfl) (by kernel_rfl) (fun _ _ _ h => h) (Or.inl ⟨by rfl, ?yb1Ax19⟩) (by assumption) ?rb1Ax19
            case yb1Ax19 => (rintro w0 ⟨⟨sa, sb, sc, sd, se, sf, sg, sh⟩, ta, tb, tc, td, te⟩; go_simp; try with_reducible rfl)
            try simp only [Act.put, List.setIfInBounds_toArray, List.set_cons_zero, List.set_cons_succ]
            refine wpAnyH_take (i := 19) (oi := ⟨some 59, _, _, _, _, _⟩) (v := ?vb1Ax20) rfl (by kernel_rfl) (by kernel_rfl) (by kernel_rfl) (fun _ _ _ h => h) (Or.inl ⟨by rfl, ?yb1Ax20⟩) (by assumption) ?rb1Ax20
            case yb1Ax20 => (rintro w0 ⟨⟨sa, sb, sc, sd, se, sf, sg, sh⟩, ta, tb, tc, td, te⟩; go_simp; try with_reducible rfl)
            try simp only [Act.put, List.setIfInBounds_toArray, List.set_cons_zero, List.set_cons_succ]
            refine wpAnyH_take (i := 20) (oi := ⟨some 60, _, _, _, _, _⟩) (v := ?vb1Ax21) rfl (by kernel_rfl) (by kernel_rfl) (by kernel_rfl) (fun _ _ _ h => h) (Or.inl ⟨by rfl, ?yb1Ax21⟩) (by assumption) ?rb1Ax21
            case yb1Ax21 => (rintro w0 ⟨⟨sa, sb, sc, sd, se, sf, sg, sh⟩, ta, tb, tc, td, te⟩; go_simp; try with_reducible rfl)
            try simp only [Act.put, List.setIfInBounds_toArray, List.set_cons_zero, List.set_cons_succ]
            refine wpAnyH_take (i := 21) (oi := ⟨some 61, _, _, _, _, _⟩) (v := ?vb1Ax22) rfl (by kernel_rfl) (by kernel_rfl) (by kernel_rfl) (fun _ _ _ h => h) (Or.inl ⟨by rfl, ?yb1Ax22⟩) (by assumption) ?rb1Ax22
            case yb1Ax22 => (rintro w0 ⟨⟨sa, sb, sc, sd, se, sf, sg, sh⟩, ta, tb, tc, td, te⟩; go_simp; try with_reducible rfl)
            try simp only [Act.put, List.setIfInBounds_toArray, List.set_cons_zero, List.set_cons_succ]
            refine wpAnyH_ready (rs := [22]) (by kernel_rfl) (by simp) ?_
            refine AllReadyH.cons (o := ⟨some 62, _, _, _, _, _⟩) rfl (fun K1 hK1 => ?_) ?_
            · rw [if_pos (by rfl)]
              go_wp2_with (go_at_call 8; refine (void_may (V3.out.below hHeld.1.1) 1 seq taker to n most).mono ?_; rintro e w7 ⟨rfl, hb7⟩)
              have hB7 := hHeld.1.1.trans (hb7.mono hHeld.1.1.size)
              refine hK1.out _ _ ⟨HS5.out _ hB7, fillCells_below hb7 hHeld.2⟩ (fun hHeld => ?_)
              clear hK1 K1
              try simp only [Act.put, List.setIfInBounds_toArray, List.set_cons_zero, List.set_cons_succ]
              refine wpAnyH_take (i := 23) (oi := ⟨some 63, _, _, _, _, _⟩) (v := ?vb1Ax23) rfl (by kernel_rfl) (by kernel_rfl) (by kernel_rfl) (fun _ _ _ h => h) (Or.inl ⟨by rfl, ?yb1Ax23⟩) (by assumption) ?rb1Ax23
              case yb1Ax23 => (rintro w0 ⟨⟨sa, sb, sc, sd, se, sf, sg, sh⟩, ta, tb, tc, td, te⟩; go_simp; try with_reducible rfl)
              try simp only [Act.put, List.setIfInBounds_toArray, List.set_cons_zero, List.set_cons_succ]
              refine wpAnyH_take (i := 24) (oi := ⟨some 64, _, _, _, _, _⟩) (v := ?vb1Ax24) rfl (by kernel_rfl) (by kernel_rfl) (by kernel_rfl) (fun _ _ _ h => h) (Or.inl ⟨by rfl, ?yb1Ax24⟩) (by assumption) ?rb1Ax24
              case yb1Ax24 => (rintro w0 ⟨⟨sa, sb, sc, sd, se, sf, sg, sh⟩, ta, tb, tc, td, te⟩; go_simp; try with_reducible rfl)
              try simp only [Act.put, List.setIfInBounds_toArray, List.set_cons_zero, List.set_cons_succ]
              refine wpAnyH_done (by kernel_rfl) ?_ _
              have hB8 := hHeld.1.1
              go_wp2
              all_goals
                go_roundg 2
                case measure => omega
                case rel => exact ⟨2, by omega, by omega, rfl, hB8⟩
            exact AllReadyH.nil
          exact AllReadyH.nil
        exact AllReadyH.nil
      refine AllReadyH.cons (o := ⟨some 5, _, _, _, _, _⟩) rfl (fun K1 hK1 => ?_) ?_
      · rw [if_pos (by rfl)]
        go_simp
        refine hK1.out _ _ (HS5.out _ (hHeld.1.alloc hHeld.1.size _)) (fun hHeld => ?_)
        clear hK1 K1
        try simp only [Act.put, List.setIfInBounds_toArray, List.set_cons_zero, List.set_cons_succ]
        refine wpAnyH_ready (rs := [12]) (by kernel_rfl) (by simp) ?_
        refine AllReadyH.cons (o := ⟨some 37, _, _, _, _, _⟩) rfl (fun K1 hK1 => ?_) ?_
        · rw [if_pos (by rfl)]
          go_wp2_with (go_at_call 7; refine (void_do (V3.out.below hHeld.1) 1 seq taker to n).mono ?_; rintro e w5 ⟨rfl, hb5⟩)
          have kF := (hb5.block _ (by simp)).trans (alloc_new W0 (.cells #[.int .u64 0, .int .u8 0, .int .u8 0, .int .i64 0, .int .i64 0] 41))
          refine hK1.out _ _ (HS5.out _ (hHeld.1.trans (hb5.mono hHeld.1.size))) (fun hHeld => ?_)
          have hle5 := hle0
          clear hK1 K1
          try simp only [Act.put, List.setIfInBounds_toArray, List.set_cons_zero, List.set_cons_succ]
          refine wpAnyH_take (i := 13) (oi := ⟨some 24, _, _, _, _, _⟩) (v := ?va1x17) rfl (by kernel_rfl) (by kernel_rfl) (by kernel_rfl) (fun _ _ _ h => h) (Or.inl ⟨by rfl, ?ya1x17⟩) (by assumption) ?ra1x17
          case ya1x17 => (rintro w0 ⟨sa, sb, sc, sd, se, sf, sg, sh⟩; go_simp; try with_reducible rfl)
          try simp only [Act.put, List.setIfInBounds_toArray, List.set_cons_zero, List.set_cons_succ]
          refine wpAnyH_take (i := 14) (oi := ⟨some 38, _, _, _, _, _⟩) (v := ?va1x18) rfl (by kernel_rfl) (by kernel_rfl) (by kernel_rfl) (fun _ _ _ h => h) (Or.inl ⟨by rfl, ?ya1x18⟩) (by assumption) ?ra1x18
          case ya1x18 => (rintro w0 ⟨sa, sb, sc, sd, se, sf, sg, sh⟩; go_simp; try with_reducible rfl)
          try simp only [Act.put, List.setIfInBounds_toArray, List.set_cons_zero, List.set_cons_succ]
          refine wpAnyH_take (i := 15) (oi := ⟨some 39, _, _, _, _, _⟩) (v := ?va1x19) rfl (by kernel_rfl) (by kernel_rfl) (by kernel_rfl) (fun _ _ _ h => h) (Or.inl ⟨by rfl, ?ya1x19⟩) (by assumption) ?ra1x19
          case ya1x19 => (rintro w0 ⟨sa, sb, sc, sd, se, sf, sg, sh⟩; go_simp; try with_reducible rfl)
          try simp only [Act.put, List.setIfInBounds_toArray, List.set_cons_zero, List.set_cons_succ]
          refine wpAnyH_ready (rs := [17]) (by kernel_rfl) (by simp) ?_
          refine AllReadyH.cons (o := ⟨none, _, _, _, _, _⟩) rfl (fun K1 hK1 => ?_) ?_
          · rw [if_pos (by rfl)]
            refine wp_store_mid _ _ _ rfl _ 0 #[.int .u64 0, .int .u8 0, .int .u8 0, .int .i64 0, .int .i64 0] rfl rfl (thereFill kF) infoFill (by simp [Value.oneCell']) ?_
            have hq := World.rangeAt_setCells_same _ _ 0 [.int .u64 0, .int .u8 0, .int .u8 0, .int .i64 0, .int .i64 0] (thereFill kF)
            have hB6 := Below.setCells hHeld.1 (hle5) [.int .u64 0, .int .u8 0, .int .u8 0, .int .i64 0, .int .i64 0] 0
            refine hK1.out _ _ (HS5.out _ hB6) (fun hHeld => ?_)
            clear hK1 K1
            try simp only [Act.put]
            refine wpAnyH_take (i := 18) (oi := ⟨some 6, _, _, _, _, _⟩) (v := ?va1x20) rfl (by kernel_rfl) (by kernel_rfl) (by kernel_rfl) (fun _ _ _ h => h) (Or.inl ⟨by rfl, ?ya1x20⟩) (by assumption) ?ra1x20
            case ya1x20 => (rintro w0 ⟨sa, sb, sc, sd, se, sf, sg, sh⟩; go_simp; try with_reducible rfl)
            try simp only [Act.put, List.setIfInBounds_toArray, List.set_cons_zero, List.set_cons_succ]
            refine wpAnyH_done (by kernel_rfl) ?_ _
            have hq0 := Lib.hid hq
            clear hq
            have hB6 := hHeld.1
            go_wp2
            refine wp_region_held_drew (S := VHold2 W3 gl g0 2 (some ⟨b1, 0, none⟩) none seq taker to n most (W0.heap.size)) (by kernel_rfl) ?_ (fun hHeld => ?_)
            · exact ⟨HS5.out _ (Below.drew hB6), fillCells_of hq0.out⟩
            revert hHeld
            generalize World.drew _ = W6
            intro hHeld
            refine wpAnyH_take (i := 0) (oi := ⟨some 40, _, _, _, _, _⟩) (v := ?vb1Bx1) rfl (by kernel_rfl) (by kernel_rfl) (by kernel_rfl) (fun _ _ _ h => h) (Or.inl ⟨by rfl, ?yb1Bx1⟩) (by assumption) ?rb1Bx1
            case yb1Bx1 => (rintro w0 ⟨⟨sa, sb, sc, sd, se, sf, sg, sh⟩, ta, tb, tc, td, te⟩; go_simp; try with_reducible rfl)
            try simp only [Act.put, List.setIfInBounds_toArray, List.set_cons_zero, List.set_cons_succ]
            refine wpAnyH_take (i := 1) (oi := ⟨some 41, _, _, _, _, _⟩) (v := ?vb1Bx2) rfl (by kernel_rfl) (by kernel_rfl) (by kernel_rfl) (fun _ _ _ h => h) (Or.inl ⟨by rfl, ?yb1Bx2⟩) (by assumption) ?rb1Bx2
            case yb1Bx2 => (rintro w0 ⟨⟨sa, sb, sc, sd, se, sf, sg, sh⟩, ta, tb, tc, td, te⟩; go_simp; try with_reducible rfl)
            try simp only [Act.put, List.setIfInBounds_toArray, List.set_cons_zero, List.set_cons_succ]
            refine wpAnyH_take (i := 2) (oi := ⟨some 42, _, _, _, _, _⟩) (v := ?vb1Bx3) rfl (by kernel_rfl) (by kernel_rfl) (by kernel_rfl) (fun _ _ _ h => h) (Or.inl ⟨by rfl, ?yb1Bx3⟩) (by assumption) ?rb1Bx3
            case yb1Bx3 => (rintro w0 ⟨⟨sa, sb, sc, sd, se, sf, sg, sh⟩, ta, tb, tc, td, te⟩; go_simp; try with_reducible rfl)
            try simp only [Act.put, List.setIfInBounds_toArray, List.set_cons_zero, List.set_cons_succ]
            refine wpAnyH_take (i := 3) (oi := ⟨some 43, _, _, _, _, _⟩) (v := ?vb1Bx4) rfl (by kernel_rfl) (by kernel_rfl) (by kernel_rfl) (fun _ _ _ h => h) (Or.inl ⟨by rfl, ?yb1Bx4⟩) (by assumption) ?rb1Bx4
            case yb1Bx4 => (rintro w0 ⟨⟨sa, sb, sc, sd, se, sf, sg, sh⟩, ta, tb, tc, td, te⟩; go_simp; try with_reducible rfl)
            try simp only [Act.put, List.setIfInBounds_toArray, List.set_cons_zero, List.set_cons_succ]
            refine wpAnyH_take (i := 4) (oi := ⟨some 44, _, _, _, _, _⟩) (v := ?vb1Bx5) rfl (by kernel_rfl) (by kernel_rfl) (by kernel_rfl) (fun _ _ _ h => h) (Or.inl ⟨by rfl, ?yb1Bx5⟩) (by assumption) ?rb1Bx5
            case yb1Bx5 => (rintro w0 ⟨⟨sa, sb, sc, sd, se, sf, sg, sh⟩, ta, tb, tc, td, te⟩; go_simp; try with_reducible rfl)
            try simp only [Act.put, List.setIfInBounds_toArray, List.set_cons_zero, List.set_cons_succ]
            refine wpAnyH_take (i := 5) (oi := ⟨some 45, _, _, _, _, _⟩) (v := ?vb1Bx6) rfl (by kernel_rfl) (by kernel_rfl) (by kernel_rfl) (fun _ _ _ h => h) (Or.inl ⟨by rfl, ?yb1Bx6⟩) (by assumption) ?rb1Bx6
            case yb1Bx6 => (rintro w0 ⟨⟨sa, sb, sc, sd, se, sf, sg, sh⟩, ta, tb, tc, td, te⟩; go_simp; try with_reducible rfl)
            try simp only [Act.put, List.setIfInBounds_toArray, List.set_cons_zero, List.set_cons_succ]
            refine wpAnyH_take (i := 6) (oi := ⟨some 46, _, _, _, _, _⟩) (v := ?vb1Bx7) rfl (by kernel_rfl) (by kernel_rfl) (by kernel_rfl) (fun _ _ _ h => h) (Or.inl ⟨by rfl, ?yb1Bx7⟩) (by assumption) ?rb1Bx7
            case yb1Bx7 => (rintro w0 ⟨⟨sa, sb, sc, sd, se, sf, sg, sh⟩, ta, tb, tc, td, te⟩; go_simp; try with_reducible rfl)
            try simp only [Act.put, List.setIfInBounds_toArray, List.set_cons_zero, List.set_cons_succ]
            refine wpAnyH_take (i := 7) (oi := ⟨some 47, _, _, _, _, _⟩) (v := ?vb1Bx8) rfl (by kernel_rfl) (by kernel_rfl) (by kernel_rfl) (fun _ _ _ h => h) (Or.inl ⟨by rfl, ?yb1Bx8⟩) (by assumption) ?rb1Bx8
            case yb1Bx8 => (rintro w0 ⟨⟨sa, sb, sc, sd, se, sf, sg, sh⟩, ta, tb, tc, td, te⟩; go_simp; try with_reducible rfl)
            try simp only [Act.put, List.setIfInBounds_toArray, List.set_cons_zero, List.set_cons_succ]
            refine wpAnyH_take (i := 8) (oi := ⟨some 48, _, _, _, _, _⟩) (v := ?vb1Bx9) rfl (by kernel_rfl) (by kernel_rfl) (by kernel_rfl) (fun _ _ _ h => h) (Or.inl ⟨by rfl, ?yb1Bx9⟩) (by assumption) ?rb1Bx9
            case yb1Bx9 => (rintro w0 ⟨⟨sa, sb, sc, sd, se, sf, sg, sh⟩, ta, tb, tc, td, te⟩; go_simp; try with_reducible rfl)
            try simp only [Act.put, List.setIfInBounds_toArray, List.set_cons_zero, List.set_cons_succ]
            refine wpAnyH_take (i := 9) (oi := ⟨some 49, _, _, _, _, _⟩) (v := ?vb1Bx10) rfl (by kernel_rfl) (by kernel_rfl) (by kernel_rfl) (fun _ _ _ h => h) (Or.inl ⟨by rfl, ?yb1Bx10⟩) (by assumption) ?rb1Bx10
            case yb1Bx10 => (rintro w0 ⟨⟨sa, sb, sc, sd, se, sf, sg, sh⟩, ta, tb, tc, td, te⟩; go_simp; try with_reducible rfl)
            try simp only [Act.put, List.setIfInBounds_toArray, List.set_cons_zero, List.set_cons_succ]
            refine wpAnyH_take (i := 10) (oi := ⟨some 50, _, _, _, _, _⟩) (v := ?vb1Bx11) rfl (by kernel_rfl) (by kernel_rfl) (by kernel_rfl) (fun _ _ _ h => h) (Or.inl ⟨by rfl, ?yb1Bx11⟩) (by assumption) ?rb1Bx11
            case yb1Bx11 => (rintro w0 ⟨⟨sa, sb, sc, sd, se, sf, sg, sh⟩, ta, tb, tc, td, te⟩; go_simp; try with_reducible rfl)
            try simp only [Act.put, List.setIfInBounds_toArray, List.set_cons_zero, List.set_cons_succ]
            refine wpAnyH_take (i := 11) (oi := ⟨some 51, _, _, _, _, _⟩) (v := ?vb1Bx12) rfl (by kernel_rfl) (by kernel_rfl) (by kernel_rfl) (fun _ _ _ h => h) (Or.inl ⟨by rfl, ?yb1Bx12⟩) (by assumption) ?rb1Bx12
            case yb1Bx12 => (rintro w0 ⟨⟨sa, sb, sc, sd, se, sf, sg, sh⟩, ta, tb, tc, td, te⟩; go_simp; try with_reducible rfl)
            try simp only [Act.put, List.setIfInBounds_toArray, List.set_cons_zero, List.set_cons_succ]
            refine wpAnyH_take (i := 12) (oi := ⟨some 52, _, _, _, _, _⟩) (v := ?vb1Bx13) rfl (by kernel_rfl) (by kernel_rfl) (by kernel_rfl) (fun _ _ _ h => h) (Or.inl ⟨by rfl, ?yb1Bx13⟩) (by assumption) ?rb1Bx13
            case yb1Bx13 => (rintro w0 ⟨⟨sa, sb, sc, sd, se, sf, sg, sh⟩, ta, tb, tc, td, te⟩; go_simp; try with_reducible rfl)
            try simp only [Act.put, List.setIfInBounds_toArray, List.set_cons_zero, List.set_cons_succ]
            refine wpAnyH_take (i := 13) (oi := ⟨some 53, _, _, _, _, _⟩) (v := ?vb1Bx14) rfl (by kernel_rfl) (by kernel_rfl) (by kernel_rfl) (fun _ _ _ h => h) (Or.inl ⟨by rfl, ?yb1Bx14⟩) (by assumption) ?rb1Bx14
            case yb1Bx14 => (rintro w0 ⟨⟨sa, sb, sc, sd, se, sf, sg, sh⟩, ta, tb, tc, td, te⟩; go_simp; try with_reducible rfl)
            try simp only [Act.put, List.setIfInBounds_toArray, List.set_cons_zero, List.set_cons_succ]
            refine wpAnyH_take (i := 14) (oi := ⟨some 54, _, _, _, _, _⟩) (v := ?vb1Bx15) rfl (by kernel_rfl) (by kernel_rfl) (by kernel_rfl) (fun _ _ _ h => h) (Or.inl ⟨by rfl, ?yb1Bx15⟩) (by assumption) ?rb1Bx15
            case yb1Bx15 => (rintro w0 ⟨⟨sa, sb, sc, sd, se, sf, sg, sh⟩, ta, tb, tc, td, te⟩; go_simp; try with_reducible rfl)
            try simp only [Act.put, List.setIfInBounds_toArray, List.set_cons_zero, List.set_cons_succ]
            refine wpAnyH_take (i := 15) (oi := ⟨some 55, _, _, _, _, _⟩) (v := ?vb1Bx16) rfl (by kernel_rfl) (by kernel_rfl) (by kernel_rfl) (fun _ _ _ h => h) (Or.inl ⟨by rfl, ?yb1Bx16⟩) (by assumption) ?rb1Bx16
            case yb1Bx16 => (rintro w0 ⟨⟨sa, sb, sc, sd, se, sf, sg, sh⟩, ta, tb, tc, td, te⟩; go_simp; try with_reducible rfl)
            try simp only [Act.put, List.setIfInBounds_toArray, List.set_cons_zero, List.set_cons_succ]
            refine wpAnyH_take (i := 16) (oi := ⟨some 56, _, _, _, _, _⟩) (v := ?vb1Bx17) rfl (by kernel_rfl) (by kernel_rfl) (by kernel_rfl) (fun _ _ _ h => h) (Or.inl ⟨by rfl, ?yb1Bx17⟩) (by assumption) ?rb1Bx17
            case yb1Bx17 => (rintro w0 ⟨⟨sa, sb, sc, sd, se, sf, sg, sh⟩, ta, tb, tc, td, te⟩; go_simp; try with_reducible rfl)
            try simp only [Act.put, List.setIfInBounds_toArray, List.set_cons_zero, List.set_cons_succ]
            refine wpAnyH_take (i := 17) (oi := ⟨some 57, _, _, _, _, _⟩) (v := ?vb1Bx18) rfl (by kernel_rfl) (by kernel_rfl) (by kernel_rfl) (fun _ _ _ h => h) (Or.inl ⟨by rfl, ?yb1Bx18⟩) (by assumption) ?rb1Bx18
            case yb1Bx18 => (rintro w0 ⟨⟨sa, sb, sc, sd, se, sf, sg, sh⟩, ta, tb, tc, td, te⟩; go_simp; try with_reducible rfl)
            try simp only [Act.put, List.setIfInBounds_toArray, List.set_cons_zero, List.set_cons_succ]
            refine wpAnyH_take (i := 18) (oi := ⟨some 58, _, _, _, _, _⟩) (v := ?vb1Bx19) rfl (by kernel_rfl) (by kernel_rfl) (by kernel_rfl) (fun _ _ _ h => h) (Or.inl ⟨by rfl, ?yb1Bx19⟩) (by assumption) ?rb1Bx19
            case yb1Bx19 => (rintro w0 ⟨⟨sa, sb, sc, sd, se, sf, sg, sh⟩, ta, tb, tc, td, te⟩; go_simp; try with_reducible rfl)
            try simp only [Act.put, List.setIfInBounds_toArray, List.set_cons_zero, List.set_cons_succ]
            refine wpAnyH_take (i := 19) (oi := ⟨some 59, _, _, _, _, _⟩) (v := ?vb1Bx20) rfl (by kernel_rfl) (by kernel_rfl) (by kernel_rfl) (fun _ _ _ h => h) (Or.inl ⟨by rfl, ?yb1Bx20⟩) (by assumption) ?rb1Bx20
            case yb1Bx20 => (rintro w0 ⟨⟨sa, sb, sc, sd, se, sf, sg, sh⟩, ta, tb, tc, td, te⟩; go_simp; try with_reducible rfl)
            try simp only [Act.put, List.setIfInBounds_toArray, List.set_cons_zero, List.set_cons_succ]
            refine wpAnyH_take (i := 20) (oi := ⟨some 60, _, _, _, _, _⟩) (v := ?vb1Bx21) rfl (by kernel_rfl) (by kernel_rfl) (by kernel_rfl) (fun _ _ _ h => h) (Or.inl ⟨by rfl, ?yb1Bx21⟩) (by assumption) ?rb1Bx21
            case yb1Bx21 => (rintro w0 ⟨⟨sa, sb, sc, sd, se, sf, sg, sh⟩, ta, tb, tc, td, te⟩; go_simp; try with_reducible rfl)
            try simp only [Act.put, List.setIfInBounds_toArray, List.set_cons_zero, List.set_cons_succ]
            refine wpAnyH_take (i := 21) (oi := ⟨some 61, _, _, _, _, _⟩) (v := ?vb1Bx22) rfl (by kernel_rfl) (by kernel_rfl) (by kernel_rfl) (fun _ _ _ h => h) (Or.inl ⟨by rfl, ?yb1Bx22⟩) (by assumption) ?rb1Bx22
            case yb1Bx22 => (rintro w0 ⟨⟨sa, sb, sc, sd, se, sf, sg, sh⟩, ta, tb, tc, td, te⟩; go_simp; try with_reducible rfl)
            try simp only [Act.put, List.setIfInBounds_toArray, List.set_cons_zero, List.set_cons_succ]
            refine wpAnyH_ready (rs := [22]) (by kernel_rfl) (by simp) ?_
            refine AllReadyH.cons (o := ⟨some 62, _, _, _, _, _⟩) rfl (fun K1 hK1 => ?_) ?_
            · rw [if_pos (by rfl)]
              go_wp2_with (go_at_call 8; refine (void_may (V3.out.below hHeld.1.1) 1 seq taker to n most).mono ?_; rintro e w7 ⟨rfl, hb7⟩)
              have hB7 := hHeld.1.1.trans (hb7.mono hHeld.1.1.size)
              refine hK1.out _ _ ⟨HS5.out _ hB7, fillCells_below hb7 hHeld.2⟩ (fun hHeld => ?_)
              clear hK1 K1
              try simp only [Act.put, List.setIfInBounds_toArray, List.set_cons_zero, List.set_cons_succ]
              refine wpAnyH_take (i := 23) (oi := ⟨some 63, _, _, _, _, _⟩) (v := ?vb1Bx23) rfl (by kernel_rfl) (by kernel_rfl) (by kernel_rfl) (fun _ _ _ h => h) (Or.inl ⟨by rfl, ?yb1Bx23⟩) (by assumption) ?rb1Bx23
              case yb1Bx23 => (rintro w0 ⟨⟨sa, sb, sc, sd, se, sf, sg, sh⟩, ta, tb, tc, td, te⟩; go_simp; try with_reducible rfl)
              try simp only [Act.put, List.setIfInBounds_toArray, List.set_cons_zero, List.set_cons_succ]
              refine wpAnyH_take (i := 24) (oi := ⟨some 64, _, _, _, _, _⟩) (v := ?vb1Bx24) rfl (by kernel_rfl) (by kernel_rfl) (by kernel_rfl) (fun _ _ _ h => h) (Or.inl ⟨by rfl, ?yb1Bx24⟩) (by assumption) ?rb1Bx24
              case yb1Bx24 => (rintro w0 ⟨⟨sa, sb, sc, sd, se, sf, sg, sh⟩, ta, tb, tc, td, te⟩; go_simp; try with_reducible rfl)
              try simp only [Act.put, List.setIfInBounds_toArray, List.set_cons_zero, List.set_cons_succ]
              refine wpAnyH_done (by kernel_rfl) ?_ _
              have hB8 := hHeld.1.1
              go_wp2
              all_goals
                go_roundg 2
                case measure => omega
                case rel => exact ⟨2, by omega, by omega, rfl, hB8⟩
            exact AllReadyH.nil
          exact AllReadyH.nil
        exact AllReadyH.nil
      exact AllReadyH.nil
    · have HS5 := Lib.hid (VHold.of (W3 := W3) (gl := gl) (g0 := g0) (k := 4) (L := none) (B := some ⟨bb, 0, none⟩) (seq := seq) (taker := taker) (to := to) (n := n) (most := most) ⟨Below.refl _ _, QL.out 4 _ rfl, QL.out 5 _ rfl, QA.out 0 _ rfl, QA.out 1 _ rfl, QA.out 2 _ rfl, QA.out 3 _ rfl, QA.out 4 _ rfl⟩)
      go_wp2
      refine wp_region_held_drew (S := VHold W3 gl g0 4 none (some ⟨bb, 0, none⟩) seq taker to n most) (by kernel_rfl) ?_ (fun hHeld => ?_)
      · exact HS5.out _ (Below.drew BW.out)
      revert hHeld
      have hle0 : W3.heap.size ≤ (World.drew wr).heap.size := BW.out.size
      revert hle0
      generalize World.drew _ = W0
      intro hle0 hHeld
      refine wpAnyH_take (i := 0) (oi := ⟨some 25, _, _, _, _, _⟩) (v := ?va2x1) rfl (by kernel_rfl) (by kernel_rfl) (by kernel_rfl) (fun _ _ _ h => h) (Or.inl ⟨by rfl, ?ya2x1⟩) (by assumption) ?ra2x1
      case ya2x1 => (rintro w0 ⟨sa, sb, sc, sd, se, sf, sg, sh⟩; go_simp; try with_reducible rfl)
      try simp only [Act.put, List.setIfInBounds_toArray, List.set_cons_zero, List.set_cons_succ]
      refine wpAnyH_take (i := 1) (oi := ⟨some 26, _, _, _, _, _⟩) (v := ?va2x2) rfl (by kernel_rfl) (by kernel_rfl) (by kernel_rfl) (fun _ _ _ h => h) (Or.inl ⟨by rfl, ?ya2x2⟩) (by assumption) ?ra2x2
      case ya2x2 => (rintro w0 ⟨sa, sb, sc, sd, se, sf, sg, sh⟩; go_simp; try with_reducible rfl)
      try simp only [Act.put, List.setIfInBounds_toArray, List.set_cons_zero, List.set_cons_succ]
      refine wpAnyH_take (i := 2) (oi := ⟨some 27, _, _, _, _, _⟩) (v := ?va2x3) rfl (by kernel_rfl) (by kernel_rfl) (by kernel_rfl) (fun _ _ _ h => h) (Or.inl ⟨by rfl, ?ya2x3⟩) (by assumption) ?ra2x3
      case ya2x3 => (rintro w0 ⟨sa, sb, sc, sd, se, sf, sg, sh⟩; go_simp; try with_reducible rfl)
      try simp only [Act.put, List.setIfInBounds_toArray, List.set_cons_zero, List.set_cons_succ]
      refine wpAnyH_take (i := 3) (oi := ⟨some 28, _, _, _, _, _⟩) (v := ?va2x4) rfl (by kernel_rfl) (by kernel_rfl) (by kernel_rfl) (fun _ _ _ h => h) (Or.inl ⟨by rfl, ?ya2x4⟩) (by assumption) ?ra2x4
      case ya2x4 => (rintro w0 ⟨sa, sb, sc, sd, se, sf, sg, sh⟩; go_simp; try with_reducible rfl)
      try simp only [Act.put, List.setIfInBounds_toArray, List.set_cons_zero, List.set_cons_succ]
      refine wpAnyH_take (i := 4) (oi := ⟨some 29, _, _, _, _, _⟩) (v := ?va2x5) rfl (by kernel_rfl) (by kernel_rfl) (by kernel_rfl) (fun _ _ _ h => h) (Or.inl ⟨by rfl, ?ya2x5⟩) (by assumption) ?ra2x5
      case ya2x5 => (rintro w0 ⟨sa, sb, sc, sd, se, sf, sg, sh⟩; go_simp; try with_reducible rfl)
      try simp only [Act.put, List.setIfInBounds_toArray, List.set_cons_zero, List.set_cons_succ]
      refine wpAnyH_take (i := 5) (oi := ⟨some 30, _, _, _, _, _⟩) (v := ?va2x6) rfl (by kernel_rfl) (by kernel_rfl) (by kernel_rfl) (fun _ _ _ h => h) (Or.inl ⟨by rfl, ?ya2x6⟩) (by assumption) ?ra2x6
      case ya2x6 => (rintro w0 ⟨sa, sb, sc, sd, se, sf, sg, sh⟩; go_simp; try with_reducible rfl)
      try simp only [Act.put, List.setIfInBounds_toArray, List.set_cons_zero, List.set_cons_succ]
      refine wpAnyH_take (i := 6) (oi := ⟨some 31, _, _, _, _, _⟩) (v := ?va2x7) rfl (by kernel_rfl) (by kernel_rfl) (by kernel_rfl) (fun _ _ _ h => h) (Or.inl ⟨by rfl, ?ya2x7⟩) (by assumption) ?ra2x7
      case ya2x7 => (rintro w0 ⟨sa, sb, sc, sd, se, sf, sg, sh⟩; go_simp; try with_reducible rfl)
      try simp only [Act.put, List.setIfInBounds_toArray, List.set_cons_zero, List.set_cons_succ]
      refine wpAnyH_take (i := 7) (oi := ⟨some 32, _, _, _, _, _⟩) (v := ?va2x8) rfl (by kernel_rfl) (by kernel_rfl) (by kernel_rfl) (fun _ _ _ h => h) (Or.inl ⟨by rfl, ?ya2x8⟩) (by assumption) ?ra2x8
      case ya2x8 => (rintro w0 ⟨sa, sb, sc, sd, se, sf, sg, sh⟩; go_simp; try with_reducible rfl)
      try simp only [Act.put, List.setIfInBounds_toArray, List.set_cons_zero, List.set_cons_succ]
      refine wpAnyH_take (i := 8) (oi := ⟨some 33, _, _, _, _, _⟩) (v := ?va2x9) rfl (by kernel_rfl) (by kernel_rfl) (by kernel_rfl) (fun _ _ _ h => h) (Or.inl ⟨by rfl, ?ya2x9⟩) (by assumption) ?ra2x9
      case ya2x9 => (rintro w0 ⟨sa, sb, sc, sd, se, sf, sg, sh⟩; go_simp; try with_reducible rfl)
      try simp only [Act.put, List.setIfInBounds_toArray, List.set_cons_zero, List.set_cons_succ]
      refine wpAnyH_take (i := 9) (oi := ⟨some 34, _, _, _, _, _⟩) (v := ?va2x10) rfl (by kernel_rfl) (by kernel_rfl) (by kernel_rfl) (fun _ _ _ h => h) (Or.inl ⟨by rfl, ?ya2x10⟩) (by assumption) ?ra2x10
      case ya2x10 => (rintro w0 ⟨sa, sb, sc, sd, se, sf, sg, sh⟩; go_simp; try with_reducible rfl)
      try simp only [Act.put, List.setIfInBounds_toArray, List.set_cons_zero, List.set_cons_succ]
      refine wpAnyH_take (i := 10) (oi := ⟨some 35, _, _, _, _, _⟩) (v := ?va2x11) rfl (by kernel_rfl) (by kernel_rfl) (by kernel_rfl) (fun _ _ _ h => h) (Or.inl ⟨by rfl, ?ya2x11⟩) (by assumption) ?ra2x11
      case ya2x11 => (rintro w0 ⟨sa, sb, sc, sd, se, sf, sg, sh⟩; go_simp; try with_reducible rfl)
      try simp only [Act.put, List.setIfInBounds_toArray, List.set_cons_zero, List.set_cons_succ]
      refine wpAnyH_take (i := 11) (oi := ⟨some 36, _, _, _, _, _⟩) (v := ?va2x12) rfl (by kernel_rfl) (by kernel_rfl) (by kernel_rfl) (fun _ _ _ h => h) (Or.inl ⟨by rfl, ?ya2x12⟩) (by assumption) ?ra2x12
      case ya2x12 => (rintro w0 ⟨sa, sb, sc, sd, se, sf, sg, sh⟩; go_simp; try with_reducible rfl)
      try simp only [Act.put, List.setIfInBounds_toArray, List.set_cons_zero, List.set_cons_succ]
      refine wpAnyH_ready (rs := [12, 16]) (by kernel_rfl) (by simp) ?_
      refine AllReadyH.cons (o := ⟨some 37, _, _, _, _, _⟩) rfl (fun K1 hK1 => ?_) ?_
      · rw [if_pos (by rfl)]
        go_wp2_with (go_at_call 7; refine (void_do (V3.out.below hHeld.1) 2 seq taker to n).mono ?_; rintro e w5 ⟨rfl, hb5⟩)
        have hB5 := hHeld.1.trans (hb5.mono hHeld.1.size)
        refine hK1.out _ _ (HS5.out _ (hHeld.1.trans (hb5.mono hHeld.1.size))) (fun hHeld => ?_)
        clear hK1 K1
        try simp only [Act.put, List.setIfInBounds_toArray, List.set_cons_zero, List.set_cons_succ]
        refine wpAnyH_take (i := 13) (oi := ⟨some 24, _, _, _, _, _⟩) (v := ?va2x13) rfl (by kernel_rfl) (by kernel_rfl) (by kernel_rfl) (fun _ _ _ h => h) (Or.inl ⟨by rfl, ?ya2x13⟩) (by assumption) ?ra2x13
        case ya2x13 => (rintro w0 ⟨sa, sb, sc, sd, se, sf, sg, sh⟩; go_simp; try with_reducible rfl)
        try simp only [Act.put, List.setIfInBounds_toArray, List.set_cons_zero, List.set_cons_succ]
        refine wpAnyH_take (i := 14) (oi := ⟨some 38, _, _, _, _, _⟩) (v := ?va2x14) rfl (by kernel_rfl) (by kernel_rfl) (by kernel_rfl) (fun _ _ _ h => h) (Or.inl ⟨by rfl, ?ya2x14⟩) (by assumption) ?ra2x14
        case ya2x14 => (rintro w0 ⟨sa, sb, sc, sd, se, sf, sg, sh⟩; go_simp; try with_reducible rfl)
        try simp only [Act.put, List.setIfInBounds_toArray, List.set_cons_zero, List.set_cons_succ]
        refine wpAnyH_take (i := 15) (oi := ⟨some 39, _, _, _, _, _⟩) (v := ?va2x15) rfl (by kernel_rfl) (by kernel_rfl) (by kernel_rfl) (fun _ _ _ h => h) (Or.inl ⟨by rfl, ?ya2x15⟩) (by assumption) ?ra2x15
        case ya2x15 => (rintro w0 ⟨sa, sb, sc, sd, se, sf, sg, sh⟩; go_simp; try with_reducible rfl)
        try simp only [Act.put, List.setIfInBounds_toArray, List.set_cons_zero, List.set_cons_succ]
        refine wpAnyH_ready (rs := [16]) (by kernel_rfl) (by simp) ?_
        refine AllReadyH.cons (o := ⟨some 5, _, _, _, _, _⟩) rfl (fun K1 hK1 => ?_) ?_
        · rw [if_pos (by rfl)]
          go_simp
          refine hK1.out _ _ (HS5.out _ (hHeld.1.alloc hHeld.1.size _)) (fun hHeld => ?_)
          have kF := alloc_new w5 (.cells #[.int .u64 0, .int .u8 0, .int .u8 0, .int .i64 0, .int .i64 0] 41)
          have hle5 := (hB5).size
          clear hK1 K1
          try simp only [Act.put, List.setIfInBounds_toArray, List.set_cons_zero, List.set_cons_succ]
          refine wpAnyH_ready (rs := [17]) (by kernel_rfl) (by simp) ?_
          refine AllReadyH.cons (o := ⟨none, _, _, _, _, _⟩) rfl (fun K1 hK1 => ?_) ?_
          · rw [if_pos (by rfl)]
            refine wp_store_mid _ _ _ rfl _ 0 #[.int .u64 0, .int .u8 0, .int .u8 0, .int .i64 0, .int .i64 0] rfl rfl (thereFill kF) infoFill (by simp [Value.oneCell']) ?_
            have hq := World.rangeAt_setCells_same _ _ 0 [.int .u64 0, .int .u8 0, .int .u8 0, .int .i64 0, .int .i64 0] (thereFill kF)
            have hB6 := Below.setCells hHeld.1 (hle5) [.int .u64 0, .int .u8 0, .int .u8 0, .int .i64 0, .int .i64 0] 0
            refine hK1.out _ _ (HS5.out _ hB6) (fun hHeld => ?_)
            clear hK1 K1
            try simp only [Act.put]
            refine wpAnyH_take (i := 18) (oi := ⟨some 6, _, _, _, _, _⟩) (v := ?va2x16) rfl (by kernel_rfl) (by kernel_rfl) (by kernel_rfl) (fun _ _ _ h => h) (Or.inl ⟨by rfl, ?ya2x16⟩) (by assumption) ?ra2x16
            case ya2x16 => (rintro w0 ⟨sa, sb, sc, sd, se, sf, sg, sh⟩; go_simp; try with_reducible rfl)
            try simp only [Act.put, List.setIfInBounds_toArray, List.set_cons_zero, List.set_cons_succ]
            refine wpAnyH_done (by kernel_rfl) ?_ _
            have hq0 := Lib.hid hq
            clear hq
            have hB6 := hHeld.1
            go_wp2
            refine wp_region_held_drew (S := VHold2 W3 gl g0 4 none (some ⟨bb, 0, none⟩) seq taker to n most (w5.heap.size)) (by kernel_rfl) ?_ (fun hHeld => ?_)
            · exact ⟨HS5.out _ (Below.drew hB6), fillCells_of hq0.out⟩
            revert hHeld
            generalize World.drew _ = W6
            intro hHeld
            refine wpAnyH_take (i := 0) (oi := ⟨some 40, _, _, _, _, _⟩) (v := ?vb2Ax1) rfl (by kernel_rfl) (by kernel_rfl) (by kernel_rfl) (fun _ _ _ h => h) (Or.inl ⟨by rfl, ?yb2Ax1⟩) (by assumption) ?rb2Ax1
            case yb2Ax1 => (rintro w0 ⟨⟨sa, sb, sc, sd, se, sf, sg, sh⟩, ta, tb, tc, td, te⟩; go_simp; try with_reducible rfl)
            try simp only [Act.put, List.setIfInBounds_toArray, List.set_cons_zero, List.set_cons_succ]
            refine wpAnyH_take (i := 1) (oi := ⟨some 41, _, _, _, _, _⟩) (v := ?vb2Ax2) rfl (by kernel_rfl) (by kernel_rfl) (by kernel_rfl) (fun _ _ _ h => h) (Or.inl ⟨by rfl, ?yb2Ax2⟩) (by assumption) ?rb2Ax2
            case yb2Ax2 => (rintro w0 ⟨⟨sa, sb, sc, sd, se, sf, sg, sh⟩, ta, tb, tc, td, te⟩; go_simp; try with_reducible rfl)
            try simp only [Act.put, List.setIfInBounds_toArray, List.set_cons_zero, List.set_cons_succ]
            refine wpAnyH_take (i := 2) (oi := ⟨some 42, _, _, _, _, _⟩) (v := ?vb2Ax3) rfl (by kernel_rfl) (by kernel_rfl) (by kernel_rfl) (fun _ _ _ h => h) (Or.inl ⟨by rfl, ?yb2Ax3⟩) (by assumption) ?rb2Ax3
            case yb2Ax3 => (rintro w0 ⟨⟨sa, sb, sc, sd, se, sf, sg, sh⟩, ta, tb, tc, td, te⟩; go_simp; try with_reducible rfl)
            try simp only [Act.put, List.setIfInBounds_toArray, List.set_cons_zero, List.set_cons_succ]
            refine wpAnyH_take (i := 3) (oi := ⟨some 43, _, _, _, _, _⟩) (v := ?vb2Ax4) rfl (by kernel_rfl) (by kernel_rfl) (by kernel_rfl) (fun _ _ _ h => h) (Or.inl ⟨by rfl, ?yb2Ax4⟩) (by assumption) ?rb2Ax4
            case yb2Ax4 => (rintro w0 ⟨⟨sa, sb, sc, sd, se, sf, sg, sh⟩, ta, tb, tc, td, te⟩; go_simp; try with_reducible rfl)
            try simp only [Act.put, List.setIfInBounds_toArray, List.set_cons_zero, List.set_cons_succ]
            refine wpAnyH_take (i := 4) (oi := ⟨some 44, _, _, _, _, _⟩) (v := ?vb2Ax5) rfl (by kernel_rfl) (by kernel_rfl) (by kernel_rfl) (fun _ _ _ h => h) (Or.inl ⟨by rfl, ?yb2Ax5⟩) (by assumption) ?rb2Ax5
            case yb2Ax5 => (rintro w0 ⟨⟨sa, sb, sc, sd, se, sf, sg, sh⟩, ta, tb, tc, td, te⟩; go_simp; try with_reducible rfl)
            try simp only [Act.put, List.setIfInBounds_toArray, List.set_cons_zero, List.set_cons_succ]
            refine wpAnyH_take (i := 5) (oi := ⟨some 45, _, _, _, _, _⟩) (v := ?vb2Ax6) rfl (by kernel_rfl) (by kernel_rfl) (by kernel_rfl) (fun _ _ _ h => h) (Or.inl ⟨by rfl, ?yb2Ax6⟩) (by assumption) ?rb2Ax6
            case yb2Ax6 => (rintro w0 ⟨⟨sa, sb, sc, sd, se, sf, sg, sh⟩, ta, tb, tc, td, te⟩; go_simp; try with_reducible rfl)
            try simp only [Act.put, List.setIfInBounds_toArray, List.set_cons_zero, List.set_cons_succ]
            refine wpAnyH_take (i := 6) (oi := ⟨some 46, _, _, _, _, _⟩) (v := ?vb2Ax7) rfl (by kernel_rfl) (by kernel_rfl) (by kernel_rfl) (fun _ _ _ h => h) (Or.inl ⟨by rfl, ?yb2Ax7⟩) (by assumption) ?rb2Ax7
            case yb2Ax7 => (rintro w0 ⟨⟨sa, sb, sc, sd, se, sf, sg, sh⟩, ta, tb, tc, td, te⟩; go_simp; try with_reducible rfl)
            try simp only [Act.put, List.setIfInBounds_toArray, List.set_cons_zero, List.set_cons_succ]
            refine wpAnyH_take (i := 7) (oi := ⟨some 47, _, _, _, _, _⟩) (v := ?vb2Ax8) rfl (by kernel_rfl) (by kernel_rfl) (by kernel_rfl) (fun _ _ _ h => h) (Or.inl ⟨by rfl, ?yb2Ax8⟩) (by assumption) ?rb2Ax8
            case yb2Ax8 => (rintro w0 ⟨⟨sa, sb, sc, sd, se, sf, sg, sh⟩, ta, tb, tc, td, te⟩; go_simp; try with_reducible rfl)
            try simp only [Act.put, List.setIfInBounds_toArray, List.set_cons_zero, List.set_cons_succ]
            refine wpAnyH_take (i := 8) (oi := ⟨some 48, _, _, _, _, _⟩) (v := ?vb2Ax9) rfl (by kernel_rfl) (by kernel_rfl) (by kernel_rfl) (fun _ _ _ h => h) (Or.inl ⟨by rfl, ?yb2Ax9⟩) (by assumption) ?rb2Ax9
            case yb2Ax9 => (rintro w0 ⟨⟨sa, sb, sc, sd, se, sf, sg, sh⟩, ta, tb, tc, td, te⟩; go_simp; try with_reducible rfl)
            try simp only [Act.put, List.setIfInBounds_toArray, List.set_cons_zero, List.set_cons_succ]
            refine wpAnyH_take (i := 9) (oi := ⟨some 49, _, _, _, _, _⟩) (v := ?vb2Ax10) rfl (by kernel_rfl) (by kernel_rfl) (by kernel_rfl) (fun _ _ _ h => h) (Or.inl ⟨by rfl, ?yb2Ax10⟩) (by assumption) ?rb2Ax10
            case yb2Ax10 => (rintro w0 ⟨⟨sa, sb, sc, sd, se, sf, sg, sh⟩, ta, tb, tc, td, te⟩; go_simp; try with_reducible rfl)
            try simp only [Act.put, List.setIfInBounds_toArray, List.set_cons_zero, List.set_cons_succ]
            refine wpAnyH_take (i := 10) (oi := ⟨some 50, _, _, _, _, _⟩) (v := ?vb2Ax11) rfl (by kernel_rfl) (by kernel_rfl) (by kernel_rfl) (fun _ _ _ h => h) (Or.inl ⟨by rfl, ?yb2Ax11⟩) (by assumption) ?rb2Ax11
            case yb2Ax11 => (rintro w0 ⟨⟨sa, sb, sc, sd, se, sf, sg, sh⟩, ta, tb, tc, td, te⟩; go_simp; try with_reducible rfl)
            try simp only [Act.put, List.setIfInBounds_toArray, List.set_cons_zero, List.set_cons_succ]
            refine wpAnyH_take (i := 11) (oi := ⟨some 51, _, _, _, _, _⟩) (v := ?vb2Ax12) rfl (by kernel_rfl) (by kernel_rfl) (by kernel_rfl) (fun _ _ _ h => h) (Or.inl ⟨by rfl, ?yb2Ax12⟩) (by assumption) ?rb2Ax12
            case yb2Ax12 => (rintro w0 ⟨⟨sa, sb, sc, sd, se, sf, sg, sh⟩, ta, tb, tc, td, te⟩; go_simp; try with_reducible rfl)
            try simp only [Act.put, List.setIfInBounds_toArray, List.set_cons_zero, List.set_cons_succ]
            refine wpAnyH_take (i := 12) (oi := ⟨some 52, _, _, _, _, _⟩) (v := ?vb2Ax13) rfl (by kernel_rfl) (by kernel_rfl) (by kernel_rfl) (fun _ _ _ h => h) (Or.inl ⟨by rfl, ?yb2Ax13⟩) (by assumption) ?rb2Ax13
            case yb2Ax13 => (rintro w0 ⟨⟨sa, sb, sc, sd, se, sf, sg, sh⟩, ta, tb, tc, td, te⟩; go_simp; try with_reducible rfl)
            try simp only [Act.put, List.setIfInBounds_toArray, List.set_cons_zero, List.set_cons_succ]
            refine wpAnyH_take (i := 13) (oi := ⟨some 53, _, _, _, _, _⟩) (v := ?vb2Ax14) rfl (by kernel_rfl) (by kernel_rfl) (by kernel_rfl) (fun _ _ _ h => h) (Or.inl ⟨by rfl, ?yb2Ax14⟩) (by assumption) ?rb2Ax14
            case yb2Ax14 => (rintro w0 ⟨⟨sa, sb, sc, sd, se, sf, sg, sh⟩, ta, tb, tc, td, te⟩; go_simp; try with_reducible rfl)
            try simp only [Act.put, List.setIfInBounds_toArray, List.set_cons_zero, List.set_cons_succ]
            refine wpAnyH_take (i := 14) (oi := ⟨some 54, _, _, _, _, _⟩) (v := ?vb2Ax15) rfl (by kernel_rfl) (by kernel_rfl) (by kernel_rfl) (fun _ _ _ h => h) (Or.inl ⟨by rfl, ?yb2Ax15⟩) (by assumption) ?rb2Ax15
            case yb2Ax15 => (rintro w0 ⟨⟨sa, sb, sc, sd, se, sf, sg, sh⟩, ta, tb, tc, td, te⟩; go_simp; try with_reducible rfl)
            try simp only [Act.put, List.setIfInBounds_toArray, List.set_cons_zero, List.set_cons_succ]
            refine wpAnyH_take (i := 15) (oi := ⟨some 55, _, _, _, _, _⟩) (v := ?vb2Ax16) rfl (by kernel_rfl) (by kernel_rfl) (by kernel_rfl) (fun _ _ _ h => h) (Or.inl ⟨by rfl, ?yb2Ax16⟩) (by assumption) ?rb2Ax16
            case yb2Ax16 => (rintro w0 ⟨⟨sa, sb, sc, sd, se, sf, sg, sh⟩, ta, tb, tc, td, te⟩; go_simp; try with_reducible rfl)
            try simp only [Act.put, List.setIfInBounds_toArray, List.set_cons_zero, List.set_cons_succ]
            refine wpAnyH_take (i := 16) (oi := ⟨some 56, _, _, _, _, _⟩) (v := ?vb2Ax17) rfl (by kernel_rfl) (by kernel_rfl) (by kernel_rfl) (fun _ _ _ h => h) (Or.inl ⟨by rfl, ?yb2Ax17⟩) (by assumption) ?rb2Ax17
            case yb2Ax17 => (rintro w0 ⟨⟨sa, sb, sc, sd, se, sf, sg, sh⟩, ta, tb, tc, td, te⟩; go_simp; try with_reducible rfl)
            try simp only [Act.put, List.setIfInBounds_toArray, List.set_cons_zero, List.set_cons_succ]
            refine wpAnyH_take (i := 17) (oi := ⟨some 57, _, _, _, _, _⟩) (v := ?vb2Ax18) rfl (by kernel_rfl) (by kernel_rfl) (by kernel_rfl) (fun _ _ _ h => h) (Or.inl ⟨by rfl, ?yb2Ax18⟩) (by assumption) ?rb2Ax18
            case yb2Ax18 => (rintro w0 ⟨⟨sa, sb, sc, sd, se, sf, sg, sh⟩, ta, tb, tc, td, te⟩; go_simp; try with_reducible rfl)
            try simp only [Act.put, List.setIfInBounds_toArray, List.set_cons_zero, List.set_cons_succ]
            refine wpAnyH_take (i := 18) (oi := ⟨some 58, _, _, _, _, _⟩) (v := ?vb2Ax19) rfl (by kernel_rfl) (by kernel_rfl) (by kernel_rfl) (fun _ _ _ h => h) (Or.inl ⟨by rfl, ?yb2Ax19⟩) (by assumption) ?rb2Ax19
            case yb2Ax19 => (rintro w0 ⟨⟨sa, sb, sc, sd, se, sf, sg, sh⟩, ta, tb, tc, td, te⟩; go_simp; try with_reducible rfl)
            try simp only [Act.put, List.setIfInBounds_toArray, List.set_cons_zero, List.set_cons_succ]
            refine wpAnyH_take (i := 19) (oi := ⟨some 59, _, _, _, _, _⟩) (v := ?vb2Ax20) rfl (by kernel_rfl) (by kernel_rfl) (by kernel_rfl) (fun _ _ _ h => h) (Or.inl ⟨by rfl, ?yb2Ax20⟩) (by assumption) ?rb2Ax20
            case yb2Ax20 => (rintro w0 ⟨⟨sa, sb, sc, sd, se, sf, sg, sh⟩, ta, tb, tc, td, te⟩; go_simp; try with_reducible rfl)
            try simp only [Act.put, List.setIfInBounds_toArray, List.set_cons_zero, List.set_cons_succ]
            refine wpAnyH_take (i := 20) (oi := ⟨some 60, _, _, _, _, _⟩) (v := ?vb2Ax21) rfl (by kernel_rfl) (by kernel_rfl) (by kernel_rfl) (fun _ _ _ h => h) (Or.inl ⟨by rfl, ?yb2Ax21⟩) (by assumption) ?rb2Ax21
            case yb2Ax21 => (rintro w0 ⟨⟨sa, sb, sc, sd, se, sf, sg, sh⟩, ta, tb, tc, td, te⟩; go_simp; try with_reducible rfl)
            try simp only [Act.put, List.setIfInBounds_toArray, List.set_cons_zero, List.set_cons_succ]
            refine wpAnyH_take (i := 21) (oi := ⟨some 61, _, _, _, _, _⟩) (v := ?vb2Ax22) rfl (by kernel_rfl) (by kernel_rfl) (by kernel_rfl) (fun _ _ _ h => h) (Or.inl ⟨by rfl, ?yb2Ax22⟩) (by assumption) ?rb2Ax22
            case yb2Ax22 => (rintro w0 ⟨⟨sa, sb, sc, sd, se, sf, sg, sh⟩, ta, tb, tc, td, te⟩; go_simp; try with_reducible rfl)
            try simp only [Act.put, List.setIfInBounds_toArray, List.set_cons_zero, List.set_cons_succ]
            refine wpAnyH_ready (rs := [22]) (by kernel_rfl) (by simp) ?_
            refine AllReadyH.cons (o := ⟨some 62, _, _, _, _, _⟩) rfl (fun K1 hK1 => ?_) ?_
            · rw [if_pos (by rfl)]
              go_wp2_with (go_at_call 8; refine (void_may (V3.out.below hHeld.1.1) 2 seq taker to n most).mono ?_; rintro e w7 ⟨rfl, hb7⟩)
              have hB7 := hHeld.1.1.trans (hb7.mono hHeld.1.1.size)
              refine hK1.out _ _ ⟨HS5.out _ hB7, fillCells_below hb7 hHeld.2⟩ (fun hHeld => ?_)
              clear hK1 K1
              try simp only [Act.put, List.setIfInBounds_toArray, List.set_cons_zero, List.set_cons_succ]
              refine wpAnyH_take (i := 23) (oi := ⟨some 63, _, _, _, _, _⟩) (v := ?vb2Ax23) rfl (by kernel_rfl) (by kernel_rfl) (by kernel_rfl) (fun _ _ _ h => h) (Or.inl ⟨by rfl, ?yb2Ax23⟩) (by assumption) ?rb2Ax23
              case yb2Ax23 => (rintro w0 ⟨⟨sa, sb, sc, sd, se, sf, sg, sh⟩, ta, tb, tc, td, te⟩; go_simp; try with_reducible rfl)
              try simp only [Act.put, List.setIfInBounds_toArray, List.set_cons_zero, List.set_cons_succ]
              refine wpAnyH_take (i := 24) (oi := ⟨some 64, _, _, _, _, _⟩) (v := ?vb2Ax24) rfl (by kernel_rfl) (by kernel_rfl) (by kernel_rfl) (fun _ _ _ h => h) (Or.inl ⟨by rfl, ?yb2Ax24⟩) (by assumption) ?rb2Ax24
              case yb2Ax24 => (rintro w0 ⟨⟨sa, sb, sc, sd, se, sf, sg, sh⟩, ta, tb, tc, td, te⟩; go_simp; try with_reducible rfl)
              try simp only [Act.put, List.setIfInBounds_toArray, List.set_cons_zero, List.set_cons_succ]
              refine wpAnyH_done (by kernel_rfl) ?_ _
              have hB8 := hHeld.1.1
              go_wp2
              all_goals
                go_roundg 1
                case measure => omega
                case rel => exact ⟨3, by omega, by omega, rfl, hB8⟩
            exact AllReadyH.nil
          exact AllReadyH.nil
        exact AllReadyH.nil
      refine AllReadyH.cons (o := ⟨some 5, _, _, _, _, _⟩) rfl (fun K1 hK1 => ?_) ?_
      · rw [if_pos (by rfl)]
        go_simp
        refine hK1.out _ _ (HS5.out _ (hHeld.1.alloc hHeld.1.size _)) (fun hHeld => ?_)
        clear hK1 K1
        try simp only [Act.put, List.setIfInBounds_toArray, List.set_cons_zero, List.set_cons_succ]
        refine wpAnyH_ready (rs := [12]) (by kernel_rfl) (by simp) ?_
        refine AllReadyH.cons (o := ⟨some 37, _, _, _, _, _⟩) rfl (fun K1 hK1 => ?_) ?_
        · rw [if_pos (by rfl)]
          go_wp2_with (go_at_call 7; refine (void_do (V3.out.below hHeld.1) 2 seq taker to n).mono ?_; rintro e w5 ⟨rfl, hb5⟩)
          have kF := (hb5.block _ (by simp)).trans (alloc_new W0 (.cells #[.int .u64 0, .int .u8 0, .int .u8 0, .int .i64 0, .int .i64 0] 41))
          refine hK1.out _ _ (HS5.out _ (hHeld.1.trans (hb5.mono hHeld.1.size))) (fun hHeld => ?_)
          have hle5 := hle0
          clear hK1 K1
          try simp only [Act.put, List.setIfInBounds_toArray, List.set_cons_zero, List.set_cons_succ]
          refine wpAnyH_take (i := 13) (oi := ⟨some 24, _, _, _, _, _⟩) (v := ?va2x17) rfl (by kernel_rfl) (by kernel_rfl) (by kernel_rfl) (fun _ _ _ h => h) (Or.inl ⟨by rfl, ?ya2x17⟩) (by assumption) ?ra2x17
          case ya2x17 => (rintro w0 ⟨sa, sb, sc, sd, se, sf, sg, sh⟩; go_simp; try with_reducible rfl)
          try simp only [Act.put, List.setIfInBounds_toArray, List.set_cons_zero, List.set_cons_succ]
          refine wpAnyH_take (i := 14) (oi := ⟨some 38, _, _, _, _, _⟩) (v := ?va2x18) rfl (by kernel_rfl) (by kernel_rfl) (by kernel_rfl) (fun _ _ _ h => h) (Or.inl ⟨by rfl, ?ya2x18⟩) (by assumption) ?ra2x18
          case ya2x18 => (rintro w0 ⟨sa, sb, sc, sd, se, sf, sg, sh⟩; go_simp; try with_reducible rfl)
          try simp only [Act.put, List.setIfInBounds_toArray, List.set_cons_zero, List.set_cons_succ]
          refine wpAnyH_take (i := 15) (oi := ⟨some 39, _, _, _, _, _⟩) (v := ?va2x19) rfl (by kernel_rfl) (by kernel_rfl) (by kernel_rfl) (fun _ _ _ h => h) (Or.inl ⟨by rfl, ?ya2x19⟩) (by assumption) ?ra2x19
          case ya2x19 => (rintro w0 ⟨sa, sb, sc, sd, se, sf, sg, sh⟩; go_simp; try with_reducible rfl)
          try simp only [Act.put, List.setIfInBounds_toArray, List.set_cons_zero, List.set_cons_succ]
          refine wpAnyH_ready (rs := [17]) (by kernel_rfl) (by simp) ?_
          refine AllReadyH.cons (o := ⟨none, _, _, _, _, _⟩) rfl (fun K1 hK1 => ?_) ?_
          · rw [if_pos (by rfl)]
            refine wp_store_mid _ _ _ rfl _ 0 #[.int .u64 0, .int .u8 0, .int .u8 0, .int .i64 0, .int .i64 0] rfl rfl (thereFill kF) infoFill (by simp [Value.oneCell']) ?_
            have hq := World.rangeAt_setCells_same _ _ 0 [.int .u64 0, .int .u8 0, .int .u8 0, .int .i64 0, .int .i64 0] (thereFill kF)
            have hB6 := Below.setCells hHeld.1 (hle5) [.int .u64 0, .int .u8 0, .int .u8 0, .int .i64 0, .int .i64 0] 0
            refine hK1.out _ _ (HS5.out _ hB6) (fun hHeld => ?_)
            clear hK1 K1
            try simp only [Act.put]
            refine wpAnyH_take (i := 18) (oi := ⟨some 6, _, _, _, _, _⟩) (v := ?va2x20) rfl (by kernel_rfl) (by kernel_rfl) (by kernel_rfl) (fun _ _ _ h => h) (Or.inl ⟨by rfl, ?ya2x20⟩) (by assumption) ?ra2x20
            case ya2x20 => (rintro w0 ⟨sa, sb, sc, sd, se, sf, sg, sh⟩; go_simp; try with_reducible rfl)
            try simp only [Act.put, List.setIfInBounds_toArray, List.set_cons_zero, List.set_cons_succ]
            refine wpAnyH_done (by kernel_rfl) ?_ _
            have hq0 := Lib.hid hq
            clear hq
            have hB6 := hHeld.1
            go_wp2
            refine wp_region_held_drew (S := VHold2 W3 gl g0 4 none (some ⟨bb, 0, none⟩) seq taker to n most (W0.heap.size)) (by kernel_rfl) ?_ (fun hHeld => ?_)
            · exact ⟨HS5.out _ (Below.drew hB6), fillCells_of hq0.out⟩
            revert hHeld
            generalize World.drew _ = W6
            intro hHeld
            refine wpAnyH_take (i := 0) (oi := ⟨some 40, _, _, _, _, _⟩) (v := ?vb2Bx1) rfl (by kernel_rfl) (by kernel_rfl) (by kernel_rfl) (fun _ _ _ h => h) (Or.inl ⟨by rfl, ?yb2Bx1⟩) (by assumption) ?rb2Bx1
            case yb2Bx1 => (rintro w0 ⟨⟨sa, sb, sc, sd, se, sf, sg, sh⟩, ta, tb, tc, td, te⟩; go_simp; try with_reducible rfl)
            try simp only [Act.put, List.setIfInBounds_toArray, List.set_cons_zero, List.set_cons_succ]
            refine wpAnyH_take (i := 1) (oi := ⟨some 41, _, _, _, _, _⟩) (v := ?vb2Bx2) rfl (by kernel_rfl) (by kernel_rfl) (by kernel_rfl) (fun _ _ _ h => h) (Or.inl ⟨by rfl, ?yb2Bx2⟩) (by assumption) ?rb2Bx2
            case yb2Bx2 => (rintro w0 ⟨⟨sa, sb, sc, sd, se, sf, sg, sh⟩, ta, tb, tc, td, te⟩; go_simp; try with_reducible rfl)
            try simp only [Act.put, List.setIfInBounds_toArray, List.set_cons_zero, List.set_cons_succ]
            refine wpAnyH_take (i := 2) (oi := ⟨some 42, _, _, _, _, _⟩) (v := ?vb2Bx3) rfl (by kernel_rfl) (by kernel_rfl) (by kernel_rfl) (fun _ _ _ h => h) (Or.inl ⟨by rfl, ?yb2Bx3⟩) (by assumption) ?rb2Bx3
            case yb2Bx3 => (rintro w0 ⟨⟨sa, sb, sc, sd, se, sf, sg, sh⟩, ta, tb, tc, td, te⟩; go_simp; try with_reducible rfl)
            try simp only [Act.put, List.setIfInBounds_toArray, List.set_cons_zero, List.set_cons_succ]
            refine wpAnyH_take (i := 3) (oi := ⟨some 43, _, _, _, _, _⟩) (v := ?vb2Bx4) rfl (by kernel_rfl) (by kernel_rfl) (by kernel_rfl) (fun _ _ _ h => h) (Or.inl ⟨by rfl, ?yb2Bx4⟩) (by assumption) ?rb2Bx4
            case yb2Bx4 => (rintro w0 ⟨⟨sa, sb, sc, sd, se, sf, sg, sh⟩, ta, tb, tc, td, te⟩; go_simp; try with_reducible rfl)
            try simp only [Act.put, List.setIfInBounds_toArray, List.set_cons_zero, List.set_cons_succ]
            refine wpAnyH_take (i := 4) (oi := ⟨some 44, _, _, _, _, _⟩) (v := ?vb2Bx5) rfl (by kernel_rfl) (by kernel_rfl) (by kernel_rfl) (fun _ _ _ h => h) (Or.inl ⟨by rfl, ?yb2Bx5⟩) (by assumption) ?rb2Bx5
            case yb2Bx5 => (rintro w0 ⟨⟨sa, sb, sc, sd, se, sf, sg, sh⟩, ta, tb, tc, td, te⟩; go_simp; try with_reducible rfl)
            try simp only [Act.put, List.setIfInBounds_toArray, List.set_cons_zero, List.set_cons_succ]
            refine wpAnyH_take (i := 5) (oi := ⟨some 45, _, _, _, _, _⟩) (v := ?vb2Bx6) rfl (by kernel_rfl) (by kernel_rfl) (by kernel_rfl) (fun _ _ _ h => h) (Or.inl ⟨by rfl, ?yb2Bx6⟩) (by assumption) ?rb2Bx6
            case yb2Bx6 => (rintro w0 ⟨⟨sa, sb, sc, sd, se, sf, sg, sh⟩, ta, tb, tc, td, te⟩; go_simp; try with_reducible rfl)
            try simp only [Act.put, List.setIfInBounds_toArray, List.set_cons_zero, List.set_cons_succ]
            refine wpAnyH_take (i := 6) (oi := ⟨some 46, _, _, _, _, _⟩) (v := ?vb2Bx7) rfl (by kernel_rfl) (by kernel_rfl) (by kernel_rfl) (fun _ _ _ h => h) (Or.inl ⟨by rfl, ?yb2Bx7⟩) (by assumption) ?rb2Bx7
            case yb2Bx7 => (rintro w0 ⟨⟨sa, sb, sc, sd, se, sf, sg, sh⟩, ta, tb, tc, td, te⟩; go_simp; try with_reducible rfl)
            try simp only [Act.put, List.setIfInBounds_toArray, List.set_cons_zero, List.set_cons_succ]
            refine wpAnyH_take (i := 7) (oi := ⟨some 47, _, _, _, _, _⟩) (v := ?vb2Bx8) rfl (by kernel_rfl) (by kernel_rfl) (by kernel_rfl) (fun _ _ _ h => h) (Or.inl ⟨by rfl, ?yb2Bx8⟩) (by assumption) ?rb2Bx8
            case yb2Bx8 => (rintro w0 ⟨⟨sa, sb, sc, sd, se, sf, sg, sh⟩, ta, tb, tc, td, te⟩; go_simp; try with_reducible rfl)
            try simp only [Act.put, List.setIfInBounds_toArray, List.set_cons_zero, List.set_cons_succ]
            refine wpAnyH_take (i := 8) (oi := ⟨some 48, _, _, _, _, _⟩) (v := ?vb2Bx9) rfl (by kernel_rfl) (by kernel_rfl) (by kernel_rfl) (fun _ _ _ h => h) (Or.inl ⟨by rfl, ?yb2Bx9⟩) (by assumption) ?rb2Bx9
            case yb2Bx9 => (rintro w0 ⟨⟨sa, sb, sc, sd, se, sf, sg, sh⟩, ta, tb, tc, td, te⟩; go_simp; try with_reducible rfl)
            try simp only [Act.put, List.setIfInBounds_toArray, List.set_cons_zero, List.set_cons_succ]
            refine wpAnyH_take (i := 9) (oi := ⟨some 49, _, _, _, _, _⟩) (v := ?vb2Bx10) rfl (by kernel_rfl) (by kernel_rfl) (by kernel_rfl) (fun _ _ _ h => h) (Or.inl ⟨by rfl, ?yb2Bx10⟩) (by assumption) ?rb2Bx10
            case yb2Bx10 => (rintro w0 ⟨⟨sa, sb, sc, sd, se, sf, sg, sh⟩, ta, tb, tc, td, te⟩; go_simp; try with_reducible rfl)
            try simp only [Act.put, List.setIfInBounds_toArray, List.set_cons_zero, List.set_cons_succ]
            refine wpAnyH_take (i := 10) (oi := ⟨some 50, _, _, _, _, _⟩) (v := ?vb2Bx11) rfl (by kernel_rfl) (by kernel_rfl) (by kernel_rfl) (fun _ _ _ h => h) (Or.inl ⟨by rfl, ?yb2Bx11⟩) (by assumption) ?rb2Bx11
            case yb2Bx11 => (rintro w0 ⟨⟨sa, sb, sc, sd, se, sf, sg, sh⟩, ta, tb, tc, td, te⟩; go_simp; try with_reducible rfl)
            try simp only [Act.put, List.setIfInBounds_toArray, List.set_cons_zero, List.set_cons_succ]
            refine wpAnyH_take (i := 11) (oi := ⟨some 51, _, _, _, _, _⟩) (v := ?vb2Bx12) rfl (by kernel_rfl) (by kernel_rfl) (by kernel_rfl) (fun _ _ _ h => h) (Or.inl ⟨by rfl, ?yb2Bx12⟩) (by assumption) ?rb2Bx12
            case yb2Bx12 => (rintro w0 ⟨⟨sa, sb, sc, sd, se, sf, sg, sh⟩, ta, tb, tc, td, te⟩; go_simp; try with_reducible rfl)
            try simp only [Act.put, List.setIfInBounds_toArray, List.set_cons_zero, List.set_cons_succ]
            refine wpAnyH_take (i := 12) (oi := ⟨some 52, _, _, _, _, _⟩) (v := ?vb2Bx13) rfl (by kernel_rfl) (by kernel_rfl) (by kernel_rfl) (fun _ _ _ h => h) (Or.inl ⟨by rfl, ?yb2Bx13⟩) (by assumption) ?rb2Bx13
            case yb2Bx13 => (rintro w0 ⟨⟨sa, sb, sc, sd, se, sf, sg, sh⟩, ta, tb, tc, td, te⟩; go_simp; try with_reducible rfl)
            try simp only [Act.put, List.setIfInBounds_toArray, List.set_cons_zero, List.set_cons_succ]
            refine wpAnyH_take (i := 13) (oi := ⟨some 53, _, _, _, _, _⟩) (v := ?vb2Bx14) rfl (by kernel_rfl) (by kernel_rfl) (by kernel_rfl) (fun _ _ _ h => h) (Or.inl ⟨by rfl, ?yb2Bx14⟩) (by assumption) ?rb2Bx14
            case yb2Bx14 => (rintro w0 ⟨⟨sa, sb, sc, sd, se, sf, sg, sh⟩, ta, tb, tc, td, te⟩; go_simp; try with_reducible rfl)
            try simp only [Act.put, List.setIfInBounds_toArray, List.set_cons_zero, List.set_cons_succ]
            refine wpAnyH_take (i := 14) (oi := ⟨some 54, _, _, _, _, _⟩) (v := ?vb2Bx15) rfl (by kernel_rfl) (by kernel_rfl) (by kernel_rfl) (fun _ _ _ h => h) (Or.inl ⟨by rfl, ?yb2Bx15⟩) (by assumption) ?rb2Bx15
            case yb2Bx15 => (rintro w0 ⟨⟨sa, sb, sc, sd, se, sf, sg, sh⟩, ta, tb, tc, td, te⟩; go_simp; try with_reducible rfl)
            try simp only [Act.put, List.setIfInBounds_toArray, List.set_cons_zero, List.set_cons_succ]
            refine wpAnyH_take (i := 15) (oi := ⟨some 55, _, _, _, _, _⟩) (v := ?vb2Bx16) rfl (by kernel_rfl) (by kernel_rfl) (by kernel_rfl) (fun _ _ _ h => h) (Or.inl ⟨by rfl, ?yb2Bx16⟩) (by assumption) ?rb2Bx16
            case yb2Bx16 => (rintro w0 ⟨⟨sa, sb, sc, sd, se, sf, sg, sh⟩, ta, tb, tc, td, te⟩; go_simp; try with_reducible rfl)
            try simp only [Act.put, List.setIfInBounds_toArray, List.set_cons_zero, List.set_cons_succ]
            refine wpAnyH_take (i := 16) (oi := ⟨some 56, _, _, _, _, _⟩) (v := ?vb2Bx17) rfl (by kernel_rfl) (by kernel_rfl) (by kernel_rfl) (fun _ _ _ h => h) (Or.inl ⟨by rfl, ?yb2Bx17⟩) (by assumption) ?rb2Bx17
            case yb2Bx17 => (rintro w0 ⟨⟨sa, sb, sc, sd, se, sf, sg, sh⟩, ta, tb, tc, td, te⟩; go_simp; try with_reducible rfl)
            try simp only [Act.put, List.setIfInBounds_toArray, List.set_cons_zero, List.set_cons_succ]
            refine wpAnyH_take (i := 17) (oi := ⟨some 57, _, _, _, _, _⟩) (v := ?vb2Bx18) rfl (by kernel_rfl) (by kernel_rfl) (by kernel_rfl) (fun _ _ _ h => h) (Or.inl ⟨by rfl, ?yb2Bx18⟩) (by assumption) ?rb2Bx18
            case yb2Bx18 => (rintro w0 ⟨⟨sa, sb, sc, sd, se, sf, sg, sh⟩, ta, tb, tc, td, te⟩; go_simp; try with_reducible rfl)
            try simp only [Act.put, List.setIfInBounds_toArray, List.set_cons_zero, List.set_cons_succ]
            refine wpAnyH_take (i := 18) (oi := ⟨some 58, _, _, _, _, _⟩) (v := ?vb2Bx19) rfl (by kernel_rfl) (by kernel_rfl) (by kernel_rfl) (fun _ _ _ h => h) (Or.inl ⟨by rfl, ?yb2Bx19⟩) (by assumption) ?rb2Bx19
            case yb2Bx19 => (rintro w0 ⟨⟨sa, sb, sc, sd, se, sf, sg, sh⟩, ta, tb, tc, td, te⟩; go_simp; try with_reducible rfl)
            try simp only [Act.put, List.setIfInBounds_toArray, List.set_cons_zero, List.set_cons_succ]
            refine wpAnyH_take (i := 19) (oi := ⟨some 59, _, _, _, _, _⟩) (v := ?vb2Bx20) rfl (by kernel_rfl) (by kernel_rfl) (by kernel_rfl) (fun _ _ _ h => h) (Or.inl ⟨by rfl, ?yb2Bx20⟩) (by assumption) ?rb2Bx20
            case yb2Bx20 => (rintro w0 ⟨⟨sa, sb, sc, sd, se, sf, sg, sh⟩, ta, tb, tc, td, te⟩; go_simp; try with_reducible rfl)
            try simp only [Act.put, List.setIfInBounds_toArray, List.set_cons_zero, List.set_cons_succ]
            refine wpAnyH_take (i := 20) (oi := ⟨some 60, _, _, _, _, _⟩) (v := ?vb2Bx21) rfl (by kernel_rfl) (by kernel_rfl) (by kernel_rfl) (fun _ _ _ h => h) (Or.inl ⟨by rfl, ?yb2Bx21⟩) (by assumption) ?rb2Bx21
            case yb2Bx21 => (rintro w0 ⟨⟨sa, sb, sc, sd, se, sf, sg, sh⟩, ta, tb, tc, td, te⟩; go_simp; try with_reducible rfl)
            try simp only [Act.put, List.setIfInBounds_toArray, List.set_cons_zero, List.set_cons_succ]
            refine wpAnyH_take (i := 21) (oi := ⟨some 61, _, _, _, _, _⟩) (v := ?vb2Bx22) rfl (by kernel_rfl) (by kernel_rfl) (by kernel_rfl) (fun _ _ _ h => h) (Or.inl ⟨by rfl, ?yb2Bx22⟩) (by assumption) ?rb2Bx22
            case yb2Bx22 => (rintro w0 ⟨⟨sa, sb, sc, sd, se, sf, sg, sh⟩, ta, tb, tc, td, te⟩; go_simp; try with_reducible rfl)
            try simp only [Act.put, List.setIfInBounds_toArray, List.set_cons_zero, List.set_cons_succ]
            refine wpAnyH_ready (rs := [22]) (by kernel_rfl) (by simp) ?_
            refine AllReadyH.cons (o := ⟨some 62, _, _, _, _, _⟩) rfl (fun K1 hK1 => ?_) ?_
            · rw [if_pos (by rfl)]
              go_wp2_with (go_at_call 8; refine (void_may (V3.out.below hHeld.1.1) 2 seq taker to n most).mono ?_; rintro e w7 ⟨rfl, hb7⟩)
              have hB7 := hHeld.1.1.trans (hb7.mono hHeld.1.1.size)
              refine hK1.out _ _ ⟨HS5.out _ hB7, fillCells_below hb7 hHeld.2⟩ (fun hHeld => ?_)
              clear hK1 K1
              try simp only [Act.put, List.setIfInBounds_toArray, List.set_cons_zero, List.set_cons_succ]
              refine wpAnyH_take (i := 23) (oi := ⟨some 63, _, _, _, _, _⟩) (v := ?vb2Bx23) rfl (by kernel_rfl) (by kernel_rfl) (by kernel_rfl) (fun _ _ _ h => h) (Or.inl ⟨by rfl, ?yb2Bx23⟩) (by assumption) ?rb2Bx23
              case yb2Bx23 => (rintro w0 ⟨⟨sa, sb, sc, sd, se, sf, sg, sh⟩, ta, tb, tc, td, te⟩; go_simp; try with_reducible rfl)
              try simp only [Act.put, List.setIfInBounds_toArray, List.set_cons_zero, List.set_cons_succ]
              refine wpAnyH_take (i := 24) (oi := ⟨some 64, _, _, _, _, _⟩) (v := ?vb2Bx24) rfl (by kernel_rfl) (by kernel_rfl) (by kernel_rfl) (fun _ _ _ h => h) (Or.inl ⟨by rfl, ?yb2Bx24⟩) (by assumption) ?rb2Bx24
              case yb2Bx24 => (rintro w0 ⟨⟨sa, sb, sc, sd, se, sf, sg, sh⟩, ta, tb, tc, td, te⟩; go_simp; try with_reducible rfl)
              try simp only [Act.put, List.setIfInBounds_toArray, List.set_cons_zero, List.set_cons_succ]
              refine wpAnyH_done (by kernel_rfl) ?_ _
              have hB8 := hHeld.1.1
              go_wp2
              all_goals
                go_roundg 1
                case measure => omega
                case rel => exact ⟨3, by omega, by omega, rfl, hB8⟩
            exact AllReadyH.nil
          exact AllReadyH.nil
        exact AllReadyH.nil
      exact AllReadyH.nil
    · have HS5 := Lib.hid (VHold.of (W3 := W3) (gl := gl) (g0 := g0) (k := 6) (L := some ⟨z, 0, none⟩) (B := some ⟨y, 0, none⟩) (seq := seq) (taker := taker) (to := to) (n := n) (most := most) ⟨Below.refl _ _, QL.out 6 _ rfl, QL.out 7 _ rfl, QA.out 0 _ rfl, QA.out 1 _ rfl, QA.out 2 _ rfl, QA.out 3 _ rfl, QA.out 4 _ rfl⟩)
      go_wp2
      refine wp_region_held_drew (S := VHold W3 gl g0 6 (some ⟨z, 0, none⟩) (some ⟨y, 0, none⟩) seq taker to n most) (by kernel_rfl) ?_ (fun hHeld => ?_)
      · exact HS5.out _ (Below.drew BW.out)
      revert hHeld
      have hle0 : W3.heap.size ≤ (World.drew wr).heap.size := BW.out.size
      revert hle0
      generalize World.drew _ = W0
      intro hle0 hHeld
      refine wpAnyH_take (i := 0) (oi := ⟨some 25, _, _, _, _, _⟩) (v := ?va3x1) rfl (by kernel_rfl) (by kernel_rfl) (by kernel_rfl) (fun _ _ _ h => h) (Or.inl ⟨by rfl, ?ya3x1⟩) (by assumption) ?ra3x1
      case ya3x1 => (rintro w0 ⟨sa, sb, sc, sd, se, sf, sg, sh⟩; go_simp; try with_reducible rfl)
      try simp only [Act.put, List.setIfInBounds_toArray, List.set_cons_zero, List.set_cons_succ]
      refine wpAnyH_take (i := 1) (oi := ⟨some 26, _, _, _, _, _⟩) (v := ?va3x2) rfl (by kernel_rfl) (by kernel_rfl) (by kernel_rfl) (fun _ _ _ h => h) (Or.inl ⟨by rfl, ?ya3x2⟩) (by assumption) ?ra3x2
      case ya3x2 => (rintro w0 ⟨sa, sb, sc, sd, se, sf, sg, sh⟩; go_simp; try with_reducible rfl)
      try simp only [Act.put, List.setIfInBounds_toArray, List.set_cons_zero, List.set_cons_succ]
      refine wpAnyH_take (i := 2) (oi := ⟨some 27, _, _, _, _, _⟩) (v := ?va3x3) rfl (by kernel_rfl) (by kernel_rfl) (by kernel_rfl) (fun _ _ _ h => h) (Or.inl ⟨by rfl, ?ya3x3⟩) (by assumption) ?ra3x3
      case ya3x3 => (rintro w0 ⟨sa, sb, sc, sd, se, sf, sg, sh⟩; go_simp; try with_reducible rfl)
      try simp only [Act.put, List.setIfInBounds_toArray, List.set_cons_zero, List.set_cons_succ]
      refine wpAnyH_take (i := 3) (oi := ⟨some 28, _, _, _, _, _⟩) (v := ?va3x4) rfl (by kernel_rfl) (by kernel_rfl) (by kernel_rfl) (fun _ _ _ h => h) (Or.inl ⟨by rfl, ?ya3x4⟩) (by assumption) ?ra3x4
      case ya3x4 => (rintro w0 ⟨sa, sb, sc, sd, se, sf, sg, sh⟩; go_simp; try with_reducible rfl)
      try simp only [Act.put, List.setIfInBounds_toArray, List.set_cons_zero, List.set_cons_succ]
      refine wpAnyH_take (i := 4) (oi := ⟨some 29, _, _, _, _, _⟩) (v := ?va3x5) rfl (by kernel_rfl) (by kernel_rfl) (by kernel_rfl) (fun _ _ _ h => h) (Or.inl ⟨by rfl, ?ya3x5⟩) (by assumption) ?ra3x5
      case ya3x5 => (rintro w0 ⟨sa, sb, sc, sd, se, sf, sg, sh⟩; go_simp; try with_reducible rfl)
      try simp only [Act.put, List.setIfInBounds_toArray, List.set_cons_zero, List.set_cons_succ]
      refine wpAnyH_take (i := 5) (oi := ⟨some 30, _, _, _, _, _⟩) (v := ?va3x6) rfl (by kernel_rfl) (by kernel_rfl) (by kernel_rfl) (fun _ _ _ h => h) (Or.inl ⟨by rfl, ?ya3x6⟩) (by assumption) ?ra3x6
      case ya3x6 => (rintro w0 ⟨sa, sb, sc, sd, se, sf, sg, sh⟩; go_simp; try with_reducible rfl)
      try simp only [Act.put, List.setIfInBounds_toArray, List.set_cons_zero, List.set_cons_succ]
      refine wpAnyH_take (i := 6) (oi := ⟨some 31, _, _, _, _, _⟩) (v := ?va3x7) rfl (by kernel_rfl) (by kernel_rfl) (by kernel_rfl) (fun _ _ _ h => h) (Or.inl ⟨by rfl, ?ya3x7⟩) (by assumption) ?ra3x7
      case ya3x7 => (rintro w0 ⟨sa, sb, sc, sd, se, sf, sg, sh⟩; go_simp; try with_reducible rfl)
      try simp only [Act.put, List.setIfInBounds_toArray, List.set_cons_zero, List.set_cons_succ]
      refine wpAnyH_take (i := 7) (oi := ⟨some 32, _, _, _, _, _⟩) (v := ?va3x8) rfl (by kernel_rfl) (by kernel_rfl) (by kernel_rfl) (fun _ _ _ h => h) (Or.inl ⟨by rfl, ?ya3x8⟩) (by assumption) ?ra3x8
      case ya3x8 => (rintro w0 ⟨sa, sb, sc, sd, se, sf, sg, sh⟩; go_simp; try with_reducible rfl)
      try simp only [Act.put, List.setIfInBounds_toArray, List.set_cons_zero, List.set_cons_succ]
      refine wpAnyH_take (i := 8) (oi := ⟨some 33, _, _, _, _, _⟩) (v := ?va3x9) rfl (by kernel_rfl) (by kernel_rfl) (by kernel_rfl) (fun _ _ _ h => h) (Or.inl ⟨by rfl, ?ya3x9⟩) (by assumption) ?ra3x9
      case ya3x9 => (rintro w0 ⟨sa, sb, sc, sd, se, sf, sg, sh⟩; go_simp; try with_reducible rfl)
      try simp only [Act.put, List.setIfInBounds_toArray, List.set_cons_zero, List.set_cons_succ]
      refine wpAnyH_take (i := 9) (oi := ⟨some 34, _, _, _, _, _⟩) (v := ?va3x10) rfl (by kernel_rfl) (by kernel_rfl) (by kernel_rfl) (fun _ _ _ h => h) (Or.inl ⟨by rfl, ?ya3x10⟩) (by assumption) ?ra3x10
      case ya3x10 => (rintro w0 ⟨sa, sb, sc, sd, se, sf, sg, sh⟩; go_simp; try with_reducible rfl)
      try simp only [Act.put, List.setIfInBounds_toArray, List.set_cons_zero, List.set_cons_succ]
      refine wpAnyH_take (i := 10) (oi := ⟨some 35, _, _, _, _, _⟩) (v := ?va3x11) rfl (by kernel_rfl) (by kernel_rfl) (by kernel_rfl) (fun _ _ _ h => h) (Or.inl ⟨by rfl, ?ya3x11⟩) (by assumption) ?ra3x11
      case ya3x11 => (rintro w0 ⟨sa, sb, sc, sd, se, sf, sg, sh⟩; go_simp; try with_reducible rfl)
      try simp only [Act.put, List.setIfInBounds_toArray, List.set_cons_zero, List.set_cons_succ]
      refine wpAnyH_take (i := 11) (oi := ⟨some 36, _, _, _, _, _⟩) (v := ?va3x12) rfl (by kernel_rfl) (by kernel_rfl) (by kernel_rfl) (fun _ _ _ h => h) (Or.inl ⟨by rfl, ?ya3x12⟩) (by assumption) ?ra3x12
      case ya3x12 => (rintro w0 ⟨sa, sb, sc, sd, se, sf, sg, sh⟩; go_simp; try with_reducible rfl)
      try simp only [Act.put, List.setIfInBounds_toArray, List.set_cons_zero, List.set_cons_succ]
      refine wpAnyH_ready (rs := [12, 16]) (by kernel_rfl) (by simp) ?_
      refine AllReadyH.cons (o := ⟨some 37, _, _, _, _, _⟩) rfl (fun K1 hK1 => ?_) ?_
      · rw [if_pos (by rfl)]
        go_wp2_with (go_at_call 7; refine (void_do (V3.out.below hHeld.1) 3 seq taker to n).mono ?_; rintro e w5 ⟨rfl, hb5⟩)
        have hB5 := hHeld.1.trans (hb5.mono hHeld.1.size)
        refine hK1.out _ _ (HS5.out _ (hHeld.1.trans (hb5.mono hHeld.1.size))) (fun hHeld => ?_)
        clear hK1 K1
        try simp only [Act.put, List.setIfInBounds_toArray, List.set_cons_zero, List.set_cons_succ]
        refine wpAnyH_take (i := 13) (oi := ⟨some 24, _, _, _, _, _⟩) (v := ?va3x13) rfl (by kernel_rfl) (by kernel_rfl) (by kernel_rfl) (fun _ _ _ h => h) (Or.inl ⟨by rfl, ?ya3x13⟩) (by assumption) ?ra3x13
        case ya3x13 => (rintro w0 ⟨sa, sb, sc, sd, se, sf, sg, sh⟩; go_simp; try with_reducible rfl)
        try simp only [Act.put, List.setIfInBounds_toArray, List.set_cons_zero, List.set_cons_succ]
        refine wpAnyH_take (i := 14) (oi := ⟨some 38, _, _, _, _, _⟩) (v := ?va3x14) rfl (by kernel_rfl) (by kernel_rfl) (by kernel_rfl) (fun _ _ _ h => h) (Or.inl ⟨by rfl, ?ya3x14⟩) (by assumption) ?ra3x14
        case ya3x14 => (rintro w0 ⟨sa, sb, sc, sd, se, sf, sg, sh⟩; go_simp; try with_reducible rfl)
        try simp only [Act.put, List.setIfInBounds_toArray, List.set_cons_zero, List.set_cons_succ]
        refine wpAnyH_take (i := 15) (oi := ⟨some 39, _, _, _, _, _⟩) (v := ?va3x15) rfl (by kernel_rfl) (by kernel_rfl) (by kernel_rfl) (fun _ _ _ h => h) (Or.inl ⟨by rfl, ?ya3x15⟩) (by assumption) ?ra3x15
        case ya3x15 => (rintro w0 ⟨sa, sb, sc, sd, se, sf, sg, sh⟩; go_simp; try with_reducible rfl)
        try simp only [Act.put, List.setIfInBounds_toArray, List.set_cons_zero, List.set_cons_succ]
        refine wpAnyH_ready (rs := [16]) (by kernel_rfl) (by simp) ?_
        refine AllReadyH.cons (o := ⟨some 5, _, _, _, _, _⟩) rfl (fun K1 hK1 => ?_) ?_
        · rw [if_pos (by rfl)]
          go_simp
          refine hK1.out _ _ (HS5.out _ (hHeld.1.alloc hHeld.1.size _)) (fun hHeld => ?_)
          have kF := alloc_new w5 (.cells #[.int .u64 0, .int .u8 0, .int .u8 0, .int .i64 0, .int .i64 0] 41)
          have hle5 := (hB5).size
          clear hK1 K1
          try simp only [Act.put, List.setIfInBounds_toArray, List.set_cons_zero, List.set_cons_succ]
          refine wpAnyH_ready (rs := [17]) (by kernel_rfl) (by simp) ?_
          refine AllReadyH.cons (o := ⟨none, _, _, _, _, _⟩) rfl (fun K1 hK1 => ?_) ?_
          · rw [if_pos (by rfl)]
            refine wp_store_mid _ _ _ rfl _ 0 #[.int .u64 0, .int .u8 0, .int .u8 0, .int .i64 0, .int .i64 0] rfl rfl (thereFill kF) infoFill (by simp [Value.oneCell']) ?_
            have hq := World.rangeAt_setCells_same _ _ 0 [.int .u64 0, .int .u8 0, .int .u8 0, .int .i64 0, .int .i64 0] (thereFill kF)
            have hB6 := Below.setCells hHeld.1 (hle5) [.int .u64 0, .int .u8 0, .int .u8 0, .int .i64 0, .int .i64 0] 0
            refine hK1.out _ _ (HS5.out _ hB6) (fun hHeld => ?_)
            clear hK1 K1
            try simp only [Act.put]
            refine wpAnyH_take (i := 18) (oi := ⟨some 6, _, _, _, _, _⟩) (v := ?va3x16) rfl (by kernel_rfl) (by kernel_rfl) (by kernel_rfl) (fun _ _ _ h => h) (Or.inl ⟨by rfl, ?ya3x16⟩) (by assumption) ?ra3x16
            case ya3x16 => (rintro w0 ⟨sa, sb, sc, sd, se, sf, sg, sh⟩; go_simp; try with_reducible rfl)
            try simp only [Act.put, List.setIfInBounds_toArray, List.set_cons_zero, List.set_cons_succ]
            refine wpAnyH_done (by kernel_rfl) ?_ _
            have hq0 := Lib.hid hq
            clear hq
            have hB6 := hHeld.1
            go_wp2
            refine wp_region_held_drew (S := VHold2 W3 gl g0 6 (some ⟨z, 0, none⟩) (some ⟨y, 0, none⟩) seq taker to n most (w5.heap.size)) (by kernel_rfl) ?_ (fun hHeld => ?_)
            · exact ⟨HS5.out _ (Below.drew hB6), fillCells_of hq0.out⟩
            revert hHeld
            generalize World.drew _ = W6
            intro hHeld
            refine wpAnyH_take (i := 0) (oi := ⟨some 40, _, _, _, _, _⟩) (v := ?vb3Ax1) rfl (by kernel_rfl) (by kernel_rfl) (by kernel_rfl) (fun _ _ _ h => h) (Or.inl ⟨by rfl, ?yb3Ax1⟩) (by assumption) ?rb3Ax1
            case yb3Ax1 => (rintro w0 ⟨⟨sa, sb, sc, sd, se, sf, sg, sh⟩, ta, tb, tc, td, te⟩; go_simp; try with_reducible rfl)
            try simp only [Act.put, List.setIfInBounds_toArray, List.set_cons_zero, List.set_cons_succ]
            refine wpAnyH_take (i := 1) (oi := ⟨some 41, _, _, _, _, _⟩) (v := ?vb3Ax2) rfl (by kernel_rfl) (by kernel_rfl) (by kernel_rfl) (fun _ _ _ h => h) (Or.inl ⟨by rfl, ?yb3Ax2⟩) (by assumption) ?rb3Ax2
            case yb3Ax2 => (rintro w0 ⟨⟨sa, sb, sc, sd, se, sf, sg, sh⟩, ta, tb, tc, td, te⟩; go_simp; try with_reducible rfl)
            try simp only [Act.put, List.setIfInBounds_toArray, List.set_cons_zero, List.set_cons_succ]
            refine wpAnyH_take (i := 2) (oi := ⟨some 42, _, _, _, _, _⟩) (v := ?vb3Ax3) rfl (by kernel_rfl) (by kernel_rfl) (by kernel_rfl) (fun _ _ _ h => h) (Or.inl ⟨by rfl, ?yb3Ax3⟩) (by assumption) ?rb3Ax3
            case yb3Ax3 => (rintro w0 ⟨⟨sa, sb, sc, sd, se, sf, sg, sh⟩, ta, tb, tc, td, te⟩; go_simp; try with_reducible rfl)
            try simp only [Act.put, List.setIfInBounds_toArray, List.set_cons_zero, List.set_cons_succ]
            refine wpAnyH_take (i := 3) (oi := ⟨some 43, _, _, _, _, _⟩) (v := ?vb3Ax4) rfl (by kernel_rfl) (by kernel_rfl) (by kernel_rfl) (fun _ _ _ h => h) (Or.inl ⟨by rfl, ?yb3Ax4⟩) (by assumption) ?rb3Ax4
            case yb3Ax4 => (rintro w0 ⟨⟨sa, sb, sc, sd, se, sf, sg, sh⟩, ta, tb, tc, td, te⟩; go_simp; try with_reducible rfl)
            try simp only [Act.put, List.setIfInBounds_toArray, List.set_cons_zero, List.set_cons_succ]
            refine wpAnyH_take (i := 4) (oi := ⟨some 44, _, _, _, _, _⟩) (v := ?vb3Ax5) rfl (by kernel_rfl) (by kernel_rfl) (by kernel_rfl) (fun _ _ _ h => h) (Or.inl ⟨by rfl, ?yb3Ax5⟩) (by assumption) ?rb3Ax5
            case yb3Ax5 => (rintro w0 ⟨⟨sa, sb, sc, sd, se, sf, sg, sh⟩, ta, tb, tc, td, te⟩; go_simp; try with_reducible rfl)
            try simp only [Act.put, List.setIfInBounds_toArray, List.set_cons_zero, List.set_cons_succ]
            refine wpAnyH_take (i := 5) (oi := ⟨some 45, _, _, _, _, _⟩) (v := ?vb3Ax6) rfl (by kernel_rfl) (by kernel_rfl) (by kernel_rfl) (fun _ _ _ h => h) (Or.inl ⟨by rfl, ?yb3Ax6⟩) (by assumption) ?rb3Ax6
            case yb3Ax6 => (rintro w0 ⟨⟨sa, sb, sc, sd, se, sf, sg, sh⟩, ta, tb, tc, td, te⟩; go_simp; try with_reducible rfl)
            try simp only [Act.put, List.setIfInBounds_toArray, List.set_cons_zero, List.set_cons_succ]
            refine wpAnyH_take (i := 6) (oi := ⟨some 46, _, _, _, _, _⟩) (v := ?vb3Ax7) rfl (by kernel_rfl) (by kernel_rfl) (by kernel_rfl) (fun _ _ _ h => h) (Or.inl ⟨by rfl, ?yb3Ax7⟩) (by assumption) ?rb3Ax7
            case yb3Ax7 => (rintro w0 ⟨⟨sa, sb, sc, sd, se, sf, sg, sh⟩, ta, tb, tc, td, te⟩; go_simp; try with_reducible rfl)
            try simp only [Act.put, List.setIfInBounds_toArray, List.set_cons_zero, List.set_cons_succ]
            refine wpAnyH_take (i := 7) (oi := ⟨some 47, _, _, _, _, _⟩) (v := ?vb3Ax8) rfl (by kernel_rfl) (by kernel_rfl) (by kernel_rfl) (fun _ _ _ h => h) (Or.inl ⟨by rfl, ?yb3Ax8⟩) (by assumption) ?rb3Ax8
            case yb3Ax8 => (rintro w0 ⟨⟨sa, sb, sc, sd, se, sf, sg, sh⟩, ta, tb, tc, td, te⟩; go_simp; try with_reducible rfl)
            try simp only [Act.put, List.setIfInBounds_toArray, List.set_cons_zero, List.set_cons_succ]
            refine wpAnyH_take (i := 8) (oi := ⟨some 48, _, _, _, _, _⟩) (v := ?vb3Ax9) rfl (by kernel_rfl) (by kernel_rfl) (by kernel_rfl) (fun _ _ _ h => h) (Or.inl ⟨by rfl, ?yb3Ax9⟩) (by assumption) ?rb3Ax9
            case yb3Ax9 => (rintro w0 ⟨⟨sa, sb, sc, sd, se, sf, sg, sh⟩, ta, tb, tc, td, te⟩; go_simp; try with_reducible rfl)
            try simp only [Act.put, List.setIfInBounds_toArray, List.set_cons_zero, List.set_cons_succ]
            refine wpAnyH_take (i := 9) (oi := ⟨some 49, _, _, _, _, _⟩) (v := ?vb3Ax10) rfl (by kernel_rfl) (by kernel_rfl) (by kernel_rfl) (fun _ _ _ h => h) (Or.inl ⟨by rfl, ?yb3Ax10⟩) (by assumption) ?rb3Ax10
            case yb3Ax10 => (rintro w0 ⟨⟨sa, sb, sc, sd, se, sf, sg, sh⟩, ta, tb, tc, td, te⟩; go_simp; try with_reducible rfl)
            try simp only [Act.put, List.setIfInBounds_toArray, List.set_cons_zero, List.set_cons_succ]
            refine wpAnyH_take (i := 10) (oi := ⟨some 50, _, _, _, _, _⟩) (v := ?vb3Ax11) rfl (by kernel_rfl) (by kernel_rfl) (by kernel_rfl) (fun _ _ _ h => h) (Or.inl ⟨by rfl, ?yb3Ax11⟩) (by assumption) ?rb3Ax11
            case yb3Ax11 => (rintro w0 ⟨⟨sa, sb, sc, sd, se, sf, sg, sh⟩, ta, tb, tc, td, te⟩; go_simp; try with_reducible rfl)
            try simp only [Act.put, List.setIfInBounds_toArray, List.set_cons_zero, List.set_cons_succ]
            refine wpAnyH_take (i := 11) (oi := ⟨some 51, _, _, _, _, _⟩) (v := ?vb3Ax12) rfl (by kernel_rfl) (by kernel_rfl) (by kernel_rfl) (fun _ _ _ h => h) (Or.inl ⟨by rfl, ?yb3Ax12⟩) (by assumption) ?rb3Ax12
            case yb3Ax12 => (rintro w0 ⟨⟨sa, sb, sc, sd, se, sf, sg, sh⟩, ta, tb, tc, td, te⟩; go_simp; try with_reducible rfl)
            try simp only [Act.put, List.setIfInBounds_toArray, List.set_cons_zero, List.set_cons_succ]
            refine wpAnyH_take (i := 12) (oi := ⟨some 52, _, _, _, _, _⟩) (v := ?vb3Ax13) rfl (by kernel_rfl) (by kernel_rfl) (by kernel_rfl) (fun _ _ _ h => h) (Or.inl ⟨by rfl, ?yb3Ax13⟩) (by assumption) ?rb3Ax13
            case yb3Ax13 => (rintro w0 ⟨⟨sa, sb, sc, sd, se, sf, sg, sh⟩, ta, tb, tc, td, te⟩; go_simp; try with_reducible rfl)
            try simp only [Act.put, List.setIfInBounds_toArray, List.set_cons_zero, List.set_cons_succ]
            refine wpAnyH_take (i := 13) (oi := ⟨some 53, _, _, _, _, _⟩) (v := ?vb3Ax14) rfl (by kernel_rfl) (by kernel_rfl) (by kernel_rfl) (fun _ _ _ h => h) (Or.inl ⟨by rfl, ?yb3Ax14⟩) (by assumption) ?rb3Ax14
            case yb3Ax14 => (rintro w0 ⟨⟨sa, sb, sc, sd, se, sf, sg, sh⟩, ta, tb, tc, td, te⟩; go_simp; try with_reducible rfl)
            try simp only [Act.put, List.setIfInBounds_toArray, List.set_cons_zero, List.set_cons_succ]
            refine wpAnyH_take (i := 14) (oi := ⟨some 54, _, _, _, _, _⟩) (v := ?vb3Ax15) rfl (by kernel_rfl) (by kernel_rfl) (by kernel_rfl) (fun _ _ _ h => h) (Or.inl ⟨by rfl, ?yb3Ax15⟩) (by assumption) ?rb3Ax15
            case yb3Ax15 => (rintro w0 ⟨⟨sa, sb, sc, sd, se, sf, sg, sh⟩, ta, tb, tc, td, te⟩; go_simp; try with_reducible rfl)
            try simp only [Act.put, List.setIfInBounds_toArray, List.set_cons_zero, List.set_cons_succ]
            refine wpAnyH_take (i := 15) (oi := ⟨some 55, _, _, _, _, _⟩) (v := ?vb3Ax16) rfl (by kernel_rfl) (by kernel_rfl) (by kernel_rfl) (fun _ _ _ h => h) (Or.inl ⟨by rfl, ?yb3Ax16⟩) (by assumption) ?rb3Ax16
            case yb3Ax16 => (rintro w0 ⟨⟨sa, sb, sc, sd, se, sf, sg, sh⟩, ta, tb, tc, td, te⟩; go_simp; try with_reducible rfl)
            try simp only [Act.put, List.setIfInBounds_toArray, List.set_cons_zero, List.set_cons_succ]
            refine wpAnyH_take (i := 16) (oi := ⟨some 56, _, _, _, _, _⟩) (v := ?vb3Ax17) rfl (by kernel_rfl) (by kernel_rfl) (by kernel_rfl) (fun _ _ _ h => h) (Or.inl ⟨by rfl, ?yb3Ax17⟩) (by assumption) ?rb3Ax17
            case yb3Ax17 => (rintro w0 ⟨⟨sa, sb, sc, sd, se, sf, sg, sh⟩, ta, tb, tc, td, te⟩; go_simp; try with_reducible rfl)
            try simp only [Act.put, List.setIfInBounds_toArray, List.set_cons_zero, List.set_cons_succ]
            refine wpAnyH_take (i := 17) (oi := ⟨some 57, _, _, _, _, _⟩) (v := ?vb3Ax18) rfl (by kernel_rfl) (by kernel_rfl) (by kernel_rfl) (fun _ _ _ h => h) (Or.inl ⟨by rfl, ?yb3Ax18⟩) (by assumption) ?rb3Ax18
            case yb3Ax18 => (rintro w0 ⟨⟨sa, sb, sc, sd, se, sf, sg, sh⟩, ta, tb, tc, td, te⟩; go_simp; try with_reducible rfl)
            try simp only [Act.put, List.setIfInBounds_toArray, List.set_cons_zero, List.set_cons_succ]
            refine wpAnyH_take (i := 18) (oi := ⟨some 58, _, _, _, _, _⟩) (v := ?vb3Ax19) rfl (by kernel_rfl) (by kernel_rfl) (by kernel_rfl) (fun _ _ _ h => h) (Or.inl ⟨by rfl, ?yb3Ax19⟩) (by assumption) ?rb3Ax19
            case yb3Ax19 => (rintro w0 ⟨⟨sa, sb, sc, sd, se, sf, sg, sh⟩, ta, tb, tc, td, te⟩; go_simp; try with_reducible rfl)
            try simp only [Act.put, List.setIfInBounds_toArray, List.set_cons_zero, List.set_cons_succ]
            refine wpAnyH_take (i := 19) (oi := ⟨some 59, _, _, _, _, _⟩) (v := ?vb3Ax20) rfl (by kernel_rfl) (by kernel_rfl) (by kernel_rfl) (fun _ _ _ h => h) (Or.inl ⟨by rfl, ?yb3Ax20⟩) (by assumption) ?rb3Ax20
            case yb3Ax20 => (rintro w0 ⟨⟨sa, sb, sc, sd, se, sf, sg, sh⟩, ta, tb, tc, td, te⟩; go_simp; try with_reducible rfl)
            try simp only [Act.put, List.setIfInBounds_toArray, List.set_cons_zero, List.set_cons_succ]
            refine wpAnyH_take (i := 20) (oi := ⟨some 60, _, _, _, _, _⟩) (v := ?vb3Ax21) rfl (by kernel_rfl) (by kernel_rfl) (by kernel_rfl) (fun _ _ _ h => h) (Or.inl ⟨by rfl, ?yb3Ax21⟩) (by assumption) ?rb3Ax21
            case yb3Ax21 => (rintro w0 ⟨⟨sa, sb, sc, sd, se, sf, sg, sh⟩, ta, tb, tc, td, te⟩; go_simp; try with_reducible rfl)
            try simp only [Act.put, List.setIfInBounds_toArray, List.set_cons_zero, List.set_cons_succ]
            refine wpAnyH_take (i := 21) (oi := ⟨some 61, _, _, _, _, _⟩) (v := ?vb3Ax22) rfl (by kernel_rfl) (by kernel_rfl) (by kernel_rfl) (fun _ _ _ h => h) (Or.inl ⟨by rfl, ?yb3Ax22⟩) (by assumption) ?rb3Ax22
            case yb3Ax22 => (rintro w0 ⟨⟨sa, sb, sc, sd, se, sf, sg, sh⟩, ta, tb, tc, td, te⟩; go_simp; try with_reducible rfl)
            try simp only [Act.put, List.setIfInBounds_toArray, List.set_cons_zero, List.set_cons_succ]
            refine wpAnyH_ready (rs := [22]) (by kernel_rfl) (by simp) ?_
            refine AllReadyH.cons (o := ⟨some 62, _, _, _, _, _⟩) rfl (fun K1 hK1 => ?_) ?_
            · rw [if_pos (by rfl)]
              go_wp2_with (go_at_call 8; refine (void_may (V3.out.below hHeld.1.1) 3 seq taker to n most).mono ?_; rintro e w7 ⟨rfl, hb7⟩)
              have hB7 := hHeld.1.1.trans (hb7.mono hHeld.1.1.size)
              refine hK1.out _ _ ⟨HS5.out _ hB7, fillCells_below hb7 hHeld.2⟩ (fun hHeld => ?_)
              clear hK1 K1
              try simp only [Act.put, List.setIfInBounds_toArray, List.set_cons_zero, List.set_cons_succ]
              refine wpAnyH_take (i := 23) (oi := ⟨some 63, _, _, _, _, _⟩) (v := ?vb3Ax23) rfl (by kernel_rfl) (by kernel_rfl) (by kernel_rfl) (fun _ _ _ h => h) (Or.inl ⟨by rfl, ?yb3Ax23⟩) (by assumption) ?rb3Ax23
              case yb3Ax23 => (rintro w0 ⟨⟨sa, sb, sc, sd, se, sf, sg, sh⟩, ta, tb, tc, td, te⟩; go_simp; try with_reducible rfl)
              try simp only [Act.put, List.setIfInBounds_toArray, List.set_cons_zero, List.set_cons_succ]
              refine wpAnyH_take (i := 24) (oi := ⟨some 64, _, _, _, _, _⟩) (v := ?vb3Ax24) rfl (by kernel_rfl) (by kernel_rfl) (by kernel_rfl) (fun _ _ _ h => h) (Or.inl ⟨by rfl, ?yb3Ax24⟩) (by assumption) ?rb3Ax24
              case yb3Ax24 => (rintro w0 ⟨⟨sa, sb, sc, sd, se, sf, sg, sh⟩, ta, tb, tc, td, te⟩; go_simp; try with_reducible rfl)
              try simp only [Act.put, List.setIfInBounds_toArray, List.set_cons_zero, List.set_cons_succ]
              refine wpAnyH_done (by kernel_rfl) ?_ _
              have hB8 := hHeld.1.1
              go_wp2
              all_goals
                go_roundg 0
                case measure => omega
                case rel => exact ⟨4, by omega, by omega, rfl, hB8⟩
            exact AllReadyH.nil
          exact AllReadyH.nil
        exact AllReadyH.nil
      refine AllReadyH.cons (o := ⟨some 5, _, _, _, _, _⟩) rfl (fun K1 hK1 => ?_) ?_
      · rw [if_pos (by rfl)]
        go_simp
        refine hK1.out _ _ (HS5.out _ (hHeld.1.alloc hHeld.1.size _)) (fun hHeld => ?_)
        clear hK1 K1
        try simp only [Act.put, List.setIfInBounds_toArray, List.set_cons_zero, List.set_cons_succ]
        refine wpAnyH_ready (rs := [12]) (by kernel_rfl) (by simp) ?_
        refine AllReadyH.cons (o := ⟨some 37, _, _, _, _, _⟩) rfl (fun K1 hK1 => ?_) ?_
        · rw [if_pos (by rfl)]
          go_wp2_with (go_at_call 7; refine (void_do (V3.out.below hHeld.1) 3 seq taker to n).mono ?_; rintro e w5 ⟨rfl, hb5⟩)
          have kF := (hb5.block _ (by simp)).trans (alloc_new W0 (.cells #[.int .u64 0, .int .u8 0, .int .u8 0, .int .i64 0, .int .i64 0] 41))
          refine hK1.out _ _ (HS5.out _ (hHeld.1.trans (hb5.mono hHeld.1.size))) (fun hHeld => ?_)
          have hle5 := hle0
          clear hK1 K1
          try simp only [Act.put, List.setIfInBounds_toArray, List.set_cons_zero, List.set_cons_succ]
          refine wpAnyH_take (i := 13) (oi := ⟨some 24, _, _, _, _, _⟩) (v := ?va3x17) rfl (by kernel_rfl) (by kernel_rfl) (by kernel_rfl) (fun _ _ _ h => h) (Or.inl ⟨by rfl, ?ya3x17⟩) (by assumption) ?ra3x17
          case ya3x17 => (rintro w0 ⟨sa, sb, sc, sd, se, sf, sg, sh⟩; go_simp; try with_reducible rfl)
          try simp only [Act.put, List.setIfInBounds_toArray, List.set_cons_zero, List.set_cons_succ]
          refine wpAnyH_take (i := 14) (oi := ⟨some 38, _, _, _, _, _⟩) (v := ?va3x18) rfl (by kernel_rfl) (by kernel_rfl) (by kernel_rfl) (fun _ _ _ h => h) (Or.inl ⟨by rfl, ?ya3x18⟩) (by assumption) ?ra3x18
          case ya3x18 => (rintro w0 ⟨sa, sb, sc, sd, se, sf, sg, sh⟩; go_simp; try with_reducible rfl)
          try simp only [Act.put, List.setIfInBounds_toArray, List.set_cons_zero, List.set_cons_succ]
          refine wpAnyH_take (i := 15) (oi := ⟨some 39, _, _, _, _, _⟩) (v := ?va3x19) rfl (by kernel_rfl) (by kernel_rfl) (by kernel_rfl) (fun _ _ _ h => h) (Or.inl ⟨by rfl, ?ya3x19⟩) (by assumption) ?ra3x19
          case ya3x19 => (rintro w0 ⟨sa, sb, sc, sd, se, sf, sg, sh⟩; go_simp; try with_reducible rfl)
          try simp only [Act.put, List.setIfInBounds_toArray, List.set_cons_zero, List.set_cons_succ]
          refine wpAnyH_ready (rs := [17]) (by kernel_rfl) (by simp) ?_
          refine AllReadyH.cons (o := ⟨none, _, _, _, _, _⟩) rfl (fun K1 hK1 => ?_) ?_
          · rw [if_pos (by rfl)]
            refine wp_store_mid _ _ _ rfl _ 0 #[.int .u64 0, .int .u8 0, .int .u8 0, .int .i64 0, .int .i64 0] rfl rfl (thereFill kF) infoFill (by simp [Value.oneCell']) ?_
            have hq := World.rangeAt_setCells_same _ _ 0 [.int .u64 0, .int .u8 0, .int .u8 0, .int .i64 0, .int .i64 0] (thereFill kF)
            have hB6 := Below.setCells hHeld.1 (hle5) [.int .u64 0, .int .u8 0, .int .u8 0, .int .i64 0, .int .i64 0] 0
            refine hK1.out _ _ (HS5.out _ hB6) (fun hHeld => ?_)
            clear hK1 K1
            try simp only [Act.put]
            refine wpAnyH_take (i := 18) (oi := ⟨some 6, _, _, _, _, _⟩) (v := ?va3x20) rfl (by kernel_rfl) (by kernel_rfl) (by kernel_rfl) (fun _ _ _ h => h) (Or.inl ⟨by rfl, ?ya3x20⟩) (by assumption) ?ra3x20
            case ya3x20 => (rintro w0 ⟨sa, sb, sc, sd, se, sf, sg, sh⟩; go_simp; try with_reducible rfl)
            try simp only [Act.put, List.setIfInBounds_toArray, List.set_cons_zero, List.set_cons_succ]
            refine wpAnyH_done (by kernel_rfl) ?_ _
            have hq0 := Lib.hid hq
            clear hq
            have hB6 := hHeld.1
            go_wp2
            refine wp_region_held_drew (S := VHold2 W3 gl g0 6 (some ⟨z, 0, none⟩) (some ⟨y, 0, none⟩) seq taker to n most (W0.heap.size)) (by kernel_rfl) ?_ (fun hHeld => ?_)
            · exact ⟨HS5.out _ (Below.drew hB6), fillCells_of hq0.out⟩
            revert hHeld
            generalize World.drew _ = W6
            intro hHeld
            refine wpAnyH_take (i := 0) (oi := ⟨some 40, _, _, _, _, _⟩) (v := ?vb3Bx1) rfl (by kernel_rfl) (by kernel_rfl) (by kernel_rfl) (fun _ _ _ h => h) (Or.inl ⟨by rfl, ?yb3Bx1⟩) (by assumption) ?rb3Bx1
            case yb3Bx1 => (rintro w0 ⟨⟨sa, sb, sc, sd, se, sf, sg, sh⟩, ta, tb, tc, td, te⟩; go_simp; try with_reducible rfl)
            try simp only [Act.put, List.setIfInBounds_toArray, List.set_cons_zero, List.set_cons_succ]
            refine wpAnyH_take (i := 1) (oi := ⟨some 41, _, _, _, _, _⟩) (v := ?vb3Bx2) rfl (by kernel_rfl) (by kernel_rfl) (by kernel_rfl) (fun _ _ _ h => h) (Or.inl ⟨by rfl, ?yb3Bx2⟩) (by assumption) ?rb3Bx2
            case yb3Bx2 => (rintro w0 ⟨⟨sa, sb, sc, sd, se, sf, sg, sh⟩, ta, tb, tc, td, te⟩; go_simp; try with_reducible rfl)
            try simp only [Act.put, List.setIfInBounds_toArray, List.set_cons_zero, List.set_cons_succ]
            refine wpAnyH_take (i := 2) (oi := ⟨some 42, _, _, _, _, _⟩) (v := ?vb3Bx3) rfl (by kernel_rfl) (by kernel_rfl) (by kernel_rfl) (fun _ _ _ h => h) (Or.inl ⟨by rfl, ?yb3Bx3⟩) (by assumption) ?rb3Bx3
            case yb3Bx3 => (rintro w0 ⟨⟨sa, sb, sc, sd, se, sf, sg, sh⟩, ta, tb, tc, td, te⟩; go_simp; try with_reducible rfl)
            try simp only [Act.put, List.setIfInBounds_toArray, List.set_cons_zero, List.set_cons_succ]
            refine wpAnyH_take (i := 3) (oi := ⟨some 43, _, _, _, _, _⟩) (v := ?vb3Bx4) rfl (by kernel_rfl) (by kernel_rfl) (by kernel_rfl) (fun _ _ _ h => h) (Or.inl ⟨by rfl, ?yb3Bx4⟩) (by assumption) ?rb3Bx4
            case yb3Bx4 => (rintro w0 ⟨⟨sa, sb, sc, sd, se, sf, sg, sh⟩, ta, tb, tc, td, te⟩; go_simp; try with_reducible rfl)
            try simp only [Act.put, List.setIfInBounds_toArray, List.set_cons_zero, List.set_cons_succ]
            refine wpAnyH_take (i := 4) (oi := ⟨some 44, _, _, _, _, _⟩) (v := ?vb3Bx5) rfl (by kernel_rfl) (by kernel_rfl) (by kernel_rfl) (fun _ _ _ h => h) (Or.inl ⟨by rfl, ?yb3Bx5⟩) (by assumption) ?rb3Bx5
            case yb3Bx5 => (rintro w0 ⟨⟨sa, sb, sc, sd, se, sf, sg, sh⟩, ta, tb, tc, td, te⟩; go_simp; try with_reducible rfl)
            try simp only [Act.put, List.setIfInBounds_toArray, List.set_cons_zero, List.set_cons_succ]
            refine wpAnyH_take (i := 5) (oi := ⟨some 45, _, _, _, _, _⟩) (v := ?vb3Bx6) rfl (by kernel_rfl) (by kernel_rfl) (by kernel_rfl) (fun _ _ _ h => h) (Or.inl ⟨by rfl, ?yb3Bx6⟩) (by assumption) ?rb3Bx6
            case yb3Bx6 => (rintro w0 ⟨⟨sa, sb, sc, sd, se, sf, sg, sh⟩, ta, tb, tc, td, te⟩; go_simp; try with_reducible rfl)
            try simp only [Act.put, List.setIfInBounds_toArray, List.set_cons_zero, List.set_cons_succ]
            refine wpAnyH_take (i := 6) (oi := ⟨some 46, _, _, _, _, _⟩) (v := ?vb3Bx7) rfl (by kernel_rfl) (by kernel_rfl) (by kernel_rfl) (fun _ _ _ h => h) (Or.inl ⟨by rfl, ?yb3Bx7⟩) (by assumption) ?rb3Bx7
            case yb3Bx7 => (rintro w0 ⟨⟨sa, sb, sc, sd, se, sf, sg, sh⟩, ta, tb, tc, td, te⟩; go_simp; try with_reducible rfl)
            try simp only [Act.put, List.setIfInBounds_toArray, List.set_cons_zero, List.set_cons_succ]
            refine wpAnyH_take (i := 7) (oi := ⟨some 47, _, _, _, _, _⟩) (v := ?vb3Bx8) rfl (by kernel_rfl) (by kernel_rfl) (by kernel_rfl) (fun _ _ _ h => h) (Or.inl ⟨by rfl, ?yb3Bx8⟩) (by assumption) ?rb3Bx8
            case yb3Bx8 => (rintro w0 ⟨⟨sa, sb, sc, sd, se, sf, sg, sh⟩, ta, tb, tc, td, te⟩; go_simp; try with_reducible rfl)
            try simp only [Act.put, List.setIfInBounds_toArray, List.set_cons_zero, List.set_cons_succ]
            refine wpAnyH_take (i := 8) (oi := ⟨some 48, _, _, _, _, _⟩) (v := ?vb3Bx9) rfl (by kernel_rfl) (by kernel_rfl) (by kernel_rfl) (fun _ _ _ h => h) (Or.inl ⟨by rfl, ?yb3Bx9⟩) (by assumption) ?rb3Bx9
            case yb3Bx9 => (rintro w0 ⟨⟨sa, sb, sc, sd, se, sf, sg, sh⟩, ta, tb, tc, td, te⟩; go_simp; try with_reducible rfl)
            try simp only [Act.put, List.setIfInBounds_toArray, List.set_cons_zero, List.set_cons_succ]
            refine wpAnyH_take (i := 9) (oi := ⟨some 49, _, _, _, _, _⟩) (v := ?vb3Bx10) rfl (by kernel_rfl) (by kernel_rfl) (by kernel_rfl) (fun _ _ _ h => h) (Or.inl ⟨by rfl, ?yb3Bx10⟩) (by assumption) ?rb3Bx10
            case yb3Bx10 => (rintro w0 ⟨⟨sa, sb, sc, sd, se, sf, sg, sh⟩, ta, tb, tc, td, te⟩; go_simp; try with_reducible rfl)
            try simp only [Act.put, List.setIfInBounds_toArray, List.set_cons_zero, List.set_cons_succ]
            refine wpAnyH_take (i := 10) (oi := ⟨some 50, _, _, _, _, _⟩) (v := ?vb3Bx11) rfl (by kernel_rfl) (by kernel_rfl) (by kernel_rfl) (fun _ _ _ h => h) (Or.inl ⟨by rfl, ?yb3Bx11⟩) (by assumption) ?rb3Bx11
            case yb3Bx11 => (rintro w0 ⟨⟨sa, sb, sc, sd, se, sf, sg, sh⟩, ta, tb, tc, td, te⟩; go_simp; try with_reducible rfl)
            try simp only [Act.put, List.setIfInBounds_toArray, List.set_cons_zero, List.set_cons_succ]
            refine wpAnyH_take (i := 11) (oi := ⟨some 51, _, _, _, _, _⟩) (v := ?vb3Bx12) rfl (by kernel_rfl) (by kernel_rfl) (by kernel_rfl) (fun _ _ _ h => h) (Or.inl ⟨by rfl, ?yb3Bx12⟩) (by assumption) ?rb3Bx12
            case yb3Bx12 => (rintro w0 ⟨⟨sa, sb, sc, sd, se, sf, sg, sh⟩, ta, tb, tc, td, te⟩; go_simp; try with_reducible rfl)
            try simp only [Act.put, List.setIfInBounds_toArray, List.set_cons_zero, List.set_cons_succ]
            refine wpAnyH_take (i := 12) (oi := ⟨some 52, _, _, _, _, _⟩) (v := ?vb3Bx13) rfl (by kernel_rfl) (by kernel_rfl) (by kernel_rfl) (fun _ _ _ h => h) (Or.inl ⟨by rfl, ?yb3Bx13⟩) (by assumption) ?rb3Bx13
            case yb3Bx13 => (rintro w0 ⟨⟨sa, sb, sc, sd, se, sf, sg, sh⟩, ta, tb, tc, td, te⟩; go_simp; try with_reducible rfl)
            try simp only [Act.put, List.setIfInBounds_toArray, List.set_cons_zero, List.set_cons_succ]
            refine wpAnyH_take (i := 13) (oi := ⟨some 53, _, _, _, _, _⟩) (v := ?vb3Bx14) rfl (by kernel_rfl) (by kernel_rfl) (by kernel_rfl) (fun _ _ _ h => h) (Or.inl ⟨by rfl, ?yb3Bx14⟩) (by assumption) ?rb3Bx14
            case yb3Bx14 => (rintro w0 ⟨⟨sa, sb, sc, sd, se, sf, sg, sh⟩, ta, tb, tc, td, te⟩; go_simp; try with_reducible rfl)
            try simp only [Act.put, List.setIfInBounds_toArray, List.set_cons_zero, List.set_cons_succ]
            refine wpAnyH_take (i := 14) (oi := ⟨some 54, _, _, _, _, _⟩) (v := ?vb3Bx15) rfl (by kernel_rfl) (by kernel_rfl) (by kernel_rfl) (fun _ _ _ h => h) (Or.inl ⟨by rfl, ?yb3Bx15⟩) (by assumption) ?rb3Bx15
            case yb3Bx15 => (rintro w0 ⟨⟨sa, sb, sc, sd, se, sf, sg, sh⟩, ta, tb, tc, td, te⟩; go_simp; try with_reducible rfl)
            try simp only [Act.put, List.setIfInBounds_toArray, List.set_cons_zero, List.set_cons_succ]
            refine wpAnyH_take (i := 15) (oi := ⟨some 55, _, _, _, _, _⟩) (v := ?vb3Bx16) rfl (by kernel_rfl) (by kernel_rfl) (by kernel_rfl) (fun _ _ _ h => h) (Or.inl ⟨by rfl, ?yb3Bx16⟩) (by assumption) ?rb3Bx16
            case yb3Bx16 => (rintro w0 ⟨⟨sa, sb, sc, sd, se, sf, sg, sh⟩, ta, tb, tc, td, te⟩; go_simp; try with_reducible rfl)
            try simp only [Act.put, List.setIfInBounds_toArray, List.set_cons_zero, List.set_cons_succ]
            refine wpAnyH_take (i := 16) (oi := ⟨some 56, _, _, _, _, _⟩) (v := ?vb3Bx17) rfl (by kernel_rfl) (by kernel_rfl) (by kernel_rfl) (fun _ _ _ h => h) (Or.inl ⟨by rfl, ?yb3Bx17⟩) (by assumption) ?rb3Bx17
            case yb3Bx17 => (rintro w0 ⟨⟨sa, sb, sc, sd, se, sf, sg, sh⟩, ta, tb, tc, td, te⟩; go_simp; try with_reducible rfl)
            try simp only [Act.put, List.setIfInBounds_toArray, List.set_cons_zero, List.set_cons_succ]
            refine wpAnyH_take (i := 17) (oi := ⟨some 57, _, _, _, _, _⟩) (v := ?vb3Bx18) rfl (by kernel_rfl) (by kernel_rfl) (by kernel_rfl) (fun _ _ _ h => h) (Or.inl ⟨by rfl, ?yb3Bx18⟩) (by assumption) ?rb3Bx18
            case yb3Bx18 => (rintro w0 ⟨⟨sa, sb, sc, sd, se, sf, sg, sh⟩, ta, tb, tc, td, te⟩; go_simp; try with_reducible rfl)
            try simp only [Act.put, List.setIfInBounds_toArray, List.set_cons_zero, List.set_cons_succ]
            refine wpAnyH_take (i := 18) (oi := ⟨some 58, _, _, _, _, _⟩) (v := ?vb3Bx19) rfl (by kernel_rfl) (by kernel_rfl) (by kernel_rfl) (fun _ _ _ h => h) (Or.inl ⟨by rfl, ?yb3Bx19⟩) (by assumption) ?rb3Bx19
            case yb3Bx19 => (rintro w0 ⟨⟨sa, sb, sc, sd, se, sf, sg, sh⟩, ta, tb, tc, td, te⟩; go_simp; try with_reducible rfl)
            try simp only [Act.put, List.setIfInBounds_toArray, List.set_cons_zero, List.set_cons_succ]
            refine wpAnyH_take (i := 19) (oi := ⟨some 59, _, _, _, _, _⟩) (v := ?vb3Bx20) rfl (by kernel_rfl) (by kernel_rfl) (by kernel_rfl) (fun _ _ _ h => h) (Or.inl ⟨by rfl, ?yb3Bx20⟩) (by assumption) ?rb3Bx20
            case yb3Bx20 => (rintro w0 ⟨⟨sa, sb, sc, sd, se, sf, sg, sh⟩, ta, tb, tc, td, te⟩; go_simp; try with_reducible rfl)
            try simp only [Act.put, List.setIfInBounds_toArray, List.set_cons_zero, List.set_cons_succ]
            refine wpAnyH_take (i := 20) (oi := ⟨some 60, _, _, _, _, _⟩) (v := ?vb3Bx21) rfl (by kernel_rfl) (by kernel_rfl) (by kernel_rfl) (fun _ _ _ h => h) (Or.inl ⟨by rfl, ?yb3Bx21⟩) (by assumption) ?rb3Bx21
            case yb3Bx21 => (rintro w0 ⟨⟨sa, sb, sc, sd, se, sf, sg, sh⟩, ta, tb, tc, td, te⟩; go_simp; try with_reducible rfl)
            try simp only [Act.put, List.setIfInBounds_toArray, List.set_cons_zero, List.set_cons_succ]
            refine wpAnyH_take (i := 21) (oi := ⟨some 61, _, _, _, _, _⟩) (v := ?vb3Bx22) rfl (by kernel_rfl) (by kernel_rfl) (by kernel_rfl) (fun _ _ _ h => h) (Or.inl ⟨by rfl, ?yb3Bx22⟩) (by assumption) ?rb3Bx22
            case yb3Bx22 => (rintro w0 ⟨⟨sa, sb, sc, sd, se, sf, sg, sh⟩, ta, tb, tc, td, te⟩; go_simp; try with_reducible rfl)
            try simp only [Act.put, List.setIfInBounds_toArray, List.set_cons_zero, List.set_cons_succ]
            refine wpAnyH_ready (rs := [22]) (by kernel_rfl) (by simp) ?_
            refine AllReadyH.cons (o := ⟨some 62, _, _, _, _, _⟩) rfl (fun K1 hK1 => ?_) ?_
            · rw [if_pos (by rfl)]
              go_wp2_with (go_at_call 8; refine (void_may (V3.out.below hHeld.1.1) 3 seq taker to n most).mono ?_; rintro e w7 ⟨rfl, hb7⟩)
              have hB7 := hHeld.1.1.trans (hb7.mono hHeld.1.1.size)
              refine hK1.out _ _ ⟨HS5.out _ hB7, fillCells_below hb7 hHeld.2⟩ (fun hHeld => ?_)
              clear hK1 K1
              try simp only [Act.put, List.setIfInBounds_toArray, List.set_cons_zero, List.set_cons_succ]
              refine wpAnyH_take (i := 23) (oi := ⟨some 63, _, _, _, _, _⟩) (v := ?vb3Bx23) rfl (by kernel_rfl) (by kernel_rfl) (by kernel_rfl) (fun _ _ _ h => h) (Or.inl ⟨by rfl, ?yb3Bx23⟩) (by assumption) ?rb3Bx23
              case yb3Bx23 => (rintro w0 ⟨⟨sa, sb, sc, sd, se, sf, sg, sh⟩, ta, tb, tc, td, te⟩; go_simp; try with_reducible rfl)
              try simp only [Act.put, List.setIfInBounds_toArray, List.set_cons_zero, List.set_cons_succ]
              refine wpAnyH_take (i := 24) (oi := ⟨some 64, _, _, _, _, _⟩) (v := ?vb3Bx24) rfl (by kernel_rfl) (by kernel_rfl) (by kernel_rfl) (fun _ _ _ h => h) (Or.inl ⟨by rfl, ?yb3Bx24⟩) (by assumption) ?rb3Bx24
              case yb3Bx24 => (rintro w0 ⟨⟨sa, sb, sc, sd, se, sf, sg, sh⟩, ta, tb, tc, td, te⟩; go_simp; try with_reducible rfl)
              try simp only [Act.put, List.setIfInBounds_toArray, List.set_cons_zero, List.set_cons_succ]
              refine wpAnyH_done (by kernel_rfl) ?_ _
              have hB8 := hHeld.1.1
              go_wp2
              all_goals
                go_roundg 0
                case measure => omega
                case rel => exact ⟨4, by omega, by omega, rfl, hB8⟩
            exact AllReadyH.nil
          exact AllReadyH.nil
        exact AllReadyH.nil
      exact AllReadyH.nil
    · go_wp2_with (go_at_call 9; refine (lives_true _).mono ?_; rintro e w9 ⟨rfl, hb9⟩)
      all_goals
        go_ret
        exact ⟨rfl, HB3.out.trans ((BW.out.trans (hb9.mono BW.out.size)).mono HB3.out.size)⟩
end Go.Proofs.Ytelcdiceongfdaa
