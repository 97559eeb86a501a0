/-
  Walks of the layer fills, third part: a trade of an offer; may it be?
  Walks of the layer fills, fourth part: how much may be filled.
  Walks of the layer fills, third part: more ways of a trade.
-/
import Derived.Test.YtelcdiceongfdaaMoP15
import Derived.Deep.RegionHeld3
section
namespace Go.Proofs.Ytelcdiceongfdaa
open Go.RowKit Go.BigFrame
set_option maxRecDepth 100000

abbrev houseV (L B : Option Addr) : Value := .agg #[.pointer L, .pointer B]
def tradeOf (L B : Option Addr) (o : Offer) (taker to : Nat) (want most : Int) : Value :=
  .agg #[.pointer L, .pointer B, .int .u64 o.seq, .int .u8 o.owner, .int .u8 o.sell, .int .u8 o.buy, .int .i64 o.left, .int .i64 o.num, .int .i64 o.den, .int .u8 taker, .int .u8 to, .int .i64 want, .int .i64 most]
def TradePost (w : World) (v : Value) (ok : Bool) (e : Ending) (w' : World) : Prop := e = .returned (.tuple #[v, .bool ok]) ∧ Below w.heap.size w w'

theorem two_blocks {w w1 : World} {A B : Array Value} {s t : TypeId} (hb : Below ((w.alloc (.cells A s)).alloc (.cells B t)).heap.size ((w.alloc (.cells A s)).alloc (.cells B t)) w1) :
    w1.heap[w.heap.size]? = some (.cells A s (0, 0)) ∧ w1.heap[w.heap.size + 1]? = some (.cells B t (0, 0)) ∧ w.heap.size + 2 ≤ w1.heap.size := by
  have h1 : ((w.alloc (.cells A s)).alloc (.cells B t)).heap[w.heap.size]? = some (.cells A s (0, 0)) := (Below.heap_alloc _ _ _ (by simp)).trans (alloc_new w _)
  have h2 : ((w.alloc (.cells A s)).alloc (.cells B t)).heap[w.heap.size + 1]? = some (.cells B t (0, 0)) := by have := alloc_new (w.alloc (.cells A s)) (.cells B t); rw [World.size_alloc] at this; exact this
  exact ⟨(hb.block _ (by simp; omega)).trans h1, (hb.block _ (by simp)).trans h2, by have := hb.size; simpa using this⟩
theorem houseMem {w1 : World} {b : Nat} {L B : Option Addr} (h : w1.heap[b]? = some (.cells #[.pointer L, .pointer B] 29 (0, 0))) : w1.cell? ⟨b, 0, none⟩ = some (.pointer L) ∧ w1.cell? ⟨b, 1, none⟩ = some (.pointer B) := by
  constructor <;> simp [World.cell?, h]
theorem tradeMem {w1 : World} {b : Nat} (h : w1.heap[b]? = some (.cells #[.pointer none, .pointer none, .int .u64 0, .int .u8 0, .int .u8 0, .int .u8 0, .int .i64 0, .int .i64 0, .int .i64 0, .int .u8 0, .int .u8 0, .int .i64 0, .int .i64 0] 70 (0, 0))) : (∀ j v, (#[.pointer none, .pointer none, .int .u64 0, .int .u8 0, .int .u8 0, .int .u8 0, .int .i64 0, .int .i64 0, .int .i64 0, .int .u8 0, .int .u8 0, .int .i64 0, .int .i64 0] : Array Value)[j]? = some v → w1.cell? ⟨b, j, none⟩ = some v) ∧ ∀ j, w1.frozen? ⟨b, j, none⟩ = false :=
  ⟨fun j v hv => (cell_of_row _ _ j _ _ _ h).trans hv, fun j => by simp [World.frozen?, h]⟩

/-- two blocks made, each with its cells -/
theorem allocs2 {w1 : World} (X Y : List Value) (s t : TypeId) :
    ((w1.alloc (.cells X.toArray s)).alloc (.cells Y.toArray t)).drew.rangeAt w1.heap.size 0 X ∧ ((w1.alloc (.cells X.toArray s)).alloc (.cells Y.toArray t)).drew.rangeAt (w1.heap.size + 1) 0 Y := by
  have h1 : ((w1.alloc (.cells X.toArray s)).alloc (.cells Y.toArray t)).heap[w1.heap.size]? = some (.cells X.toArray s (0, 0)) := (Below.heap_alloc _ _ _ (by simp)).trans (alloc_new w1 _)
  have h2 : ((w1.alloc (.cells X.toArray s)).alloc (.cells Y.toArray t)).heap[w1.heap.size + 1]? = some (.cells Y.toArray t (0, 0)) := by have := alloc_new (w1.alloc (.cells X.toArray s)) (.cells Y.toArray t); rw [World.size_alloc] at this; exact this
  constructor
  · intro j v hv
    exact (cell_of_row _ _ _ _ _ _ h1).trans (by simpa using hv)
  · intro j v hv
    exact (cell_of_row _ _ _ _ _ _ h2).trans (by simpa using hv)
theorem infoTrade : ((Try.prog).info? 70).map (·.size) = some 13 := by kernel_rfl
theorem thereTrade {w1 : World} {b : Nat} (h : w1.heap[b]? = some (.cells #[.pointer none, .pointer none, .int .u64 0, .int .u8 0, .int .u8 0, .int .u8 0, .int .i64 0, .int .i64 0, .int .i64 0, .int .u8 0, .int .u8 0, .int .i64 0, .int .i64 0] 70 (0, 0))) : w1.there b 0 13 := fun j hj => by
  obtain ⟨zc, zf⟩ := tradeMem h
  have e : ∃ v, (#[.pointer none, .pointer none, .int .u64 0, .int .u8 0, .int .u8 0, .int .u8 0, .int .i64 0, .int .i64 0, .int .i64 0, .int .u8 0, .int .u8 0, .int .i64 0, .int .i64 0] : Array Value)[0 + j]? = some v := ⟨_, Array.getElem?_eq_getElem (by simpa using hj)⟩
  obtain ⟨v, hv⟩ := e
  exact ⟨by rw [zc _ v hv]; rfl, zf _⟩
/-- what every operation of the last region keeps -/
def TradeHold (w w1 : World) (L : Option Addr) (p : Nat) (tv : List Value) (w' : World) : Prop :=
  Below w.heap.size w w' ∧ w'.cell? ⟨w.heap.size, 0, none⟩ = some (.pointer L) ∧ w'.cell? ⟨w1.heap.size, 1, none⟩ = some (.int .u8 p) ∧ w'.rangeAt (w1.heap.size + 1) 0 tv ∧ w'.there (w.heap.size + 1) 0 13
theorem Below.setCells {B : Nat} {w w' : World} (h : Below B w w') {b : Nat} (hb : B ≤ b) : ∀ (vs : List Value) (o : Nat), Below B w (w'.setCells b o vs) := by
  intro vs
  induction vs generalizing w' with
  | nil => intro o; exact h
  | cons v l ih => intro o; exact ih (Below.setCell h hb v) (o + 1)
theorem TradeHold.store {w w1 w' : World} {L : Option Addr} {p : Nat} {tv : List Value} (h : TradeHold w w1 L p tv w') (h1 : w.heap.size + 2 ≤ w1.heap.size) : TradeHold w w1 L p tv (w'.setCells (w.heap.size + 1) 0 tv) := by
  obtain ⟨sa, sb, sc, sd, se⟩ := h
  refine ⟨Below.setCells sa (by omega) _ _, ?_, ?_, World.rangeAt_setCells_apart sd _ _ _ (.inl (by omega)), World.there_setCells se _ _ _⟩
  · rw [World.cell?_setCells_out _ _ _ _ _ (by simp)]; exact sb
  · rw [World.cell?_setCells_out _ _ _ _ _ (by simp; omega)]; exact sc

set_option maxHeartbeats 4000000 in
/-- there is no such offer -/
theorem trade_none {w : World} (L : Option Addr) (B : Option Addr) (seq taker to : Nat) (want most : Int) (o : Offer) (hF : ∀ W, Below w.heap.size w W → Calls Try.prog 12 #[.pointer B, .int .u64 seq] W (FindPost W o false))
     :
    Calls Try.prog 21 #[.agg #[.pointer L, .pointer B], .int .u64 seq, .int .u8 taker, .int .u8 to, .int .i64 want, .int .i64 most] w (TradePost w (tradeOf L B o taker to want most) false) := by
  have HF := Lib.hid hF; clear hF
  obtain ⟨sq, p, s, y, left, a, d⟩ := o
  try dsimp only at *
  go_enter Try.func21, Try.ntmps21
  go_wp2_with (go_at_call 12; refine (HF.out _ (by repeat (first | with_reducible exact Below.refl _ _ | with_reducible assumption | refine Below.drew ?_ | refine Below.setCell ?_ (by first | exact Nat.le_refl _ | omega | (simp; done) | (simp; omega)) _ | refine Below.alloc ?_ (by first | exact Nat.le_refl _ | omega | (simp; done) | (simp; omega)) _ | refine Below.tr ?_ (Nat.le_refl _) (by assumption) | exact Below.refl _ _ | assumption))).mono ?_; rintro e w1 ⟨rfl, hb1⟩; obtain ⟨m0, m1, mz⟩ := two_blocks hb1; obtain ⟨c0, c1⟩ := houseMem m0; have M1 := Lib.hid m1; obtain ⟨zc, zf⟩ := tradeMem m1; have hB1 : Below w.heap.size w w1 := (by repeat (first | with_reducible exact Below.refl _ _ | with_reducible assumption | refine Below.drew ?_ | refine Below.setCell ?_ (by first | exact Nat.le_refl _ | omega | (simp; done) | (simp; omega)) _ | refine Below.alloc ?_ (by first | exact Nat.le_refl _ | omega | (simp; done) | (simp; omega)) _ | refine Below.tr ?_ (Nat.le_refl _) (by assumption) | exact Below.refl _ _ | assumption)); have s0 : w.heap.size < w1.heap.size := (by omega); have s1 : w.heap.size < w1.heap.size + 1 := (by omega); have s2 : w.heap.size + 1 < w1.heap.size := (by omega); have s3 : w.heap.size + 1 < w1.heap.size + 1 := (by omega); have s4 : w.heap.size < w1.heap.size + 2 := (by omega); have s5 : w.heap.size + 1 < w1.heap.size + 2 := (by omega); clear m0 m1 zc zf; simp only [Offer.val])
  obtain ⟨tv, htv⟩ : ∃ tv : List Value, tv = [.pointer L, .pointer B, .int .u64 sq, .int .u8 p, .int .u8 s, .int .u8 y, .int .i64 left, .int .i64 a, .int .i64 d, .int .u8 taker, .int .u8 to, .int .i64 want, .int .i64 most] := ⟨_, rfl⟩
  have HTL := Lib.hid (show tv.length = 13 ∧ ((Try.prog).info? 70).map (·.size) = some tv.length by subst htv; exact ⟨rfl, infoTrade⟩)
  have HTO := Lib.hid (show tv.toArray.all (·.oneCell') = true by subst htv; simp [Value.oneCell'])
  refine wp_region_held_drew (S := TradeHold w w1 L p tv) (by kernel_rfl) ?_ (fun hHeld => ?_)
  · obtain ⟨r1, r2⟩ := allocs2 (w1 := w1) [.int .u64 sq, .int .u8 p, .int .u8 s, .int .u8 y, .int .i64 left, .int .i64 a, .int .i64 d] tv 57 70
    rw [htv] at *
    refine ⟨(by repeat (first | with_reducible exact Below.refl _ _ | with_reducible assumption | refine Below.drew ?_ | refine Below.setCell ?_ (by first | exact Nat.le_refl _ | omega | (simp; done) | (simp; omega)) _ | refine Below.alloc ?_ (by first | exact Nat.le_refl _ | omega | (simp; done) | (simp; omega)) _ | refine Below.tr ?_ (Nat.le_refl _) (by assumption) | exact Below.refl _ _ | assumption)), ?_, r1 1 _ rfl, r2, ?_⟩
    · simp [c0, World.cell?_alloc_some]
    · rw [World.there_drew]; exact World.there_alloc (World.there_alloc (thereTrade M1.out) _) _
  have HTV := Lib.hid htv
  clear htv
  revert hHeld
  generalize World.drew _ = W0
  intro hHeld
  refine wpAnyH_take (i := 0) (oi := ⟨some 31, _, _, _, _, _⟩) (v := .agg tv.toArray) rfl (by kernel_rfl) (by kernel_rfl) (by kernel_rfl) (fun _ _ _ h => h) (yieldsIf_load_mid (by rfl) _ _ rfl (w1.heap.size + 1) 0 rfl tv _ (fun _ hw => hw.2.2.2.1) Try.underlying70 rfl HTL.out.2) (by assumption) ?_
  try simp only [Act.put, List.setIfInBounds_toArray, List.set_cons_zero, List.set_cons_succ]
  refine wpAnyH_take (i := 1) (oi := ⟨some 32, _, _, _, _, _⟩) (v := ?v2) rfl (by kernel_rfl) (by kernel_rfl) (by kernel_rfl) (fun _ _ _ h => h) (Or.inl ⟨by rfl, ?y2⟩) (by assumption) ?r2
  case y2 => (rintro w0 ⟨sa, sb, sc, sd, se⟩; go_simp; try with_reducible rfl)
  try simp only [Act.put, List.setIfInBounds_toArray, List.set_cons_zero, List.set_cons_succ]
  refine wpAnyH_take (i := 2) (oi := ⟨some 33, _, _, _, _, _⟩) (v := ?v3) rfl (by kernel_rfl) (by kernel_rfl) (by kernel_rfl) (fun _ _ _ h => h) (Or.inl ⟨by rfl, ?y3⟩) (by assumption) ?r3
  case y3 => (rintro w0 ⟨sa, sb, sc, sd, se⟩; go_simp; try with_reducible rfl)
  try simp only [Act.put, List.setIfInBounds_toArray, List.set_cons_zero, List.set_cons_succ]
  refine wpAnyH_take (i := 3) (oi := ⟨some 34, _, _, _, _, _⟩) (v := undef) rfl (by kernel_rfl) (by kernel_rfl) (by kernel_rfl) (fun _ _ _ h => h) (Or.inr ⟨by rfl, rfl⟩) (by assumption) ?_
  try simp only [Act.put, List.setIfInBounds_toArray, List.set_cons_zero, List.set_cons_succ]
  refine wpAnyH_take (i := 4) (oi := ⟨some 35, _, _, _, _, _⟩) (v := undef) rfl (by kernel_rfl) (by kernel_rfl) (by kernel_rfl) (fun _ _ _ h => h) (Or.inr ⟨by rfl, rfl⟩) (by assumption) ?_
  try simp only [Act.put, List.setIfInBounds_toArray, List.set_cons_zero, List.set_cons_succ]
  refine wpAnyH_take (i := 5) (oi := ⟨some 36, _, _, _, _, _⟩) (v := undef) rfl (by kernel_rfl) (by kernel_rfl) (by kernel_rfl) (fun _ _ _ h => h) (Or.inr ⟨by rfl, rfl⟩) (by assumption) ?_
  try simp only [Act.put, List.setIfInBounds_toArray, List.set_cons_zero, List.set_cons_succ]
  refine wpAnyH_take (i := 6) (oi := ⟨some 37, _, _, _, _, _⟩) (v := undef) rfl (by kernel_rfl) (by kernel_rfl) (by kernel_rfl) (fun _ _ _ h => h) (Or.inr ⟨by rfl, rfl⟩) (by assumption) ?_
  try simp only [Act.put, List.setIfInBounds_toArray, List.set_cons_zero, List.set_cons_succ]
  refine wpAnyH_take (i := 7) (oi := ⟨some 38, _, _, _, _, _⟩) (v := ?v8) rfl (by kernel_rfl) (by kernel_rfl) (by kernel_rfl) (fun _ _ _ h => h) (Or.inl ⟨by rfl, ?y8⟩) (by assumption) ?r8
  case y8 => (rintro w0 ⟨sa, sb, sc, sd, se⟩; go_simp; try with_reducible rfl)
  try simp only [Act.put, List.setIfInBounds_toArray, List.set_cons_zero, List.set_cons_succ]
  refine wpAnyH_take (i := 8) (oi := ⟨some 39, _, _, _, _, _⟩) (v := ?v9) rfl (by kernel_rfl) (by kernel_rfl) (by kernel_rfl) (fun _ _ _ h => h) (Or.inl ⟨by rfl, ?y9⟩) (by assumption) ?r9
  case y9 => (rintro w0 ⟨sa, sb, sc, sd, se⟩; go_simp; try with_reducible rfl)
  try simp only [Act.put, List.setIfInBounds_toArray, List.set_cons_zero, List.set_cons_succ]
  refine wpAnyH_take (i := 9) (oi := ⟨some 40, _, _, _, _, _⟩) (v := undef) rfl (by kernel_rfl) (by kernel_rfl) (by kernel_rfl) (fun _ _ _ h => h) (Or.inr ⟨by rfl, rfl⟩) (by assumption) ?_
  try simp only [Act.put, List.setIfInBounds_toArray, List.set_cons_zero, List.set_cons_succ]
  refine wpAnyH_take (i := 10) (oi := ⟨some 41, _, _, _, _, _⟩) (v := undef) rfl (by kernel_rfl) (by kernel_rfl) (by kernel_rfl) (fun _ _ _ h => h) (Or.inr ⟨by rfl, rfl⟩) (by assumption) ?_
  try simp only [Act.put, List.setIfInBounds_toArray, List.set_cons_zero, List.set_cons_succ]
  refine wpAnyH_take (i := 11) (oi := ⟨some 42, _, _, _, _, _⟩) (v := undef) rfl (by kernel_rfl) (by kernel_rfl) (by kernel_rfl) (fun _ _ _ h => h) (Or.inr ⟨by rfl, rfl⟩) (by assumption) ?_
  try simp only [Act.put, List.setIfInBounds_toArray, List.set_cons_zero, List.set_cons_succ]
  refine wpAnyH_take (i := 12) (oi := ⟨some 43, _, _, _, _, _⟩) (v := undef) rfl (by kernel_rfl) (by kernel_rfl) (by kernel_rfl) (fun _ _ _ h => h) (Or.inr ⟨by rfl, rfl⟩) (by assumption) ?_
  try simp only [Act.put, List.setIfInBounds_toArray, List.set_cons_zero, List.set_cons_succ]
  refine wpAnyH_take (i := 13) (oi := ⟨some 44, _, _, _, _, _⟩) (v := undef) rfl (by kernel_rfl) (by kernel_rfl) (by kernel_rfl) (fun _ _ _ h => h) (Or.inr ⟨by rfl, rfl⟩) (by assumption) ?_
  try simp only [Act.put, List.setIfInBounds_toArray, List.set_cons_zero, List.set_cons_succ]
  refine wpAnyH_take (i := 14) (oi := ⟨some 45, _, _, _, _, _⟩) (v := ?v15) rfl (by kernel_rfl) (by kernel_rfl) (by kernel_rfl) (fun _ _ _ h => h) (Or.inl ⟨by rfl, ?y15⟩) (by assumption) ?r15
  case y15 => (rintro w0 ⟨sa, sb, sc, sd, se⟩; go_simp; try with_reducible rfl)
  try simp only [Act.put, List.setIfInBounds_toArray, List.set_cons_zero, List.set_cons_succ]
  refine wpAnyH_take (i := 15) (oi := ⟨some 46, _, _, _, _, _⟩) (v := ?v16) rfl (by kernel_rfl) (by kernel_rfl) (by kernel_rfl) (fun _ _ _ h => h) (Or.inl ⟨by rfl, ?y16⟩) (by assumption) ?r16
  case y16 => (rintro w0 ⟨sa, sb, sc, sd, se⟩; go_simp; try with_reducible rfl)
  try simp only [Act.put, List.setIfInBounds_toArray, List.set_cons_zero, List.set_cons_succ]
  refine wpAnyH_take (i := 16) (oi := ⟨some 47, _, _, _, _, _⟩) (v := undef) rfl (by kernel_rfl) (by kernel_rfl) (by kernel_rfl) (fun _ _ _ h => h) (Or.inr ⟨by rfl, rfl⟩) (by assumption) ?_
  try simp only [Act.put, List.setIfInBounds_toArray, List.set_cons_zero, List.set_cons_succ]
  refine wpAnyH_take (i := 17) (oi := ⟨some 48, _, _, _, _, _⟩) (v := undef) rfl (by kernel_rfl) (by kernel_rfl) (by kernel_rfl) (fun _ _ _ h => h) (Or.inr ⟨by rfl, rfl⟩) (by assumption) ?_
  try simp only [Act.put, List.setIfInBounds_toArray, List.set_cons_zero, List.set_cons_succ]
  refine wpAnyH_take (i := 18) (oi := ⟨some 49, _, _, _, _, _⟩) (v := undef) rfl (by kernel_rfl) (by kernel_rfl) (by kernel_rfl) (fun _ _ _ h => h) (Or.inr ⟨by rfl, rfl⟩) (by assumption) ?_
  try simp only [Act.put, List.setIfInBounds_toArray, List.set_cons_zero, List.set_cons_succ]
  refine wpAnyH_take (i := 19) (oi := ⟨some 50, _, _, _, _, _⟩) (v := undef) rfl (by kernel_rfl) (by kernel_rfl) (by kernel_rfl) (fun _ _ _ h => h) (Or.inr ⟨by rfl, rfl⟩) (by assumption) ?_
  try simp only [Act.put, List.setIfInBounds_toArray, List.set_cons_zero, List.set_cons_succ]
  refine wpAnyH_take (i := 20) (oi := ⟨some 51, _, _, _, _, _⟩) (v := ?v21) rfl (by kernel_rfl) (by kernel_rfl) (by kernel_rfl) (fun _ _ _ h => h) (Or.inl ⟨by rfl, ?y21⟩) (by assumption) ?r21
  case y21 => (rintro w0 ⟨sa, sb, sc, sd, se⟩; go_simp; try with_reducible rfl)
  try simp only [Act.put, List.setIfInBounds_toArray, List.set_cons_zero, List.set_cons_succ]
  refine wpAnyH_take (i := 21) (oi := ⟨some 52, _, _, _, _, _⟩) (v := ?v22) rfl (by kernel_rfl) (by kernel_rfl) (by kernel_rfl) (fun _ _ _ h => h) (Or.inl ⟨by rfl, ?y22⟩) (by assumption) ?r22
  case y22 => (rintro w0 ⟨sa, sb, sc, sd, se⟩; go_simp; try with_reducible rfl)
  try simp only [Act.put, List.setIfInBounds_toArray, List.set_cons_zero, List.set_cons_succ]
  refine wpAnyH_take (i := 22) (oi := ⟨some 53, _, _, _, _, _⟩) (v := undef) rfl (by kernel_rfl) (by kernel_rfl) (by kernel_rfl) (fun _ _ _ h => h) (Or.inr ⟨by rfl, rfl⟩) (by assumption) ?_
  try simp only [Act.put, List.setIfInBounds_toArray, List.set_cons_zero, List.set_cons_succ]
  refine wpAnyH_take (i := 23) (oi := ⟨some 54, _, _, _, _, _⟩) (v := undef) rfl (by kernel_rfl) (by kernel_rfl) (by kernel_rfl) (fun _ _ _ h => h) (Or.inr ⟨by rfl, rfl⟩) (by assumption) ?_
  try simp only [Act.put, List.setIfInBounds_toArray, List.set_cons_zero, List.set_cons_succ]
  refine wpAnyH_take (i := 24) (oi := ⟨some 55, _, _, _, _, _⟩) (v := undef) rfl (by kernel_rfl) (by kernel_rfl) (by kernel_rfl) (fun _ _ _ h => h) (Or.inr ⟨by rfl, rfl⟩) (by assumption) ?_
  try simp only [Act.put, List.setIfInBounds_toArray, List.set_cons_zero, List.set_cons_succ]
  refine wpAnyH_take (i := 25) (oi := ⟨some 56, _, _, _, _, _⟩) (v := undef) rfl (by kernel_rfl) (by kernel_rfl) (by kernel_rfl) (fun _ _ _ h => h) (Or.inr ⟨by rfl, rfl⟩) (by assumption) ?_
  try simp only [Act.put, List.setIfInBounds_toArray, List.set_cons_zero, List.set_cons_succ]
  refine wpAnyH_take (i := 26) (oi := ⟨some 57, _, _, _, _, _⟩) (v := ?v27) rfl (by kernel_rfl) (by kernel_rfl) (by kernel_rfl) (fun _ _ _ h => h) (Or.inl ⟨by rfl, ?y27⟩) (by assumption) ?r27
  case y27 => (rintro w0 ⟨sa, sb, sc, sd, se⟩; go_simp; try with_reducible rfl)
  try simp only [Act.put, List.setIfInBounds_toArray, List.set_cons_zero, List.set_cons_succ]
  refine wpAnyH_take (i := 27) (oi := ⟨some 58, _, _, _, _, _⟩) (v := ?v28) rfl (by kernel_rfl) (by kernel_rfl) (by kernel_rfl) (fun _ _ _ h => h) (Or.inl ⟨by rfl, ?y28⟩) (by assumption) ?r28
  case y28 => (rintro w0 ⟨sa, sb, sc, sd, se⟩; go_simp; try with_reducible rfl)
  try simp only [Act.put, List.setIfInBounds_toArray, List.set_cons_zero, List.set_cons_succ]
  refine wpAnyH_take (i := 28) (oi := ⟨some 59, _, _, _, _, _⟩) (v := undef) rfl (by kernel_rfl) (by kernel_rfl) (by kernel_rfl) (fun _ _ _ h => h) (Or.inr ⟨by rfl, rfl⟩) (by assumption) ?_
  try simp only [Act.put, List.setIfInBounds_toArray, List.set_cons_zero, List.set_cons_succ]
  refine wpAnyH_take (i := 29) (oi := ⟨some 60, _, _, _, _, _⟩) (v := undef) rfl (by kernel_rfl) (by kernel_rfl) (by kernel_rfl) (fun _ _ _ h => h) (Or.inr ⟨by rfl, rfl⟩) (by assumption) ?_
  try simp only [Act.put, List.setIfInBounds_toArray, List.set_cons_zero, List.set_cons_succ]
  refine wpAnyH_take (i := 30) (oi := ⟨some 61, _, _, _, _, _⟩) (v := ?v31) rfl (by kernel_rfl) (by kernel_rfl) (by kernel_rfl) (fun _ _ _ h => h) (Or.inl ⟨by rfl, ?y31⟩) (by assumption) ?r31
  case y31 => (rintro w0 ⟨sa, sb, sc, sd, se⟩; go_simp; try with_reducible rfl)
  try simp only [Act.put, List.setIfInBounds_toArray, List.set_cons_zero, List.set_cons_succ]
  refine wpAnyH_take (i := 31) (oi := ⟨some 62, _, _, _, _, _⟩) (v := ?v32) rfl (by kernel_rfl) (by kernel_rfl) (by kernel_rfl) (fun _ _ _ h => h) (Or.inl ⟨by rfl, ?y32⟩) (by assumption) ?r32
  case y32 => (rintro w0 ⟨sa, sb, sc, sd, se⟩; go_simp; try with_reducible rfl)
  try simp only [Act.put, List.setIfInBounds_toArray, List.set_cons_zero, List.set_cons_succ]
  refine wpAnyH_take (i := 32) (oi := ⟨some 63, _, _, _, _, _⟩) (v := undef) rfl (by kernel_rfl) (by kernel_rfl) (by kernel_rfl) (fun _ _ _ h => h) (Or.inr ⟨by rfl, rfl⟩) (by assumption) ?_
  try simp only [Act.put, List.setIfInBounds_toArray, List.set_cons_zero, List.set_cons_succ]
  refine wpAnyH_take (i := 33) (oi := ⟨some 64, _, _, _, _, _⟩) (v := undef) rfl (by kernel_rfl) (by kernel_rfl) (by kernel_rfl) (fun _ _ _ h => h) (Or.inr ⟨by rfl, rfl⟩) (by assumption) ?_
  try simp only [Act.put, List.setIfInBounds_toArray, List.set_cons_zero, List.set_cons_succ]
  refine wpAnyH_take (i := 34) (oi := ⟨some 65, _, _, _, _, _⟩) (v := ?v35) rfl (by kernel_rfl) (by kernel_rfl) (by kernel_rfl) (fun _ _ _ h => h) (Or.inl ⟨by rfl, ?y35⟩) (by assumption) ?r35
  case y35 => (rintro w0 ⟨sa, sb, sc, sd, se⟩; go_simp; try with_reducible rfl)
  try simp only [Act.put, List.setIfInBounds_toArray, List.set_cons_zero, List.set_cons_succ]
  refine wpAnyH_ready (rs := [35]) (by kernel_rfl) (by simp) ?_
  refine AllReadyH.cons (o := ⟨none, _, _, _, _, _⟩) rfl (fun K1 hK1 => ?_) ?_
  · rw [if_pos (by rfl)]
    have HTS : tv.toArray.size = 13 := HTL.out.1
    have hq := World.rangeAt_setCells_same W0 (w.heap.size + 1) 0 tv (by rw [HTL.out.1]; exact hHeld.2.2.2.2)
    refine wp_store_mid _ _ _ rfl (w.heap.size + 1) 0 tv.toArray rfl rfl (by rw [HTS]; exact hHeld.2.2.2.2) (by rw [HTS, ← HTL.out.1]; exact HTL.out.2) HTO.out ?_
    refine hK1.out _ _ (hHeld.store mz) (fun hHeld => ?_)
    clear hK1 K1
    try simp only [Act.put]
    refine wpAnyH_take (i := 36) (oi := ⟨some 13, _, _, _, _, _⟩) (v := ?v36) rfl (by kernel_rfl) (by kernel_rfl) (by kernel_rfl) (fun _ _ _ h => h) (Or.inl ⟨by rfl, ?y36⟩) (by assumption) ?r36
    case y36 => (rintro w0 ⟨sa, sb, sc, sd, se⟩; go_simp; try with_reducible rfl)
    try simp only [Act.put, List.setIfInBounds_toArray, List.set_cons_zero, List.set_cons_succ]
    refine wpAnyH_done (by kernel_rfl) ?_ _
    have q0 := Lib.hid hq
    clear hq
    go_wp2
    refine bodyPost_ret (v := .tuple #[tradeOf L B ⟨sq, p, s, y, left, a, d⟩ taker to want most, .bool false]) ?_ rfl ⟨rfl, hHeld.1⟩
    have q : ∀ j v, ([.pointer L, .pointer B, .int .u64 sq, .int .u8 p, .int .u8 s, .int .u8 y, .int .i64 left, .int .i64 a, .int .i64 d, .int .u8 taker, .int .u8 to, .int .i64 want, .int .i64 most] : List Value)[j]? = some v → (W0.setCells (w.heap.size + 1) 0 tv).cell? ⟨w.heap.size + 1, j, none⟩ = some v := fun j v hv => by have := q0.out j v (by rw [HTV.out]; exact hv); rwa [Nat.zero_add] at this
    have r0 : (W0.setCells (w.heap.size + 1) 0 tv).cell? ⟨w.heap.size + 1, 0, none⟩ = some (.pointer L) := q 0 _ rfl
    have r1 : (W0.setCells (w.heap.size + 1) 0 tv).cell? ⟨w.heap.size + 1, 1, none⟩ = some (.pointer B) := q 1 _ rfl
    have r2 : (W0.setCells (w.heap.size + 1) 0 tv).cell? ⟨w.heap.size + 1, 2, none⟩ = some (.int .u64 sq) := q 2 _ rfl
    have r3 : (W0.setCells (w.heap.size + 1) 0 tv).cell? ⟨w.heap.size + 1, 3, none⟩ = some (.int .u8 p) := q 3 _ rfl
    have r4 : (W0.setCells (w.heap.size + 1) 0 tv).cell? ⟨w.heap.size + 1, 4, none⟩ = some (.int .u8 s) := q 4 _ rfl
    have r5 : (W0.setCells (w.heap.size + 1) 0 tv).cell? ⟨w.heap.size + 1, 5, none⟩ = some (.int .u8 y) := q 5 _ rfl
    have r6 : (W0.setCells (w.heap.size + 1) 0 tv).cell? ⟨w.heap.size + 1, 6, none⟩ = some (.int .i64 left) := q 6 _ rfl
    have r7 : (W0.setCells (w.heap.size + 1) 0 tv).cell? ⟨w.heap.size + 1, 7, none⟩ = some (.int .i64 a) := q 7 _ rfl
    have r8 : (W0.setCells (w.heap.size + 1) 0 tv).cell? ⟨w.heap.size + 1, 8, none⟩ = some (.int .i64 d) := q 8 _ rfl
    have r9 : (W0.setCells (w.heap.size + 1) 0 tv).cell? ⟨w.heap.size + 1, 9, none⟩ = some (.int .u8 taker) := q 9 _ rfl
    have r10 : (W0.setCells (w.heap.size + 1) 0 tv).cell? ⟨w.heap.size + 1, 10, none⟩ = some (.int .u8 to) := q 10 _ rfl
    have r11 : (W0.setCells (w.heap.size + 1) 0 tv).cell? ⟨w.heap.size + 1, 11, none⟩ = some (.int .i64 want) := q 11 _ rfl
    have r12 : (W0.setCells (w.heap.size + 1) 0 tv).cell? ⟨w.heap.size + 1, 12, none⟩ = some (.int .i64 most) := q 12 _ rfl
    clear q
    simp [results, Try.results21, go_sem, tradeOf, r0, r1, r2, r3, r4, r5, r6, r7, r8, r9, r10, r11, r12]
  exact AllReadyH.nil

set_option maxHeartbeats 4000000 in
/-- nobody takes of an offer of his own -/
theorem trade_same {w : World} (L : Option Addr) (B : Option Addr) (seq taker to : Nat) (want most : Int) (o : Offer) (hF : ∀ W, Below w.heap.size w W → Calls Try.prog 12 #[.pointer B, .int .u64 seq] W (FindPost W o true))
    (hot : o.owner = taker) (ho : o.owner < 256) (ht : taker < 256) :
    Calls Try.prog 21 #[.agg #[.pointer L, .pointer B], .int .u64 seq, .int .u8 taker, .int .u8 to, .int .i64 want, .int .i64 most] w (TradePost w (tradeOf L B o taker to want most) false) := by
  have HF := Lib.hid hF; clear hF
  obtain ⟨sq, p, s, y, left, a, d⟩ := o
  try dsimp only at *
  have hne : ((p : Int) != taker) = false := by subst hot; simp
  clear hot
  go_enter Try.func21, Try.ntmps21
  go_wp2_with (go_at_call 12; refine (HF.out _ (by repeat (first | with_reducible exact Below.refl _ _ | with_reducible assumption | refine Below.drew ?_ | refine Below.setCell ?_ (by first | exact Nat.le_refl _ | omega | (simp; done) | (simp; omega)) _ | refine Below.alloc ?_ (by first | exact Nat.le_refl _ | omega | (simp; done) | (simp; omega)) _ | refine Below.tr ?_ (Nat.le_refl _) (by assumption) | exact Below.refl _ _ | assumption))).mono ?_; rintro e w1 ⟨rfl, hb1⟩; obtain ⟨m0, m1, mz⟩ := two_blocks hb1; obtain ⟨c0, c1⟩ := houseMem m0; have M1 := Lib.hid m1; obtain ⟨zc, zf⟩ := tradeMem m1; have hB1 : Below w.heap.size w w1 := (by repeat (first | with_reducible exact Below.refl _ _ | with_reducible assumption | refine Below.drew ?_ | refine Below.setCell ?_ (by first | exact Nat.le_refl _ | omega | (simp; done) | (simp; omega)) _ | refine Below.alloc ?_ (by first | exact Nat.le_refl _ | omega | (simp; done) | (simp; omega)) _ | refine Below.tr ?_ (Nat.le_refl _) (by assumption) | exact Below.refl _ _ | assumption)); have s0 : w.heap.size < w1.heap.size := (by omega); have s1 : w.heap.size < w1.heap.size + 1 := (by omega); have s2 : w.heap.size + 1 < w1.heap.size := (by omega); have s3 : w.heap.size + 1 < w1.heap.size + 1 := (by omega); have s4 : w.heap.size < w1.heap.size + 2 := (by omega); have s5 : w.heap.size + 1 < w1.heap.size + 2 := (by omega); clear m0 m1 zc zf; simp only [Offer.val])
  obtain ⟨tv, htv⟩ : ∃ tv : List Value, tv = [.pointer L, .pointer B, .int .u64 sq, .int .u8 p, .int .u8 s, .int .u8 y, .int .i64 left, .int .i64 a, .int .i64 d, .int .u8 taker, .int .u8 to, .int .i64 want, .int .i64 most] := ⟨_, rfl⟩
  have HTL := Lib.hid (show tv.length = 13 ∧ ((Try.prog).info? 70).map (·.size) = some tv.length by subst htv; exact ⟨rfl, infoTrade⟩)
  have HTO := Lib.hid (show tv.toArray.all (·.oneCell') = true by subst htv; simp [Value.oneCell'])
  refine wp_region_held_drew (S := TradeHold w w1 L p tv) (by kernel_rfl) ?_ (fun hHeld => ?_)
  · obtain ⟨r1, r2⟩ := allocs2 (w1 := w1) [.int .u64 sq, .int .u8 p, .int .u8 s, .int .u8 y, .int .i64 left, .int .i64 a, .int .i64 d] tv 57 70
    rw [htv] at *
    refine ⟨(by repeat (first | with_reducible exact Below.refl _ _ | with_reducible assumption | refine Below.drew ?_ | refine Below.setCell ?_ (by first | exact Nat.le_refl _ | omega | (simp; done) | (simp; omega)) _ | refine Below.alloc ?_ (by first | exact Nat.le_refl _ | omega | (simp; done) | (simp; omega)) _ | refine Below.tr ?_ (Nat.le_refl _) (by assumption) | exact Below.refl _ _ | assumption)), ?_, r1 1 _ rfl, r2, ?_⟩
    · simp [c0, World.cell?_alloc_some]
    · rw [World.there_drew]; exact World.there_alloc (World.there_alloc (thereTrade M1.out) _) _
  have HTV := Lib.hid htv
  clear htv
  revert hHeld
  generalize World.drew _ = W0
  intro hHeld
  refine wpAnyH_take (i := 0) (oi := ⟨some 31, _, _, _, _, _⟩) (v := .agg tv.toArray) rfl (by kernel_rfl) (by kernel_rfl) (by kernel_rfl) (fun _ _ _ h => h) (yieldsIf_load_mid (by rfl) _ _ rfl (w1.heap.size + 1) 0 rfl tv _ (fun _ hw => hw.2.2.2.1) Try.underlying70 rfl HTL.out.2) (by assumption) ?_
  try simp only [Act.put, List.setIfInBounds_toArray, List.set_cons_zero, List.set_cons_succ]
  refine wpAnyH_take (i := 1) (oi := ⟨some 32, _, _, _, _, _⟩) (v := ?v2) rfl (by kernel_rfl) (by kernel_rfl) (by kernel_rfl) (fun _ _ _ h => h) (Or.inl ⟨by rfl, ?y2⟩) (by assumption) ?r2
  case y2 => (rintro w0 ⟨sa, sb, sc, sd, se⟩; go_simp; try with_reducible rfl)
  try simp only [Act.put, List.setIfInBounds_toArray, List.set_cons_zero, List.set_cons_succ]
  refine wpAnyH_take (i := 2) (oi := ⟨some 33, _, _, _, _, _⟩) (v := ?v3) rfl (by kernel_rfl) (by kernel_rfl) (by kernel_rfl) (fun _ _ _ h => h) (Or.inl ⟨by rfl, ?y3⟩) (by assumption) ?r3
  case y3 => (rintro w0 ⟨sa, sb, sc, sd, se⟩; go_simp; try with_reducible rfl)
  try simp only [Act.put, List.setIfInBounds_toArray, List.set_cons_zero, List.set_cons_succ]
  refine wpAnyH_take (i := 3) (oi := ⟨some 34, _, _, _, _, _⟩) (v := ?v4) rfl (by kernel_rfl) (by kernel_rfl) (by kernel_rfl) (fun _ _ _ h => h) (Or.inl ⟨by rfl, ?y4⟩) (by assumption) ?r4
  case y4 => (rintro w0 ⟨sa, sb, sc, sd, se⟩; go_simp; try with_reducible rfl)
  try simp only [Act.put, List.setIfInBounds_toArray, List.set_cons_zero, List.set_cons_succ]
  refine wpAnyH_take (i := 4) (oi := ⟨some 35, _, _, _, _, _⟩) (v := ?v5) rfl (by kernel_rfl) (by kernel_rfl) (by kernel_rfl) (fun _ _ _ h => h) (Or.inl ⟨by rfl, ?y5⟩) (by assumption) ?r5
  case y5 => (rintro w0 ⟨sa, sb, sc, sd, se⟩; go_simp; try with_reducible rfl)
  try simp only [Act.put, List.setIfInBounds_toArray, List.set_cons_zero, List.set_cons_succ]
  refine wpAnyH_take (i := 5) (oi := ⟨some 36, _, _, _, _, _⟩) (v := ?v6) rfl (by kernel_rfl) (by kernel_rfl) (by kernel_rfl) (fun _ _ _ h => h) (Or.inl ⟨by rfl, ?y6⟩) (by assumption) ?r6
  case y6 => (rintro w0 ⟨sa, sb, sc, sd, se⟩; go_simp; try with_reducible rfl)
  try simp only [Act.put, List.setIfInBounds_toArray, List.set_cons_zero, List.set_cons_succ]
  refine wpAnyH_take (i := 6) (oi := ⟨some 37, _, _, _, _, _⟩) (v := ?v7) rfl (by kernel_rfl) (by kernel_rfl) (by kernel_rfl) (fun _ _ _ h => h) (Or.inl ⟨by rfl, ?y7⟩) (by assumption) ?r7
  case y7 => (rintro w0 ⟨sa, sb, sc, sd, se⟩; go_simp; try with_reducible rfl)
  try simp only [Act.put, List.setIfInBounds_toArray, List.set_cons_zero, List.set_cons_succ]
  refine wpAnyH_take (i := 7) (oi := ⟨some 38, _, _, _, _, _⟩) (v := ?v8) rfl (by kernel_rfl) (by kernel_rfl) (by kernel_rfl) (fun _ _ _ h => h) (Or.inl ⟨by rfl, ?y8⟩) (by assumption) ?r8
  case y8 => (rintro w0 ⟨sa, sb, sc, sd, se⟩; go_simp; try with_reducible rfl)
  try simp only [Act.put, List.setIfInBounds_toArray, List.set_cons_zero, List.set_cons_succ]
  refine wpAnyH_take (i := 8) (oi := ⟨some 39, _, _, _, _, _⟩) (v := ?v9) rfl (by kernel_rfl) (by kernel_rfl) (by kernel_rfl) (fun _ _ _ h => h) (Or.inl ⟨by rfl, ?y9⟩) (by assumption) ?r9
  case y9 => (rintro w0 ⟨sa, sb, sc, sd, se⟩; go_simp; try with_reducible rfl)
  try simp only [Act.put, List.setIfInBounds_toArray, List.set_cons_zero, List.set_cons_succ]
  refine wpAnyH_take (i := 9) (oi := ⟨some 40, _, _, _, _, _⟩) (v := undef) rfl (by kernel_rfl) (by kernel_rfl) (by kernel_rfl) (fun _ _ _ h => h) (Or.inr ⟨by rfl, rfl⟩) (by assumption) ?_
  try simp only [Act.put, List.setIfInBounds_toArray, List.set_cons_zero, List.set_cons_succ]
  refine wpAnyH_take (i := 10) (oi := ⟨some 41, _, _, _, _, _⟩) (v := undef) rfl (by kernel_rfl) (by kernel_rfl) (by kernel_rfl) (fun _ _ _ h => h) (Or.inr ⟨by rfl, rfl⟩) (by assumption) ?_
  try simp only [Act.put, List.setIfInBounds_toArray, List.set_cons_zero, List.set_cons_succ]
  refine wpAnyH_take (i := 11) (oi := ⟨some 42, _, _, _, _, _⟩) (v := undef) rfl (by kernel_rfl) (by kernel_rfl) (by kernel_rfl) (fun _ _ _ h => h) (Or.inr ⟨by rfl, rfl⟩) (by assumption) ?_
  try simp only [Act.put, List.setIfInBounds_toArray, List.set_cons_zero, List.set_cons_succ]
  refine wpAnyH_take (i := 12) (oi := ⟨some 43, _, _, _, _, _⟩) (v := undef) rfl (by kernel_rfl) (by kernel_rfl) (by kernel_rfl) (fun _ _ _ h => h) (Or.inr ⟨by rfl, rfl⟩) (by assumption) ?_
  try simp only [Act.put, List.setIfInBounds_toArray, List.set_cons_zero, List.set_cons_succ]
  refine wpAnyH_take (i := 13) (oi := ⟨some 44, _, _, _, _, _⟩) (v := undef) rfl (by kernel_rfl) (by kernel_rfl) (by kernel_rfl) (fun _ _ _ h => h) (Or.inr ⟨by rfl, rfl⟩) (by assumption) ?_
  try simp only [Act.put, List.setIfInBounds_toArray, List.set_cons_zero, List.set_cons_succ]
  refine wpAnyH_take (i := 14) (oi := ⟨some 45, _, _, _, _, _⟩) (v := ?v15) rfl (by kernel_rfl) (by kernel_rfl) (by kernel_rfl) (fun _ _ _ h => h) (Or.inl ⟨by rfl, ?y15⟩) (by assumption) ?r15
  case y15 => (rintro w0 ⟨sa, sb, sc, sd, se⟩; go_simp; try with_reducible rfl)
  try simp only [Act.put, List.setIfInBounds_toArray, List.set_cons_zero, List.set_cons_succ]
  refine wpAnyH_take (i := 15) (oi := ⟨some 46, _, _, _, _, _⟩) (v := ?v16) rfl (by kernel_rfl) (by kernel_rfl) (by kernel_rfl) (fun _ _ _ h => h) (Or.inl ⟨by rfl, ?y16⟩) (by assumption) ?r16
  case y16 => (rintro w0 ⟨sa, sb, sc, sd, se⟩; go_simp; try with_reducible rfl)
  try simp only [Act.put, List.setIfInBounds_toArray, List.set_cons_zero, List.set_cons_succ]
  refine wpAnyH_take (i := 16) (oi := ⟨some 47, _, _, _, _, _⟩) (v := undef) rfl (by kernel_rfl) (by kernel_rfl) (by kernel_rfl) (fun _ _ _ h => h) (Or.inr ⟨by rfl, rfl⟩) (by assumption) ?_
  try simp only [Act.put, List.setIfInBounds_toArray, List.set_cons_zero, List.set_cons_succ]
  refine wpAnyH_take (i := 17) (oi := ⟨some 48, _, _, _, _, _⟩) (v := undef) rfl (by kernel_rfl) (by kernel_rfl) (by kernel_rfl) (fun _ _ _ h => h) (Or.inr ⟨by rfl, rfl⟩) (by assumption) ?_
  try simp only [Act.put, List.setIfInBounds_toArray, List.set_cons_zero, List.set_cons_succ]
  refine wpAnyH_take (i := 18) (oi := ⟨some 49, _, _, _, _, _⟩) (v := undef) rfl (by kernel_rfl) (by kernel_rfl) (by kernel_rfl) (fun _ _ _ h => h) (Or.inr ⟨by rfl, rfl⟩) (by assumption) ?_
  try simp only [Act.put, List.setIfInBounds_toArray, List.set_cons_zero, List.set_cons_succ]
  refine wpAnyH_take (i := 19) (oi := ⟨some 50, _, _, _, _, _⟩) (v := undef) rfl (by kernel_rfl) (by kernel_rfl) (by kernel_rfl) (fun _ _ _ h => h) (Or.inr ⟨by rfl, rfl⟩) (by assumption) ?_
  try simp only [Act.put, List.setIfInBounds_toArray, List.set_cons_zero, List.set_cons_succ]
  refine wpAnyH_take (i := 20) (oi := ⟨some 51, _, _, _, _, _⟩) (v := ?v21) rfl (by kernel_rfl) (by kernel_rfl) (by kernel_rfl) (fun _ _ _ h => h) (Or.inl ⟨by rfl, ?y21⟩) (by assumption) ?r21
  case y21 => (rintro w0 ⟨sa, sb, sc, sd, se⟩; go_simp; try with_reducible rfl)
  try simp only [Act.put, List.setIfInBounds_toArray, List.set_cons_zero, List.set_cons_succ]
  refine wpAnyH_take (i := 21) (oi := ⟨some 52, _, _, _, _, _⟩) (v := ?v22) rfl (by kernel_rfl) (by kernel_rfl) (by kernel_rfl) (fun _ _ _ h => h) (Or.inl ⟨by rfl, ?y22⟩) (by assumption) ?r22
  case y22 => (rintro w0 ⟨sa, sb, sc, sd, se⟩; go_simp; try with_reducible rfl)
  try simp only [Act.put, List.setIfInBounds_toArray, List.set_cons_zero, List.set_cons_succ]
  refine wpAnyH_take (i := 22) (oi := ⟨some 53, _, _, _, _, _⟩) (v := undef) rfl (by kernel_rfl) (by kernel_rfl) (by kernel_rfl) (fun _ _ _ h => h) (Or.inr ⟨by rfl, rfl⟩) (by assumption) ?_
  try simp only [Act.put, List.setIfInBounds_toArray, List.set_cons_zero, List.set_cons_succ]
  refine wpAnyH_take (i := 23) (oi := ⟨some 54, _, _, _, _, _⟩) (v := undef) rfl (by kernel_rfl) (by kernel_rfl) (by kernel_rfl) (fun _ _ _ h => h) (Or.inr ⟨by rfl, rfl⟩) (by assumption) ?_
  try simp only [Act.put, List.setIfInBounds_toArray, List.set_cons_zero, List.set_cons_succ]
  refine wpAnyH_take (i := 24) (oi := ⟨some 55, _, _, _, _, _⟩) (v := undef) rfl (by kernel_rfl) (by kernel_rfl) (by kernel_rfl) (fun _ _ _ h => h) (Or.inr ⟨by rfl, rfl⟩) (by assumption) ?_
  try simp only [Act.put, List.setIfInBounds_toArray, List.set_cons_zero, List.set_cons_succ]
  refine wpAnyH_take (i := 25) (oi := ⟨some 56, _, _, _, _, _⟩) (v := undef) rfl (by kernel_rfl) (by kernel_rfl) (by kernel_rfl) (fun _ _ _ h => h) (Or.inr ⟨by rfl, rfl⟩) (by assumption) ?_
  try simp only [Act.put, List.setIfInBounds_toArray, List.set_cons_zero, List.set_cons_succ]
  refine wpAnyH_take (i := 26) (oi := ⟨some 57, _, _, _, _, _⟩) (v := ?v27) rfl (by kernel_rfl) (by kernel_rfl) (by kernel_rfl) (fun _ _ _ h => h) (Or.inl ⟨by rfl, ?y27⟩) (by assumption) ?r27
  case y27 => (rintro w0 ⟨sa, sb, sc, sd, se⟩; go_simp; try with_reducible rfl)
  try simp only [Act.put, List.setIfInBounds_toArray, List.set_cons_zero, List.set_cons_succ]
  refine wpAnyH_take (i := 27) (oi := ⟨some 58, _, _, _, _, _⟩) (v := ?v28) rfl (by kernel_rfl) (by kernel_rfl) (by kernel_rfl) (fun _ _ _ h => h) (Or.inl ⟨by rfl, ?y28⟩) (by assumption) ?r28
  case y28 => (rintro w0 ⟨sa, sb, sc, sd, se⟩; go_simp; try with_reducible rfl)
  try simp only [Act.put, List.setIfInBounds_toArray, List.set_cons_zero, List.set_cons_succ]
  refine wpAnyH_take (i := 28) (oi := ⟨some 59, _, _, _, _, _⟩) (v := undef) rfl (by kernel_rfl) (by kernel_rfl) (by kernel_rfl) (fun _ _ _ h => h) (Or.inr ⟨by rfl, rfl⟩) (by assumption) ?_
  try simp only [Act.put, List.setIfInBounds_toArray, List.set_cons_zero, List.set_cons_succ]
  refine wpAnyH_take (i := 29) (oi := ⟨some 60, _, _, _, _, _⟩) (v := undef) rfl (by kernel_rfl) (by kernel_rfl) (by kernel_rfl) (fun _ _ _ h => h) (Or.inr ⟨by rfl, rfl⟩) (by assumption) ?_
  try simp only [Act.put, List.setIfInBounds_toArray, List.set_cons_zero, List.set_cons_succ]
  refine wpAnyH_take (i := 30) (oi := ⟨some 61, _, _, _, _, _⟩) (v := ?v31) rfl (by kernel_rfl) (by kernel_rfl) (by kernel_rfl) (fun _ _ _ h => h) (Or.inl ⟨by rfl, ?y31⟩) (by assumption) ?r31
  case y31 => (rintro w0 ⟨sa, sb, sc, sd, se⟩; go_simp; try with_reducible rfl)
  try simp only [Act.put, List.setIfInBounds_toArray, List.set_cons_zero, List.set_cons_succ]
  refine wpAnyH_take (i := 31) (oi := ⟨some 62, _, _, _, _, _⟩) (v := ?v32) rfl (by kernel_rfl) (by kernel_rfl) (by kernel_rfl) (fun _ _ _ h => h) (Or.inl ⟨by rfl, ?y32⟩) (by assumption) ?r32
  case y32 => (rintro w0 ⟨sa, sb, sc, sd, se⟩; go_simp; try with_reducible rfl)
  try simp only [Act.put, List.setIfInBounds_toArray, List.set_cons_zero, List.set_cons_succ]
  refine wpAnyH_take (i := 32) (oi := ⟨some 63, _, _, _, _, _⟩) (v := undef) rfl (by kernel_rfl) (by kernel_rfl) (by kernel_rfl) (fun _ _ _ h => h) (Or.inr ⟨by rfl, rfl⟩) (by assumption) ?_
  try simp only [Act.put, List.setIfInBounds_toArray, List.set_cons_zero, List.set_cons_succ]
  refine wpAnyH_take (i := 33) (oi := ⟨some 64, _, _, _, _, _⟩) (v := undef) rfl (by kernel_rfl) (by kernel_rfl) (by kernel_rfl) (fun _ _ _ h => h) (Or.inr ⟨by rfl, rfl⟩) (by assumption) ?_
  try simp only [Act.put, List.setIfInBounds_toArray, List.set_cons_zero, List.set_cons_succ]
  refine wpAnyH_take (i := 34) (oi := ⟨some 65, _, _, _, _, _⟩) (v := ?v35) rfl (by kernel_rfl) (by kernel_rfl) (by kernel_rfl) (fun _ _ _ h => h) (Or.inl ⟨by rfl, ?y35⟩) (by assumption) ?r35
  case y35 => (rintro w0 ⟨sa, sb, sc, sd, se⟩; go_simp; try with_reducible rfl)
  try simp only [Act.put, List.setIfInBounds_toArray, List.set_cons_zero, List.set_cons_succ]
  refine wpAnyH_ready (rs := [35]) (by kernel_rfl) (by simp) ?_
  refine AllReadyH.cons (o := ⟨none, _, _, _, _, _⟩) rfl (fun K1 hK1 => ?_) ?_
  · rw [if_pos (by rfl)]
    have HTS : tv.toArray.size = 13 := HTL.out.1
    have hq := World.rangeAt_setCells_same W0 (w.heap.size + 1) 0 tv (by rw [HTL.out.1]; exact hHeld.2.2.2.2)
    refine wp_store_mid _ _ _ rfl (w.heap.size + 1) 0 tv.toArray rfl rfl (by rw [HTS]; exact hHeld.2.2.2.2) (by rw [HTS, ← HTL.out.1]; exact HTL.out.2) HTO.out ?_
    refine hK1.out _ _ (hHeld.store mz) (fun hHeld => ?_)
    clear hK1 K1
    try simp only [Act.put]
    refine wpAnyH_take (i := 36) (oi := ⟨some 13, _, _, _, _, _⟩) (v := ?v36) rfl (by kernel_rfl) (by kernel_rfl) (by kernel_rfl) (fun _ _ _ h => h) (Or.inl ⟨by rfl, ?y36⟩) (by assumption) ?r36
    case y36 => (rintro w0 ⟨sa, sb, sc, sd, se⟩; go_simp; try with_reducible rfl)
    try simp only [Act.put, List.setIfInBounds_toArray, List.set_cons_zero, List.set_cons_succ]
    refine wpAnyH_done (by kernel_rfl) ?_ _
    have q0 := Lib.hid hq
    clear hq
    go_wp2
    refine bodyPost_ret (v := .tuple #[tradeOf L B ⟨sq, p, s, y, left, a, d⟩ taker to want most, .bool false]) ?_ rfl ⟨rfl, hHeld.1⟩
    have q : ∀ j v, ([.pointer L, .pointer B, .int .u64 sq, .int .u8 p, .int .u8 s, .int .u8 y, .int .i64 left, .int .i64 a, .int .i64 d, .int .u8 taker, .int .u8 to, .int .i64 want, .int .i64 most] : List Value)[j]? = some v → (W0.setCells (w.heap.size + 1) 0 tv).cell? ⟨w.heap.size + 1, j, none⟩ = some v := fun j v hv => by have := q0.out j v (by rw [HTV.out]; exact hv); rwa [Nat.zero_add] at this
    have r0 : (W0.setCells (w.heap.size + 1) 0 tv).cell? ⟨w.heap.size + 1, 0, none⟩ = some (.pointer L) := q 0 _ rfl
    have r1 : (W0.setCells (w.heap.size + 1) 0 tv).cell? ⟨w.heap.size + 1, 1, none⟩ = some (.pointer B) := q 1 _ rfl
    have r2 : (W0.setCells (w.heap.size + 1) 0 tv).cell? ⟨w.heap.size + 1, 2, none⟩ = some (.int .u64 sq) := q 2 _ rfl
    have r3 : (W0.setCells (w.heap.size + 1) 0 tv).cell? ⟨w.heap.size + 1, 3, none⟩ = some (.int .u8 p) := q 3 _ rfl
    have r4 : (W0.setCells (w.heap.size + 1) 0 tv).cell? ⟨w.heap.size + 1, 4, none⟩ = some (.int .u8 s) := q 4 _ rfl
    have r5 : (W0.setCells (w.heap.size + 1) 0 tv).cell? ⟨w.heap.size + 1, 5, none⟩ = some (.int .u8 y) := q 5 _ rfl
    have r6 : (W0.setCells (w.heap.size + 1) 0 tv).cell? ⟨w.heap.size + 1, 6, none⟩ = some (.int .i64 left) := q 6 _ rfl
    have r7 : (W0.setCells (w.heap.size + 1) 0 tv).cell? ⟨w.heap.size + 1, 7, none⟩ = some (.int .i64 a) := q 7 _ rfl
    have r8 : (W0.setCells (w.heap.size + 1) 0 tv).cell? ⟨w.heap.size + 1, 8, none⟩ = some (.int .i64 d) := q 8 _ rfl
    have r9 : (W0.setCells (w.heap.size + 1) 0 tv).cell? ⟨w.heap.size + 1, 9, none⟩ = some (.int .u8 taker) := q 9 _ rfl
    have r10 : (W0.setCells (w.heap.size + 1) 0 tv).cell? ⟨w.heap.size + 1, 10, none⟩ = some (.int .u8 to) := q 10 _ rfl
    have r11 : (W0.setCells (w.heap.size + 1) 0 tv).cell? ⟨w.heap.size + 1, 11, none⟩ = some (.int .i64 want) := q 11 _ rfl
    have r12 : (W0.setCells (w.heap.size + 1) 0 tv).cell? ⟨w.heap.size + 1, 12, none⟩ = some (.int .i64 most) := q 12 _ rfl
    clear q
    simp [results, Try.results21, go_sem, tradeOf, r0, r1, r2, r3, r4, r5, r6, r7, r8, r9, r10, r11, r12]
  exact AllReadyH.nil

set_option maxHeartbeats 4000000 in
/-- such a trade may be -/
theorem trade_yes {w : World} {b m : Nat} {A : Ledger} (h : LedgerAt w b m A) (B : Option Addr) (seq taker to : Nat) (want most : Int) (o : Offer) (hF : ∀ W, Below w.heap.size w W → Calls Try.prog 12 #[.pointer B, .int .u64 seq] W (FindPost W o true))
    (hot : o.owner ≠ taker) (ho : o.owner < 256) (ht : taker < 256) (hto : to < 256) (h1 : A.has o.owner = true) (h2 : A.has taker = true) (h3 : A.has to = true) (hw : 0 < want) (hm : 0 < most) :
    Calls Try.prog 21 #[.agg #[.pointer (some ⟨b, 0, none⟩), .pointer B], .int .u64 seq, .int .u8 taker, .int .u8 to, .int .i64 want, .int .i64 most] w (TradePost w (tradeOf (some ⟨b, 0, none⟩) B o taker to want most) true) := by
  have HF := Lib.hid hF; clear hF
  have H1 := Lib.hid h1; clear h1
  have H2 := Lib.hid h2; clear h2
  have H3 := Lib.hid h3; clear h3
  have hb := h.lt
  obtain ⟨sq, p, s, y, left, a, d⟩ := o
  try dsimp only at *
  have hne : ((p : Int) != taker) = true := by rw [bne_iff_ne]; omega
  have hwt : decide (0 < want) = true := by simp; omega
  have hmt : decide (0 < most) = true := by simp; omega
  go_enter Try.func21, Try.ntmps21
  go_wp2_with (go_at_call 12; refine (HF.out _ (by repeat (first | with_reducible exact Below.refl _ _ | with_reducible assumption | refine Below.drew ?_ | refine Below.setCell ?_ (by first | exact Nat.le_refl _ | omega | (simp; done) | (simp; omega)) _ | refine Below.alloc ?_ (by first | exact Nat.le_refl _ | omega | (simp; done) | (simp; omega)) _ | refine Below.tr ?_ (Nat.le_refl _) (by assumption) | exact Below.refl _ _ | assumption))).mono ?_; rintro e w1 ⟨rfl, hb1⟩; obtain ⟨m0, m1, mz⟩ := two_blocks hb1; obtain ⟨c0, c1⟩ := houseMem m0; have M1 := Lib.hid m1; obtain ⟨zc, zf⟩ := tradeMem m1; have hB1 : Below w.heap.size w w1 := (by repeat (first | with_reducible exact Below.refl _ _ | with_reducible assumption | refine Below.drew ?_ | refine Below.setCell ?_ (by first | exact Nat.le_refl _ | omega | (simp; done) | (simp; omega)) _ | refine Below.alloc ?_ (by first | exact Nat.le_refl _ | omega | (simp; done) | (simp; omega)) _ | refine Below.tr ?_ (Nat.le_refl _) (by assumption) | exact Below.refl _ _ | assumption)); have s0 : w.heap.size < w1.heap.size := (by omega); have s1 : w.heap.size < w1.heap.size + 1 := (by omega); have s2 : w.heap.size + 1 < w1.heap.size := (by omega); have s3 : w.heap.size + 1 < w1.heap.size + 1 := (by omega); have s4 : w.heap.size < w1.heap.size + 2 := (by omega); have s5 : w.heap.size + 1 < w1.heap.size + 2 := (by omega); clear m0 m1 zc zf; simp only [Offer.val])
  obtain ⟨tv, htv⟩ : ∃ tv : List Value, tv = [.pointer (some ⟨b, 0, none⟩), .pointer B, .int .u64 sq, .int .u8 p, .int .u8 s, .int .u8 y, .int .i64 left, .int .i64 a, .int .i64 d, .int .u8 taker, .int .u8 to, .int .i64 want, .int .i64 most] := ⟨_, rfl⟩
  have HTL := Lib.hid (show tv.length = 13 ∧ ((Try.prog).info? 70).map (·.size) = some tv.length by subst htv; exact ⟨rfl, infoTrade⟩)
  have HTO := Lib.hid (show tv.toArray.all (·.oneCell') = true by subst htv; simp [Value.oneCell'])
  refine wp_region_held_drew (S := TradeHold w w1 (some ⟨b, 0, none⟩) p tv) (by kernel_rfl) ?_ (fun hHeld => ?_)
  · obtain ⟨r1, r2⟩ := allocs2 (w1 := w1) [.int .u64 sq, .int .u8 p, .int .u8 s, .int .u8 y, .int .i64 left, .int .i64 a, .int .i64 d] tv 57 70
    rw [htv] at *
    refine ⟨(by repeat (first | with_reducible exact Below.refl _ _ | with_reducible assumption | refine Below.drew ?_ | refine Below.setCell ?_ (by first | exact Nat.le_refl _ | omega | (simp; done) | (simp; omega)) _ | refine Below.alloc ?_ (by first | exact Nat.le_refl _ | omega | (simp; done) | (simp; omega)) _ | refine Below.tr ?_ (Nat.le_refl _) (by assumption) | exact Below.refl _ _ | assumption)), ?_, r1 1 _ rfl, r2, ?_⟩
    · simp [c0, World.cell?_alloc_some]
    · rw [World.there_drew]; exact World.there_alloc (World.there_alloc (thereTrade M1.out) _) _
  have HTV := Lib.hid htv
  clear htv
  revert hHeld
  generalize World.drew _ = W0
  intro hHeld
  refine wpAnyH_take (i := 0) (oi := ⟨some 31, _, _, _, _, _⟩) (v := .agg tv.toArray) rfl (by kernel_rfl) (by kernel_rfl) (by kernel_rfl) (fun _ _ _ h => h) (yieldsIf_load_mid (by rfl) _ _ rfl (w1.heap.size + 1) 0 rfl tv _ (fun _ hw => hw.2.2.2.1) Try.underlying70 rfl HTL.out.2) (by assumption) ?_
  try simp only [Act.put, List.setIfInBounds_toArray, List.set_cons_zero, List.set_cons_succ]
  refine wpAnyH_take (i := 1) (oi := ⟨some 32, _, _, _, _, _⟩) (v := ?v2) rfl (by kernel_rfl) (by kernel_rfl) (by kernel_rfl) (fun _ _ _ h => h) (Or.inl ⟨by rfl, ?y2⟩) (by assumption) ?r2
  case y2 => (rintro w0 ⟨sa, sb, sc, sd, se⟩; go_simp; try with_reducible rfl)
  try simp only [Act.put, List.setIfInBounds_toArray, List.set_cons_zero, List.set_cons_succ]
  refine wpAnyH_take (i := 2) (oi := ⟨some 33, _, _, _, _, _⟩) (v := ?v3) rfl (by kernel_rfl) (by kernel_rfl) (by kernel_rfl) (fun _ _ _ h => h) (Or.inl ⟨by rfl, ?y3⟩) (by assumption) ?r3
  case y3 => (rintro w0 ⟨sa, sb, sc, sd, se⟩; go_simp; try with_reducible rfl)
  try simp only [Act.put, List.setIfInBounds_toArray, List.set_cons_zero, List.set_cons_succ]
  refine wpAnyH_take (i := 3) (oi := ⟨some 34, _, _, _, _, _⟩) (v := ?v4) rfl (by kernel_rfl) (by kernel_rfl) (by kernel_rfl) (fun _ _ _ h => h) (Or.inl ⟨by rfl, ?y4⟩) (by assumption) ?r4
  case y4 => (rintro w0 ⟨sa, sb, sc, sd, se⟩; go_simp; try with_reducible rfl)
  try simp only [Act.put, List.setIfInBounds_toArray, List.set_cons_zero, List.set_cons_succ]
  refine wpAnyH_take (i := 4) (oi := ⟨some 35, _, _, _, _, _⟩) (v := ?v5) rfl (by kernel_rfl) (by kernel_rfl) (by kernel_rfl) (fun _ _ _ h => h) (Or.inl ⟨by rfl, ?y5⟩) (by assumption) ?r5
  case y5 => (rintro w0 ⟨sa, sb, sc, sd, se⟩; go_simp; try with_reducible rfl)
  try simp only [Act.put, List.setIfInBounds_toArray, List.set_cons_zero, List.set_cons_succ]
  refine wpAnyH_take (i := 5) (oi := ⟨some 36, _, _, _, _, _⟩) (v := ?v6) rfl (by kernel_rfl) (by kernel_rfl) (by kernel_rfl) (fun _ _ _ h => h) (Or.inl ⟨by rfl, ?y6⟩) (by assumption) ?r6
  case y6 => (rintro w0 ⟨sa, sb, sc, sd, se⟩; go_simp; try with_reducible rfl)
  try simp only [Act.put, List.setIfInBounds_toArray, List.set_cons_zero, List.set_cons_succ]
  refine wpAnyH_take (i := 6) (oi := ⟨some 37, _, _, _, _, _⟩) (v := ?v7) rfl (by kernel_rfl) (by kernel_rfl) (by kernel_rfl) (fun _ _ _ h => h) (Or.inl ⟨by rfl, ?y7⟩) (by assumption) ?r7
  case y7 => (rintro w0 ⟨sa, sb, sc, sd, se⟩; go_simp; try with_reducible rfl)
  try simp only [Act.put, List.setIfInBounds_toArray, List.set_cons_zero, List.set_cons_succ]
  refine wpAnyH_take (i := 7) (oi := ⟨some 38, _, _, _, _, _⟩) (v := ?v8) rfl (by kernel_rfl) (by kernel_rfl) (by kernel_rfl) (fun _ _ _ h => h) (Or.inl ⟨by rfl, ?y8⟩) (by assumption) ?r8
  case y8 => (rintro w0 ⟨sa, sb, sc, sd, se⟩; go_simp; try with_reducible rfl)
  try simp only [Act.put, List.setIfInBounds_toArray, List.set_cons_zero, List.set_cons_succ]
  refine wpAnyH_take (i := 8) (oi := ⟨some 39, _, _, _, _, _⟩) (v := ?v9) rfl (by kernel_rfl) (by kernel_rfl) (by kernel_rfl) (fun _ _ _ h => h) (Or.inl ⟨by rfl, ?y9⟩) (by assumption) ?r9
  case y9 => (rintro w0 ⟨sa, sb, sc, sd, se⟩; go_simp; try with_reducible rfl)
  try simp only [Act.put, List.setIfInBounds_toArray, List.set_cons_zero, List.set_cons_succ]
  refine wpAnyH_take (i := 9) (oi := ⟨some 40, _, _, _, _, _⟩) (v := ?v10) rfl (by kernel_rfl) (by kernel_rfl) (by kernel_rfl) (fun _ _ _ h => h) (Or.inl ⟨by rfl, ?y10⟩) (by assumption) ?r10
  case y10 => (rintro w0 ⟨sa, sb, sc, sd, se⟩; go_simp; try with_reducible rfl)
  try simp only [Act.put, List.setIfInBounds_toArray, List.set_cons_zero, List.set_cons_succ]
  refine wpAnyH_take (i := 10) (oi := ⟨some 41, _, _, _, _, _⟩) (v := ?v11) rfl (by kernel_rfl) (by kernel_rfl) (by kernel_rfl) (fun _ _ _ h => h) (Or.inl ⟨by rfl, ?y11⟩) (by assumption) ?r11
  case y11 => (rintro w0 ⟨sa, sb, sc, sd, se⟩; go_simp; try with_reducible rfl)
  try simp only [Act.put, List.setIfInBounds_toArray, List.set_cons_zero, List.set_cons_succ]
  refine wpAnyH_take (i := 11) (oi := ⟨some 42, _, _, _, _, _⟩) (v := ?v12) rfl (by kernel_rfl) (by kernel_rfl) (by kernel_rfl) (fun _ _ _ h => h) (Or.inl ⟨by rfl, ?y12⟩) (by assumption) ?r12
  case y12 => (rintro w0 ⟨sa, sb, sc, sd, se⟩; go_simp; try with_reducible rfl)
  try simp only [Act.put, List.setIfInBounds_toArray, List.set_cons_zero, List.set_cons_succ]
  refine wpAnyH_take (i := 12) (oi := ⟨some 43, _, _, _, _, _⟩) (v := ?v13) rfl (by kernel_rfl) (by kernel_rfl) (by kernel_rfl) (fun _ _ _ h => h) (Or.inl ⟨by rfl, ?y13⟩) (by assumption) ?r13
  case y13 => (rintro w0 ⟨sa, sb, sc, sd, se⟩; go_simp; try with_reducible rfl)
  try simp only [Act.put, List.setIfInBounds_toArray, List.set_cons_zero, List.set_cons_succ]
  refine wpAnyH_ready (rs := [13]) (by kernel_rfl) (by simp) ?_
  refine AllReadyH.cons (o := ⟨some 44, _, _, _, _, _⟩) rfl (fun K1 hK1 => ?_) ?_
  · rw [if_pos (by rfl)]
    go_wp2_with (go_at_call 13; refine (has_any (h.below hHeld.1) _ (by omega)).mono ?_; rintro e w' ⟨rfl, rfl⟩; rw [H1.out])
    refine hK1.out _ _ hHeld (fun hHeld => ?_)
    clear hK1 K1
    try simp only [Act.put, List.setIfInBounds_toArray, List.set_cons_zero, List.set_cons_succ]
    refine wpAnyH_take (i := 14) (oi := ⟨some 45, _, _, _, _, _⟩) (v := ?v14) rfl (by kernel_rfl) (by kernel_rfl) (by kernel_rfl) (fun _ _ _ h => h) (Or.inl ⟨by rfl, ?y14⟩) (by assumption) ?r14
    case y14 => (rintro w0 ⟨sa, sb, sc, sd, se⟩; go_simp; try with_reducible rfl)
    try simp only [Act.put, List.setIfInBounds_toArray, List.set_cons_zero, List.set_cons_succ]
    refine wpAnyH_take (i := 15) (oi := ⟨some 46, _, _, _, _, _⟩) (v := ?v15) rfl (by kernel_rfl) (by kernel_rfl) (by kernel_rfl) (fun _ _ _ h => h) (Or.inl ⟨by rfl, ?y15⟩) (by assumption) ?r15
    case y15 => (rintro w0 ⟨sa, sb, sc, sd, se⟩; go_simp; try with_reducible rfl)
    try simp only [Act.put, List.setIfInBounds_toArray, List.set_cons_zero, List.set_cons_succ]
    refine wpAnyH_take (i := 16) (oi := ⟨some 47, _, _, _, _, _⟩) (v := ?v16) rfl (by kernel_rfl) (by kernel_rfl) (by kernel_rfl) (fun _ _ _ h => h) (Or.inl ⟨by rfl, ?y16⟩) (by assumption) ?r16
    case y16 => (rintro w0 ⟨sa, sb, sc, sd, se⟩; go_simp; try with_reducible rfl)
    try simp only [Act.put, List.setIfInBounds_toArray, List.set_cons_zero, List.set_cons_succ]
    refine wpAnyH_take (i := 17) (oi := ⟨some 48, _, _, _, _, _⟩) (v := ?v17) rfl (by kernel_rfl) (by kernel_rfl) (by kernel_rfl) (fun _ _ _ h => h) (Or.inl ⟨by rfl, ?y17⟩) (by assumption) ?r17
    case y17 => (rintro w0 ⟨sa, sb, sc, sd, se⟩; go_simp; try with_reducible rfl)
    try simp only [Act.put, List.setIfInBounds_toArray, List.set_cons_zero, List.set_cons_succ]
    refine wpAnyH_take (i := 18) (oi := ⟨some 49, _, _, _, _, _⟩) (v := ?v18) rfl (by kernel_rfl) (by kernel_rfl) (by kernel_rfl) (fun _ _ _ h => h) (Or.inl ⟨by rfl, ?y18⟩) (by assumption) ?r18
    case y18 => (rintro w0 ⟨sa, sb, sc, sd, se⟩; go_simp; try with_reducible rfl)
    try simp only [Act.put, List.setIfInBounds_toArray, List.set_cons_zero, List.set_cons_succ]
    refine wpAnyH_ready (rs := [19]) (by kernel_rfl) (by simp) ?_
    refine AllReadyH.cons (o := ⟨some 50, _, _, _, _, _⟩) rfl (fun K1 hK1 => ?_) ?_
    · rw [if_pos (by rfl)]
      go_wp2_with (go_at_call 13; refine (has_any (h.below hHeld.1) _ (by omega)).mono ?_; rintro e w' ⟨rfl, rfl⟩; rw [H2.out])
      refine hK1.out _ _ hHeld (fun hHeld => ?_)
      clear hK1 K1
      try simp only [Act.put, List.setIfInBounds_toArray, List.set_cons_zero, List.set_cons_succ]
      refine wpAnyH_take (i := 20) (oi := ⟨some 51, _, _, _, _, _⟩) (v := ?v19) rfl (by kernel_rfl) (by kernel_rfl) (by kernel_rfl) (fun _ _ _ h => h) (Or.inl ⟨by rfl, ?y19⟩) (by assumption) ?r19
      case y19 => (rintro w0 ⟨sa, sb, sc, sd, se⟩; go_simp; try with_reducible rfl)
      try simp only [Act.put, List.setIfInBounds_toArray, List.set_cons_zero, List.set_cons_succ]
      refine wpAnyH_take (i := 21) (oi := ⟨some 52, _, _, _, _, _⟩) (v := ?v20) rfl (by kernel_rfl) (by kernel_rfl) (by kernel_rfl) (fun _ _ _ h => h) (Or.inl ⟨by rfl, ?y20⟩) (by assumption) ?r20
      case y20 => (rintro w0 ⟨sa, sb, sc, sd, se⟩; go_simp; try with_reducible rfl)
      try simp only [Act.put, List.setIfInBounds_toArray, List.set_cons_zero, List.set_cons_succ]
      refine wpAnyH_take (i := 22) (oi := ⟨some 53, _, _, _, _, _⟩) (v := ?v21) rfl (by kernel_rfl) (by kernel_rfl) (by kernel_rfl) (fun _ _ _ h => h) (Or.inl ⟨by rfl, ?y21⟩) (by assumption) ?r21
      case y21 => (rintro w0 ⟨sa, sb, sc, sd, se⟩; go_simp; try with_reducible rfl)
      try simp only [Act.put, List.setIfInBounds_toArray, List.set_cons_zero, List.set_cons_succ]
      refine wpAnyH_take (i := 23) (oi := ⟨some 54, _, _, _, _, _⟩) (v := ?v22) rfl (by kernel_rfl) (by kernel_rfl) (by kernel_rfl) (fun _ _ _ h => h) (Or.inl ⟨by rfl, ?y22⟩) (by assumption) ?r22
      case y22 => (rintro w0 ⟨sa, sb, sc, sd, se⟩; go_simp; try with_reducible rfl)
      try simp only [Act.put, List.setIfInBounds_toArray, List.set_cons_zero, List.set_cons_succ]
      refine wpAnyH_take (i := 24) (oi := ⟨some 55, _, _, _, _, _⟩) (v := ?v23) rfl (by kernel_rfl) (by kernel_rfl) (by kernel_rfl) (fun _ _ _ h => h) (Or.inl ⟨by rfl, ?y23⟩) (by assumption) ?r23
      case y23 => (rintro w0 ⟨sa, sb, sc, sd, se⟩; go_simp; try with_reducible rfl)
      try simp only [Act.put, List.setIfInBounds_toArray, List.set_cons_zero, List.set_cons_succ]
      refine wpAnyH_ready (rs := [25]) (by kernel_rfl) (by simp) ?_
      refine AllReadyH.cons (o := ⟨some 56, _, _, _, _, _⟩) rfl (fun K1 hK1 => ?_) ?_
      · rw [if_pos (by rfl)]
        go_wp2_with (go_at_call 13; refine (has_any (h.below hHeld.1) _ (by omega)).mono ?_; rintro e w' ⟨rfl, rfl⟩; rw [H3.out])
        refine hK1.out _ _ hHeld (fun hHeld => ?_)
        clear hK1 K1
        try simp only [Act.put, List.setIfInBounds_toArray, List.set_cons_zero, List.set_cons_succ]
        refine wpAnyH_take (i := 26) (oi := ⟨some 57, _, _, _, _, _⟩) (v := ?v24) rfl (by kernel_rfl) (by kernel_rfl) (by kernel_rfl) (fun _ _ _ h => h) (Or.inl ⟨by rfl, ?y24⟩) (by assumption) ?r24
        case y24 => (rintro w0 ⟨sa, sb, sc, sd, se⟩; go_simp; try with_reducible rfl)
        try simp only [Act.put, List.setIfInBounds_toArray, List.set_cons_zero, List.set_cons_succ]
        refine wpAnyH_take (i := 27) (oi := ⟨some 58, _, _, _, _, _⟩) (v := ?v25) rfl (by kernel_rfl) (by kernel_rfl) (by kernel_rfl) (fun _ _ _ h => h) (Or.inl ⟨by rfl, ?y25⟩) (by assumption) ?r25
        case y25 => (rintro w0 ⟨sa, sb, sc, sd, se⟩; go_simp; try with_reducible rfl)
        try simp only [Act.put, List.setIfInBounds_toArray, List.set_cons_zero, List.set_cons_succ]
        refine wpAnyH_take (i := 28) (oi := ⟨some 59, _, _, _, _, _⟩) (v := ?v26) rfl (by kernel_rfl) (by kernel_rfl) (by kernel_rfl) (fun _ _ _ h => h) (Or.inl ⟨by rfl, ?y26⟩) (by assumption) ?r26
        case y26 => (rintro w0 ⟨sa, sb, sc, sd, se⟩; go_simp; try with_reducible rfl)
        try simp only [Act.put, List.setIfInBounds_toArray, List.set_cons_zero, List.set_cons_succ]
        refine wpAnyH_take (i := 29) (oi := ⟨some 60, _, _, _, _, _⟩) (v := ?v27) rfl (by kernel_rfl) (by kernel_rfl) (by kernel_rfl) (fun _ _ _ h => h) (Or.inl ⟨by rfl, ?y27⟩) (by assumption) ?r27
        case y27 => (rintro w0 ⟨sa, sb, sc, sd, se⟩; go_simp; try with_reducible rfl)
        try simp only [Act.put, List.setIfInBounds_toArray, List.set_cons_zero, List.set_cons_succ]
        refine wpAnyH_take (i := 30) (oi := ⟨some 61, _, _, _, _, _⟩) (v := ?v28) rfl (by kernel_rfl) (by kernel_rfl) (by kernel_rfl) (fun _ _ _ h => h) (Or.inl ⟨by rfl, ?y28⟩) (by assumption) ?r28
        case y28 => (rintro w0 ⟨sa, sb, sc, sd, se⟩; go_simp; try with_reducible rfl)
        try simp only [Act.put, List.setIfInBounds_toArray, List.set_cons_zero, List.set_cons_succ]
        refine wpAnyH_take (i := 31) (oi := ⟨some 62, _, _, _, _, _⟩) (v := ?v29) rfl (by kernel_rfl) (by kernel_rfl) (by kernel_rfl) (fun _ _ _ h => h) (Or.inl ⟨by rfl, ?y29⟩) (by assumption) ?r29
        case y29 => (rintro w0 ⟨sa, sb, sc, sd, se⟩; go_simp; try with_reducible rfl)
        try simp only [Act.put, List.setIfInBounds_toArray, List.set_cons_zero, List.set_cons_succ]
        refine wpAnyH_take (i := 32) (oi := ⟨some 63, _, _, _, _, _⟩) (v := ?v30) rfl (by kernel_rfl) (by kernel_rfl) (by kernel_rfl) (fun _ _ _ h => h) (Or.inl ⟨by rfl, ?y30⟩) (by assumption) ?r30
        case y30 => (rintro w0 ⟨sa, sb, sc, sd, se⟩; go_simp; try with_reducible rfl)
        try simp only [Act.put, List.setIfInBounds_toArray, List.set_cons_zero, List.set_cons_succ]
        refine wpAnyH_take (i := 33) (oi := ⟨some 64, _, _, _, _, _⟩) (v := ?v31) rfl (by kernel_rfl) (by kernel_rfl) (by kernel_rfl) (fun _ _ _ h => h) (Or.inl ⟨by rfl, ?y31⟩) (by assumption) ?r31
        case y31 => (rintro w0 ⟨sa, sb, sc, sd, se⟩; go_simp; try with_reducible rfl)
        try simp only [Act.put, List.setIfInBounds_toArray, List.set_cons_zero, List.set_cons_succ]
        refine wpAnyH_take (i := 34) (oi := ⟨some 65, _, _, _, _, _⟩) (v := ?v32) rfl (by kernel_rfl) (by kernel_rfl) (by kernel_rfl) (fun _ _ _ h => h) (Or.inl ⟨by rfl, ?y32⟩) (by assumption) ?r32
        case y32 => (rintro w0 ⟨sa, sb, sc, sd, se⟩; go_simp; try with_reducible rfl)
        try simp only [Act.put, List.setIfInBounds_toArray, List.set_cons_zero, List.set_cons_succ]
        refine wpAnyH_ready (rs := [35]) (by kernel_rfl) (by simp) ?_
        refine AllReadyH.cons (o := ⟨none, _, _, _, _, _⟩) rfl (fun K1 hK1 => ?_) ?_
        · rw [if_pos (by rfl)]
          have HTS : tv.toArray.size = 13 := HTL.out.1
          have hq := World.rangeAt_setCells_same W0 (w.heap.size + 1) 0 tv (by rw [HTL.out.1]; exact hHeld.2.2.2.2)
          refine wp_store_mid _ _ _ rfl (w.heap.size + 1) 0 tv.toArray rfl rfl (by rw [HTS]; exact hHeld.2.2.2.2) (by rw [HTS, ← HTL.out.1]; exact HTL.out.2) HTO.out ?_
          refine hK1.out _ _ (hHeld.store mz) (fun hHeld => ?_)
          clear hK1 K1
          try simp only [Act.put]
          refine wpAnyH_take (i := 36) (oi := ⟨some 13, _, _, _, _, _⟩) (v := ?v33) rfl (by kernel_rfl) (by kernel_rfl) (by kernel_rfl) (fun _ _ _ h => h) (Or.inl ⟨by rfl, ?y33⟩) (by assumption) ?r33
          case y33 => (rintro w0 ⟨sa, sb, sc, sd, se⟩; go_simp; try with_reducible rfl)
          try simp only [Act.put, List.setIfInBounds_toArray, List.set_cons_zero, List.set_cons_succ]
          refine wpAnyH_done (by kernel_rfl) ?_ _
          have q0 := Lib.hid hq
          clear hq
          go_wp2
          refine bodyPost_ret (v := .tuple #[tradeOf (some ⟨b, 0, none⟩) B ⟨sq, p, s, y, left, a, d⟩ taker to want most, .bool true]) ?_ rfl ⟨rfl, hHeld.1⟩
          have q : ∀ j v, ([.pointer (some ⟨b, 0, none⟩), .pointer B, .int .u64 sq, .int .u8 p, .int .u8 s, .int .u8 y, .int .i64 left, .int .i64 a, .int .i64 d, .int .u8 taker, .int .u8 to, .int .i64 want, .int .i64 most] : List Value)[j]? = some v → (W0.setCells (w.heap.size + 1) 0 tv).cell? ⟨w.heap.size + 1, j, none⟩ = some v := fun j v hv => by have := q0.out j v (by rw [HTV.out]; exact hv); rwa [Nat.zero_add] at this
          have r0 : (W0.setCells (w.heap.size + 1) 0 tv).cell? ⟨w.heap.size + 1, 0, none⟩ = some (.pointer (some ⟨b, 0, none⟩)) := q 0 _ rfl
          have r1 : (W0.setCells (w.heap.size + 1) 0 tv).cell? ⟨w.heap.size + 1, 1, none⟩ = some (.pointer B) := q 1 _ rfl
          have r2 : (W0.setCells (w.heap.size + 1) 0 tv).cell? ⟨w.heap.size + 1, 2, none⟩ = some (.int .u64 sq) := q 2 _ rfl
          have r3 : (W0.setCells (w.heap.size + 1) 0 tv).cell? ⟨w.heap.size + 1, 3, none⟩ = some (.int .u8 p) := q 3 _ rfl
          have r4 : (W0.setCells (w.heap.size + 1) 0 tv).cell? ⟨w.heap.size + 1, 4, none⟩ = some (.int .u8 s) := q 4 _ rfl
          have r5 : (W0.setCells (w.heap.size + 1) 0 tv).cell? ⟨w.heap.size + 1, 5, none⟩ = some (.int .u8 y) := q 5 _ rfl
          have r6 : (W0.setCells (w.heap.size + 1) 0 tv).cell? ⟨w.heap.size + 1, 6, none⟩ = some (.int .i64 left) := q 6 _ rfl
          have r7 : (W0.setCells (w.heap.size + 1) 0 tv).cell? ⟨w.heap.size + 1, 7, none⟩ = some (.int .i64 a) := q 7 _ rfl
          have r8 : (W0.setCells (w.heap.size + 1) 0 tv).cell? ⟨w.heap.size + 1, 8, none⟩ = some (.int .i64 d) := q 8 _ rfl
          have r9 : (W0.setCells (w.heap.size + 1) 0 tv).cell? ⟨w.heap.size + 1, 9, none⟩ = some (.int .u8 taker) := q 9 _ rfl
          have r10 : (W0.setCells (w.heap.size + 1) 0 tv).cell? ⟨w.heap.size + 1, 10, none⟩ = some (.int .u8 to) := q 10 _ rfl
          have r11 : (W0.setCells (w.heap.size + 1) 0 tv).cell? ⟨w.heap.size + 1, 11, none⟩ = some (.int .i64 want) := q 11 _ rfl
          have r12 : (W0.setCells (w.heap.size + 1) 0 tv).cell? ⟨w.heap.size + 1, 12, none⟩ = some (.int .i64 most) := q 12 _ rfl
          clear q
          simp [results, Try.results21, go_sem, tradeOf, r0, r1, r2, r3, r4, r5, r6, r7, r8, r9, r10, r11, r12]
        exact AllReadyH.nil
      exact AllReadyH.nil
    exact AllReadyH.nil
  exact AllReadyH.nil
end Go.Proofs.Ytelcdiceongfdaa
end
section
namespace Go.Proofs.Ytelcdiceongfdaa
open Go.RowKit Go.BigFrame
set_option maxRecDepth 100000

set_option maxHeartbeats 2000000 in
/-- there is no such trade -/
theorem may_no {w : World} (L B : Option Addr) (o : Offer) (seq taker to : Nat) (want most : Int) (hT : ∀ W, Below w.heap.size w W → Calls Try.prog 21 #[.agg #[.pointer L, .pointer B], .int .u64 seq, .int .u8 taker, .int .u8 to, .int .i64 want, .int .i64 most] W (TradePost W (tradeOf L B o taker to want most) false)) :
    Calls Try.prog 8 #[.agg #[.pointer L, .pointer B], .int .u64 seq, .int .u8 taker, .int .u8 to, .int .i64 want, .int .i64 most] w (IntPost w 0) := by
  have HT := Lib.hid hT; clear hT
  unfold tradeOf at HT
  go_enter Try.func8, Try.ntmps8
  go_wp2_with (go_at_call 21; refine (HT.out _ (by repeat (first | with_reducible exact Below.refl _ _ | with_reducible assumption | refine Below.drew ?_ | refine Below.setCell ?_ (by first | exact Nat.le_refl _ | omega | (simp; done) | (simp; omega)) _ | refine Below.alloc ?_ (by first | exact Nat.le_refl _ | omega | (simp; done) | (simp; omega)) _ | refine Below.tr ?_ (Nat.le_refl _) (by assumption) | exact Below.refl _ _ | assumption))).mono ?_; rintro e w1 ⟨rfl, hb1⟩; have hB1 : Below w.heap.size w w1 := (by repeat (first | with_reducible exact Below.refl _ _ | with_reducible assumption | refine Below.drew ?_ | refine Below.setCell ?_ (by first | exact Nat.le_refl _ | omega | (simp; done) | (simp; omega)) _ | refine Below.alloc ?_ (by first | exact Nat.le_refl _ | omega | (simp; done) | (simp; omega)) _ | refine Below.tr ?_ (Nat.le_refl _) (by assumption) | exact Below.refl _ _ | assumption)))
  go_ret
  exact ⟨rfl, hB1.alloc hB1.size _⟩

theorem funcs_cells {w : World} (A : Array Value) (t : TypeId) : ∀ (j : Nat) (u : Value), A[j]? = some u → (w.alloc (.cells A t)).cell? ⟨w.heap.size, j, none⟩ = some u := fun j _u hu =>
  (cell_of_row _ _ j _ _ _ (alloc_new w (.cells A t))).trans hu

set_option maxHeartbeats 4000000 in
/-- there is such a trade, whatever its cells -/
theorem may_of {w : World} (hv : Value) (hv2 : ∃ x y, hv = .agg #[.pointer x, .pointer y]) (seq taker to : Nat) (want most : Int) (tv : List Value) (htl : tv.length = 13) (hto : tv.toArray.all (·.oneCell') = true) (n : Int)
    (hT : ∀ W, Below w.heap.size w W → Calls Try.prog 21 #[hv, .int .u64 seq, .int .u8 taker, .int .u8 to, .int .i64 want, .int .i64 most] W (TradePost W (.agg tv.toArray) true))
    (hL : ∀ W, Below w.heap.size w W → ∀ g c, (∀ (j : Nat) (u : Value), (#[Value.func (.func 23) #[.agg tv.toArray] #[], .func (.func 24) #[.agg tv.toArray] #[], .func (.func 25) #[.agg tv.toArray] #[], .func (.func 26) #[.agg tv.toArray] #[]] : Array Value)[j]? = some u → W.cell? ⟨g, j, none⟩ = some u) → g < W.heap.size → Calls Try.prog 22 #[.slice (some ⟨g, 0, none⟩) 4 c] W (IntPost W n)) :
    Calls Try.prog 8 #[hv, .int .u64 seq, .int .u8 taker, .int .u8 to, .int .i64 want, .int .i64 most] w (IntPost w n) := by
  obtain ⟨L, B, rfl⟩ := hv2
  have HT := Lib.hid hT; clear hT
  have HL := Lib.hid hL; clear hL
  have HTO := Lib.hid hto; clear hto
  have HTS := Lib.hid (show tv.toArray.size = 13 from htl)
  have HTI := Lib.hid (show ((Try.prog).info? 70).map (·.size) = some tv.length by rw [htl]; exact infoTrade)
  clear htl
  go_enter Try.func8, Try.ntmps8
  go_wp2_with (first | (go_at_call 21; refine (HT.out _ (by repeat (first | with_reducible exact Below.refl _ _ | with_reducible assumption | refine Below.drew ?_ | refine Below.setCell ?_ (by first | exact Nat.le_refl _ | omega | (simp; done) | (simp; omega)) _ | refine Below.alloc ?_ (by first | exact Nat.le_refl _ | omega | (simp; done) | (simp; omega)) _ | refine Below.tr ?_ (Nat.le_refl _) (by assumption) | exact Below.refl _ _ | assumption))).mono ?_; rintro e w1 ⟨rfl, hb1⟩; have hB1 := Lib.hid (show Below w.heap.size w w1 from (by repeat (first | with_reducible exact Below.refl _ _ | with_reducible assumption | refine Below.drew ?_ | refine Below.setCell ?_ (by first | exact Nat.le_refl _ | omega | (simp; done) | (simp; omega)) _ | refine Below.alloc ?_ (by first | exact Nat.le_refl _ | omega | (simp; done) | (simp; omega)) _ | refine Below.tr ?_ (Nat.le_refl _) (by assumption) | exact Below.refl _ _ | assumption))); clear hb1) | (refine wpList_store_mid rfl _ _ _ rfl w1.heap.size 0 tv.toArray rfl rfl (by rw [HTS.out]; exact thereTrade (alloc_new w1 _)) (by rw [HTS.out]; exact infoTrade) HTO.out ?_; have hq := Lib.hid (World.rangeAt_setCells_same (w1.alloc (.cells #[.pointer none, .pointer none, .int .u64 0, .int .u8 0, .int .u8 0, .int .u8 0, .int .i64 0, .int .i64 0, .int .i64 0, .int .u8 0, .int .u8 0, .int .i64 0, .int .i64 0] 70)) w1.heap.size 0 tv (by rw [show tv.length = 13 from HTS.out]; exact thereTrade (alloc_new w1 _))); have hB2 := Lib.hid (Below.setCells (hB1.out.alloc hB1.out.size (.cells #[.pointer none, .pointer none, .int .u64 0, .int .u8 0, .int .u8 0, .int .u8 0, .int .i64 0, .int .i64 0, .int .i64 0, .int .u8 0, .int .u8 0, .int .i64 0, .int .i64 0] 70)) hB1.out.size tv 0); generalize (World.setCells _ _ _ _) = W2 at *) | (refine wpList_load_mid rfl _ _ rfl w1.heap.size 0 rfl tv _ hq.out Try.underlying70 rfl HTI.out ?_) | (go_at_call 22; refine (HL.out _ (hB2.out.alloc hB2.out.size _) _ 4 (funcs_cells _ _) (by simp)).mono ?_; rintro e w2 ⟨rfl, hb2⟩))
  go_ret
  exact ⟨rfl, (hB2.out.alloc hB2.out.size _).trans (hb2.mono (by have := hB2.out.size; simp; omega))⟩

/-- there is such a trade -/
theorem may_yes {w : World} {b m : Nat} {A : Ledger} (h : LedgerAt w b m A) (bb : Nat) (o : Offer) (HD : small o ∨ DivHigh) (hmay : Offer.may o = true) (seq taker to : Nat) (want most : Int) (ht : taker < 256) (hto : to < 256) (hm : 1 ≤ most ∧ most ≤ 9223372036854775807) {ng nf : Int} (hg : GoesIs A o to ng) (hf : FitsIs A o taker most nf)
    (hT : ∀ W, Below w.heap.size w W → Calls Try.prog 21 #[.agg #[.pointer (some ⟨b, 0, none⟩), .pointer (some ⟨bb, 0, none⟩)], .int .u64 seq, .int .u8 taker, .int .u8 to, .int .i64 want, .int .i64 most] W (TradePost W (tradeOf (some ⟨b, 0, none⟩) (some ⟨bb, 0, none⟩) o taker to want most) true)) :
    Calls Try.prog 8 #[.agg #[.pointer (some ⟨b, 0, none⟩), .pointer (some ⟨bb, 0, none⟩)], .int .u64 seq, .int .u8 taker, .int .u8 to, .int .i64 want, .int .i64 most] w (IntPost w (leastI want o.left ng nf)) := by
  have ho : o.owner < 256 := by unfold Offer.may at hmay; simp only [Bool.and_eq_true, decide_eq_true_eq] at hmay; omega
  refine may_of _ ⟨_, _, rfl⟩ seq taker to want most [.pointer (some ⟨b, 0, none⟩), .pointer (some ⟨bb, 0, none⟩), .int .u64 o.seq, .int .u8 o.owner, .int .u8 o.sell, .int .u8 o.buy, .int .i64 o.left, .int .i64 o.num, .int .i64 o.den, .int .u8 taker, .int .u8 to, .int .i64 want, .int .i64 most] rfl (by simp [Value.oneCell']) _ hT ?_
  intro W hW g c hc hgl
  have hB := fun (W' : World) (h' : Below W.heap.size W W') => h.below (hW.trans (h'.mono hW.size))
  exact least_4 hc hgl (fun W' _ => trade_wanted b bb o taker to want most W') (fun W' _ => trade_left b bb o taker to want most W') (fun W' h' => trade_goes (hB W' h') bb o taker to want most ho hto hg) (fun W' h' => trade_fits (hB W' h') bb o HD hmay taker to want most ht hm hf)
end Go.Proofs.Ytelcdiceongfdaa
end
section
namespace Go.Proofs.Ytelcdiceongfdaa
open Go.RowKit Go.BigFrame
set_option maxRecDepth 100000

set_option maxHeartbeats 4000000 in
/-- the owner is no member -/
theorem trade_noOwner {w : World} {b m : Nat} {A : Ledger} (h : LedgerAt w b m A) (B : Option Addr) (seq taker to : Nat) (want most : Int) (o : Offer) (hF : ∀ W, Below w.heap.size w W → Calls Try.prog 12 #[.pointer B, .int .u64 seq] W (FindPost W o true))
    (hot : o.owner ≠ taker) (ho : o.owner < 256) (_ht : taker < 256) (_hto : to < 256) (h1 : A.has o.owner = false) :
    Calls Try.prog 21 #[.agg #[.pointer (some ⟨b, 0, none⟩), .pointer B], .int .u64 seq, .int .u8 taker, .int .u8 to, .int .i64 want, .int .i64 most] w (TradePost w (tradeOf (some ⟨b, 0, none⟩) B o taker to want most) false) := by
  have HF := Lib.hid hF; clear hF
  have H1 := Lib.hid h1; clear h1
  have hb := h.lt
  obtain ⟨sq, p, s, y, left, a, d⟩ := o
  try dsimp only at *
  have hne : ((p : Int) != taker) = true := by rw [bne_iff_ne]; omega
  go_enter Try.func21, Try.ntmps21
  go_wp2_with (go_at_call 12; refine (HF.out _ (by repeat (first | with_reducible exact Below.refl _ _ | with_reducible assumption | refine Below.drew ?_ | refine Below.setCell ?_ (by first | exact Nat.le_refl _ | omega | (simp; done) | (simp; omega)) _ | refine Below.alloc ?_ (by first | exact Nat.le_refl _ | omega | (simp; done) | (simp; omega)) _ | refine Below.tr ?_ (Nat.le_refl _) (by assumption) | exact Below.refl _ _ | assumption))).mono ?_; rintro e w1 ⟨rfl, hb1⟩; obtain ⟨m0, m1, mz⟩ := two_blocks hb1; obtain ⟨c0, c1⟩ := houseMem m0; have M1 := Lib.hid m1; obtain ⟨zc, zf⟩ := tradeMem m1; have hB1 : Below w.heap.size w w1 := (by repeat (first | with_reducible exact Below.refl _ _ | with_reducible assumption | refine Below.drew ?_ | refine Below.setCell ?_ (by first | exact Nat.le_refl _ | omega | (simp; done) | (simp; omega)) _ | refine Below.alloc ?_ (by first | exact Nat.le_refl _ | omega | (simp; done) | (simp; omega)) _ | refine Below.tr ?_ (Nat.le_refl _) (by assumption) | exact Below.refl _ _ | assumption)); have s0 : w.heap.size < w1.heap.size := (by omega); have s1 : w.heap.size < w1.heap.size + 1 := (by omega); have s2 : w.heap.size + 1 < w1.heap.size := (by omega); have s3 : w.heap.size + 1 < w1.heap.size + 1 := (by omega); have s4 : w.heap.size < w1.heap.size + 2 := (by omega); have s5 : w.heap.size + 1 < w1.heap.size + 2 := (by omega); clear m0 m1 zc zf; simp only [Offer.val])
  obtain ⟨tv, htv⟩ : ∃ tv : List Value, tv = [.pointer (some ⟨b, 0, none⟩), .pointer B, .int .u64 sq, .int .u8 p, .int .u8 s, .int .u8 y, .int .i64 left, .int .i64 a, .int .i64 d, .int .u8 taker, .int .u8 to, .int .i64 want, .int .i64 most] := ⟨_, rfl⟩
  have HTL := Lib.hid (show tv.length = 13 ∧ ((Try.prog).info? 70).map (·.size) = some tv.length by subst htv; exact ⟨rfl, infoTrade⟩)
  have HTO := Lib.hid (show tv.toArray.all (·.oneCell') = true by subst htv; simp [Value.oneCell'])
  refine wp_region_held_drew (S := TradeHold w w1 (some ⟨b, 0, none⟩) p tv) (by kernel_rfl) ?_ (fun hHeld => ?_)
  · obtain ⟨r1, r2⟩ := allocs2 (w1 := w1) [.int .u64 sq, .int .u8 p, .int .u8 s, .int .u8 y, .int .i64 left, .int .i64 a, .int .i64 d] tv 57 70
    rw [htv] at *
    refine ⟨(by repeat (first | with_reducible exact Below.refl _ _ | with_reducible assumption | refine Below.drew ?_ | refine Below.setCell ?_ (by first | exact Nat.le_refl _ | omega | (simp; done) | (simp; omega)) _ | refine Below.alloc ?_ (by first | exact Nat.le_refl _ | omega | (simp; done) | (simp; omega)) _ | refine Below.tr ?_ (Nat.le_refl _) (by assumption) | exact Below.refl _ _ | assumption)), ?_, r1 1 _ rfl, r2, ?_⟩
    · simp [c0, World.cell?_alloc_some]
    · rw [World.there_drew]; exact World.there_alloc (World.there_alloc (thereTrade M1.out) _) _
  have HTV := Lib.hid htv
  clear htv
  revert hHeld
  generalize World.drew _ = W0
  intro hHeld
  refine wpAnyH_take (i := 0) (oi := ⟨some 31, _, _, _, _, _⟩) (v := .agg tv.toArray) rfl (by kernel_rfl) (by kernel_rfl) (by kernel_rfl) (fun _ _ _ h => h) (yieldsIf_load_mid (by rfl) _ _ rfl (w1.heap.size + 1) 0 rfl tv _ (fun _ hw => hw.2.2.2.1) Try.underlying70 rfl HTL.out.2) (by assumption) ?_
  try simp only [Act.put, List.setIfInBounds_toArray, List.set_cons_zero, List.set_cons_succ]
  refine wpAnyH_take (i := 1) (oi := ⟨some 32, _, _, _, _, _⟩) (v := ?v2) rfl (by kernel_rfl) (by kernel_rfl) (by kernel_rfl) (fun _ _ _ h => h) (Or.inl ⟨by rfl, ?y2⟩) (by assumption) ?r2
  case y2 => (rintro w0 ⟨sa, sb, sc, sd, se⟩; go_simp; try with_reducible rfl)
  try simp only [Act.put, List.setIfInBounds_toArray, List.set_cons_zero, List.set_cons_succ]
  refine wpAnyH_take (i := 2) (oi := ⟨some 33, _, _, _, _, _⟩) (v := ?v3) rfl (by kernel_rfl) (by kernel_rfl) (by kernel_rfl) (fun _ _ _ h => h) (Or.inl ⟨by rfl, ?y3⟩) (by assumption) ?r3
  case y3 => (rintro w0 ⟨sa, sb, sc, sd, se⟩; go_simp; try with_reducible rfl)
  try simp only [Act.put, List.setIfInBounds_toArray, List.set_cons_zero, List.set_cons_succ]
  refine wpAnyH_take (i := 3) (oi := ⟨some 34, _, _, _, _, _⟩) (v := ?v4) rfl (by kernel_rfl) (by kernel_rfl) (by kernel_rfl) (fun _ _ _ h => h) (Or.inl ⟨by rfl, ?y4⟩) (by assumption) ?r4
  case y4 => (rintro w0 ⟨sa, sb, sc, sd, se⟩; go_simp; try with_reducible rfl)
  try simp only [Act.put, List.setIfInBounds_toArray, List.set_cons_zero, List.set_cons_succ]
  refine wpAnyH_take (i := 4) (oi := ⟨some 35, _, _, _, _, _⟩) (v := ?v5) rfl (by kernel_rfl) (by kernel_rfl) (by kernel_rfl) (fun _ _ _ h => h) (Or.inl ⟨by rfl, ?y5⟩) (by assumption) ?r5
  case y5 => (rintro w0 ⟨sa, sb, sc, sd, se⟩; go_simp; try with_reducible rfl)
  try simp only [Act.put, List.setIfInBounds_toArray, List.set_cons_zero, List.set_cons_succ]
  refine wpAnyH_take (i := 5) (oi := ⟨some 36, _, _, _, _, _⟩) (v := ?v6) rfl (by kernel_rfl) (by kernel_rfl) (by kernel_rfl) (fun _ _ _ h => h) (Or.inl ⟨by rfl, ?y6⟩) (by assumption) ?r6
  case y6 => (rintro w0 ⟨sa, sb, sc, sd, se⟩; go_simp; try with_reducible rfl)
  try simp only [Act.put, List.setIfInBounds_toArray, List.set_cons_zero, List.set_cons_succ]
  refine wpAnyH_take (i := 6) (oi := ⟨some 37, _, _, _, _, _⟩) (v := ?v7) rfl (by kernel_rfl) (by kernel_rfl) (by kernel_rfl) (fun _ _ _ h => h) (Or.inl ⟨by rfl, ?y7⟩) (by assumption) ?r7
  case y7 => (rintro w0 ⟨sa, sb, sc, sd, se⟩; go_simp; try with_reducible rfl)
  try simp only [Act.put, List.setIfInBounds_toArray, List.set_cons_zero, List.set_cons_succ]
  refine wpAnyH_take (i := 7) (oi := ⟨some 38, _, _, _, _, _⟩) (v := ?v8) rfl (by kernel_rfl) (by kernel_rfl) (by kernel_rfl) (fun _ _ _ h => h) (Or.inl ⟨by rfl, ?y8⟩) (by assumption) ?r8
  case y8 => (rintro w0 ⟨sa, sb, sc, sd, se⟩; go_simp; try with_reducible rfl)
  try simp only [Act.put, List.setIfInBounds_toArray, List.set_cons_zero, List.set_cons_succ]
  refine wpAnyH_take (i := 8) (oi := ⟨some 39, _, _, _, _, _⟩) (v := ?v9) rfl (by kernel_rfl) (by kernel_rfl) (by kernel_rfl) (fun _ _ _ h => h) (Or.inl ⟨by rfl, ?y9⟩) (by assumption) ?r9
  case y9 => (rintro w0 ⟨sa, sb, sc, sd, se⟩; go_simp; try with_reducible rfl)
  try simp only [Act.put, List.setIfInBounds_toArray, List.set_cons_zero, List.set_cons_succ]
  refine wpAnyH_take (i := 9) (oi := ⟨some 40, _, _, _, _, _⟩) (v := ?v10) rfl (by kernel_rfl) (by kernel_rfl) (by kernel_rfl) (fun _ _ _ h => h) (Or.inl ⟨by rfl, ?y10⟩) (by assumption) ?r10
  case y10 => (rintro w0 ⟨sa, sb, sc, sd, se⟩; go_simp; try with_reducible rfl)
  try simp only [Act.put, List.setIfInBounds_toArray, List.set_cons_zero, List.set_cons_succ]
  refine wpAnyH_take (i := 10) (oi := ⟨some 41, _, _, _, _, _⟩) (v := ?v11) rfl (by kernel_rfl) (by kernel_rfl) (by kernel_rfl) (fun _ _ _ h => h) (Or.inl ⟨by rfl, ?y11⟩) (by assumption) ?r11
  case y11 => (rintro w0 ⟨sa, sb, sc, sd, se⟩; go_simp; try with_reducible rfl)
  try simp only [Act.put, List.setIfInBounds_toArray, List.set_cons_zero, List.set_cons_succ]
  refine wpAnyH_take (i := 11) (oi := ⟨some 42, _, _, _, _, _⟩) (v := ?v12) rfl (by kernel_rfl) (by kernel_rfl) (by kernel_rfl) (fun _ _ _ h => h) (Or.inl ⟨by rfl, ?y12⟩) (by assumption) ?r12
  case y12 => (rintro w0 ⟨sa, sb, sc, sd, se⟩; go_simp; try with_reducible rfl)
  try simp only [Act.put, List.setIfInBounds_toArray, List.set_cons_zero, List.set_cons_succ]
  refine wpAnyH_take (i := 12) (oi := ⟨some 43, _, _, _, _, _⟩) (v := ?v13) rfl (by kernel_rfl) (by kernel_rfl) (by kernel_rfl) (fun _ _ _ h => h) (Or.inl ⟨by rfl, ?y13⟩) (by assumption) ?r13
  case y13 => (rintro w0 ⟨sa, sb, sc, sd, se⟩; go_simp; try with_reducible rfl)
  try simp only [Act.put, List.setIfInBounds_toArray, List.set_cons_zero, List.set_cons_succ]
  refine wpAnyH_ready (rs := [13]) (by kernel_rfl) (by simp) ?_
  refine AllReadyH.cons (o := ⟨some 44, _, _, _, _, _⟩) rfl (fun K1 hK1 => ?_) ?_
  · rw [if_pos (by rfl)]
    go_wp2_with (go_at_call 13; refine (has_any (h.below hHeld.1) _ (by omega)).mono ?_; rintro e w' ⟨rfl, rfl⟩; rw [H1.out])
    refine hK1.out _ _ hHeld (fun hHeld => ?_)
    clear hK1 K1
    try simp only [Act.put, List.setIfInBounds_toArray, List.set_cons_zero, List.set_cons_succ]
    refine wpAnyH_take (i := 14) (oi := ⟨some 45, _, _, _, _, _⟩) (v := ?v14) rfl (by kernel_rfl) (by kernel_rfl) (by kernel_rfl) (fun _ _ _ h => h) (Or.inl ⟨by rfl, ?y14⟩) (by assumption) ?r14
    case y14 => (rintro w0 ⟨sa, sb, sc, sd, se⟩; go_simp; try with_reducible rfl)
    try simp only [Act.put, List.setIfInBounds_toArray, List.set_cons_zero, List.set_cons_succ]
    refine wpAnyH_take (i := 15) (oi := ⟨some 46, _, _, _, _, _⟩) (v := ?v15) rfl (by kernel_rfl) (by kernel_rfl) (by kernel_rfl) (fun _ _ _ h => h) (Or.inl ⟨by rfl, ?y15⟩) (by assumption) ?r15
    case y15 => (rintro w0 ⟨sa, sb, sc, sd, se⟩; go_simp; try with_reducible rfl)
    try simp only [Act.put, List.setIfInBounds_toArray, List.set_cons_zero, List.set_cons_succ]
    refine wpAnyH_take (i := 16) (oi := ⟨some 47, _, _, _, _, _⟩) (v := undef) rfl (by kernel_rfl) (by kernel_rfl) (by kernel_rfl) (fun _ _ _ h => h) (Or.inr ⟨by rfl, rfl⟩) (by assumption) ?_
    try simp only [Act.put, List.setIfInBounds_toArray, List.set_cons_zero, List.set_cons_succ]
    refine wpAnyH_take (i := 17) (oi := ⟨some 48, _, _, _, _, _⟩) (v := undef) rfl (by kernel_rfl) (by kernel_rfl) (by kernel_rfl) (fun _ _ _ h => h) (Or.inr ⟨by rfl, rfl⟩) (by assumption) ?_
    try simp only [Act.put, List.setIfInBounds_toArray, List.set_cons_zero, List.set_cons_succ]
    refine wpAnyH_take (i := 18) (oi := ⟨some 49, _, _, _, _, _⟩) (v := undef) rfl (by kernel_rfl) (by kernel_rfl) (by kernel_rfl) (fun _ _ _ h => h) (Or.inr ⟨by rfl, rfl⟩) (by assumption) ?_
    try simp only [Act.put, List.setIfInBounds_toArray, List.set_cons_zero, List.set_cons_succ]
    refine wpAnyH_take (i := 19) (oi := ⟨some 50, _, _, _, _, _⟩) (v := undef) rfl (by kernel_rfl) (by kernel_rfl) (by kernel_rfl) (fun _ _ _ h => h) (Or.inr ⟨by rfl, rfl⟩) (by assumption) ?_
    try simp only [Act.put, List.setIfInBounds_toArray, List.set_cons_zero, List.set_cons_succ]
    refine wpAnyH_take (i := 20) (oi := ⟨some 51, _, _, _, _, _⟩) (v := ?v20) rfl (by kernel_rfl) (by kernel_rfl) (by kernel_rfl) (fun _ _ _ h => h) (Or.inl ⟨by rfl, ?y20⟩) (by assumption) ?r20
    case y20 => (rintro w0 ⟨sa, sb, sc, sd, se⟩; go_simp; try with_reducible rfl)
    try simp only [Act.put, List.setIfInBounds_toArray, List.set_cons_zero, List.set_cons_succ]
    refine wpAnyH_take (i := 21) (oi := ⟨some 52, _, _, _, _, _⟩) (v := ?v21) rfl (by kernel_rfl) (by kernel_rfl) (by kernel_rfl) (fun _ _ _ h => h) (Or.inl ⟨by rfl, ?y21⟩) (by assumption) ?r21
    case y21 => (rintro w0 ⟨sa, sb, sc, sd, se⟩; go_simp; try with_reducible rfl)
    try simp only [Act.put, List.setIfInBounds_toArray, List.set_cons_zero, List.set_cons_succ]
    refine wpAnyH_take (i := 22) (oi := ⟨some 53, _, _, _, _, _⟩) (v := undef) rfl (by kernel_rfl) (by kernel_rfl) (by kernel_rfl) (fun _ _ _ h => h) (Or.inr ⟨by rfl, rfl⟩) (by assumption) ?_
    try simp only [Act.put, List.setIfInBounds_toArray, List.set_cons_zero, List.set_cons_succ]
    refine wpAnyH_take (i := 23) (oi := ⟨some 54, _, _, _, _, _⟩) (v := undef) rfl (by kernel_rfl) (by kernel_rfl) (by kernel_rfl) (fun _ _ _ h => h) (Or.inr ⟨by rfl, rfl⟩) (by assumption) ?_
    try simp only [Act.put, List.setIfInBounds_toArray, List.set_cons_zero, List.set_cons_succ]
    refine wpAnyH_take (i := 24) (oi := ⟨some 55, _, _, _, _, _⟩) (v := undef) rfl (by kernel_rfl) (by kernel_rfl) (by kernel_rfl) (fun _ _ _ h => h) (Or.inr ⟨by rfl, rfl⟩) (by assumption) ?_
    try simp only [Act.put, List.setIfInBounds_toArray, List.set_cons_zero, List.set_cons_succ]
    refine wpAnyH_take (i := 25) (oi := ⟨some 56, _, _, _, _, _⟩) (v := undef) rfl (by kernel_rfl) (by kernel_rfl) (by kernel_rfl) (fun _ _ _ h => h) (Or.inr ⟨by rfl, rfl⟩) (by assumption) ?_
    try simp only [Act.put, List.setIfInBounds_toArray, List.set_cons_zero, List.set_cons_succ]
    refine wpAnyH_take (i := 26) (oi := ⟨some 57, _, _, _, _, _⟩) (v := ?v26) rfl (by kernel_rfl) (by kernel_rfl) (by kernel_rfl) (fun _ _ _ h => h) (Or.inl ⟨by rfl, ?y26⟩) (by assumption) ?r26
    case y26 => (rintro w0 ⟨sa, sb, sc, sd, se⟩; go_simp; try with_reducible rfl)
    try simp only [Act.put, List.setIfInBounds_toArray, List.set_cons_zero, List.set_cons_succ]
    refine wpAnyH_take (i := 27) (oi := ⟨some 58, _, _, _, _, _⟩) (v := ?v27) rfl (by kernel_rfl) (by kernel_rfl) (by kernel_rfl) (fun _ _ _ h => h) (Or.inl ⟨by rfl, ?y27⟩) (by assumption) ?r27
    case y27 => (rintro w0 ⟨sa, sb, sc, sd, se⟩; go_simp; try with_reducible rfl)
    try simp only [Act.put, List.setIfInBounds_toArray, List.set_cons_zero, List.set_cons_succ]
    refine wpAnyH_take (i := 28) (oi := ⟨some 59, _, _, _, _, _⟩) (v := undef) rfl (by kernel_rfl) (by kernel_rfl) (by kernel_rfl) (fun _ _ _ h => h) (Or.inr ⟨by rfl, rfl⟩) (by assumption) ?_
    try simp only [Act.put, List.setIfInBounds_toArray, List.set_cons_zero, List.set_cons_succ]
    refine wpAnyH_take (i := 29) (oi := ⟨some 60, _, _, _, _, _⟩) (v := undef) rfl (by kernel_rfl) (by kernel_rfl) (by kernel_rfl) (fun _ _ _ h => h) (Or.inr ⟨by rfl, rfl⟩) (by assumption) ?_
    try simp only [Act.put, List.setIfInBounds_toArray, List.set_cons_zero, List.set_cons_succ]
    refine wpAnyH_take (i := 30) (oi := ⟨some 61, _, _, _, _, _⟩) (v := ?v30) rfl (by kernel_rfl) (by kernel_rfl) (by kernel_rfl) (fun _ _ _ h => h) (Or.inl ⟨by rfl, ?y30⟩) (by assumption) ?r30
    case y30 => (rintro w0 ⟨sa, sb, sc, sd, se⟩; go_simp; try with_reducible rfl)
    try simp only [Act.put, List.setIfInBounds_toArray, List.set_cons_zero, List.set_cons_succ]
    refine wpAnyH_take (i := 31) (oi := ⟨some 62, _, _, _, _, _⟩) (v := ?v31) rfl (by kernel_rfl) (by kernel_rfl) (by kernel_rfl) (fun _ _ _ h => h) (Or.inl ⟨by rfl, ?y31⟩) (by assumption) ?r31
    case y31 => (rintro w0 ⟨sa, sb, sc, sd, se⟩; go_simp; try with_reducible rfl)
    try simp only [Act.put, List.setIfInBounds_toArray, List.set_cons_zero, List.set_cons_succ]
    refine wpAnyH_take (i := 32) (oi := ⟨some 63, _, _, _, _, _⟩) (v := undef) rfl (by kernel_rfl) (by kernel_rfl) (by kernel_rfl) (fun _ _ _ h => h) (Or.inr ⟨by rfl, rfl⟩) (by assumption) ?_
    try simp only [Act.put, List.setIfInBounds_toArray, List.set_cons_zero, List.set_cons_succ]
    refine wpAnyH_take (i := 33) (oi := ⟨some 64, _, _, _, _, _⟩) (v := undef) rfl (by kernel_rfl) (by kernel_rfl) (by kernel_rfl) (fun _ _ _ h => h) (Or.inr ⟨by rfl, rfl⟩) (by assumption) ?_
    try simp only [Act.put, List.setIfInBounds_toArray, List.set_cons_zero, List.set_cons_succ]
    refine wpAnyH_take (i := 34) (oi := ⟨some 65, _, _, _, _, _⟩) (v := ?v34) rfl (by kernel_rfl) (by kernel_rfl) (by kernel_rfl) (fun _ _ _ h => h) (Or.inl ⟨by rfl, ?y34⟩) (by assumption) ?r34
    case y34 => (rintro w0 ⟨sa, sb, sc, sd, se⟩; go_simp; try with_reducible rfl)
    try simp only [Act.put, List.setIfInBounds_toArray, List.set_cons_zero, List.set_cons_succ]
    refine wpAnyH_ready (rs := [35]) (by kernel_rfl) (by simp) ?_
    refine AllReadyH.cons (o := ⟨none, _, _, _, _, _⟩) rfl (fun K1 hK1 => ?_) ?_
    · rw [if_pos (by rfl)]
      have HTS : tv.toArray.size = 13 := HTL.out.1
      have hq := World.rangeAt_setCells_same W0 (w.heap.size + 1) 0 tv (by rw [HTL.out.1]; exact hHeld.2.2.2.2)
      refine wp_store_mid _ _ _ rfl (w.heap.size + 1) 0 tv.toArray rfl rfl (by rw [HTS]; exact hHeld.2.2.2.2) (by rw [HTS, ← HTL.out.1]; exact HTL.out.2) HTO.out ?_
      refine hK1.out _ _ (hHeld.store mz) (fun hHeld => ?_)
      clear hK1 K1
      try simp only [Act.put]
      refine wpAnyH_take (i := 36) (oi := ⟨some 13, _, _, _, _, _⟩) (v := ?v35) rfl (by kernel_rfl) (by kernel_rfl) (by kernel_rfl) (fun _ _ _ h => h) (Or.inl ⟨by rfl, ?y35⟩) (by assumption) ?r35
      case y35 => (rintro w0 ⟨sa, sb, sc, sd, se⟩; go_simp; try with_reducible rfl)
      try simp only [Act.put, List.setIfInBounds_toArray, List.set_cons_zero, List.set_cons_succ]
      refine wpAnyH_done (by kernel_rfl) ?_ _
      have q0 := Lib.hid hq
      clear hq
      go_wp2
      refine bodyPost_ret (v := .tuple #[tradeOf (some ⟨b, 0, none⟩) B ⟨sq, p, s, y, left, a, d⟩ taker to want most, .bool false]) ?_ rfl ⟨rfl, hHeld.1⟩
      have q : ∀ j v, ([.pointer (some ⟨b, 0, none⟩), .pointer B, .int .u64 sq, .int .u8 p, .int .u8 s, .int .u8 y, .int .i64 left, .int .i64 a, .int .i64 d, .int .u8 taker, .int .u8 to, .int .i64 want, .int .i64 most] : List Value)[j]? = some v → (W0.setCells (w.heap.size + 1) 0 tv).cell? ⟨w.heap.size + 1, j, none⟩ = some v := fun j v hv => by have := q0.out j v (by rw [HTV.out]; exact hv); rwa [Nat.zero_add] at this
      have r0 : (W0.setCells (w.heap.size + 1) 0 tv).cell? ⟨w.heap.size + 1, 0, none⟩ = some (.pointer (some ⟨b, 0, none⟩)) := q 0 _ rfl
      have r1 : (W0.setCells (w.heap.size + 1) 0 tv).cell? ⟨w.heap.size + 1, 1, none⟩ = some (.pointer B) := q 1 _ rfl
      have r2 : (W0.setCells (w.heap.size + 1) 0 tv).cell? ⟨w.heap.size + 1, 2, none⟩ = some (.int .u64 sq) := q 2 _ rfl
      have r3 : (W0.setCells (w.heap.size + 1) 0 tv).cell? ⟨w.heap.size + 1, 3, none⟩ = some (.int .u8 p) := q 3 _ rfl
      have r4 : (W0.setCells (w.heap.size + 1) 0 tv).cell? ⟨w.heap.size + 1, 4, none⟩ = some (.int .u8 s) := q 4 _ rfl
      have r5 : (W0.setCells (w.heap.size + 1) 0 tv).cell? ⟨w.heap.size + 1, 5, none⟩ = some (.int .u8 y) := q 5 _ rfl
      have r6 : (W0.setCells (w.heap.size + 1) 0 tv).cell? ⟨w.heap.size + 1, 6, none⟩ = some (.int .i64 left) := q 6 _ rfl
      have r7 : (W0.setCells (w.heap.size + 1) 0 tv).cell? ⟨w.heap.size + 1, 7, none⟩ = some (.int .i64 a) := q 7 _ rfl
      have r8 : (W0.setCells (w.heap.size + 1) 0 tv).cell? ⟨w.heap.size + 1, 8, none⟩ = some (.int .i64 d) := q 8 _ rfl
      have r9 : (W0.setCells (w.heap.size + 1) 0 tv).cell? ⟨w.heap.size + 1, 9, none⟩ = some (.int .u8 taker) := q 9 _ rfl
      have r10 : (W0.setCells (w.heap.size + 1) 0 tv).cell? ⟨w.heap.size + 1, 10, none⟩ = some (.int .u8 to) := q 10 _ rfl
      have r11 : (W0.setCells (w.heap.size + 1) 0 tv).cell? ⟨w.heap.size + 1, 11, none⟩ = some (.int .i64 want) := q 11 _ rfl
      have r12 : (W0.setCells (w.heap.size + 1) 0 tv).cell? ⟨w.heap.size + 1, 12, none⟩ = some (.int .i64 most) := q 12 _ rfl
      clear q
      simp [results, Try.results21, go_sem, tradeOf, r0, r1, r2, r3, r4, r5, r6, r7, r8, r9, r10, r11, r12]
    exact AllReadyH.nil
  exact AllReadyH.nil

set_option maxHeartbeats 4000000 in
/-- the taker is no member -/
theorem trade_noTaker {w : World} {b m : Nat} {A : Ledger} (h : LedgerAt w b m A) (B : Option Addr) (seq taker to : Nat) (want most : Int) (o : Offer) (hF : ∀ W, Below w.heap.size w W → Calls Try.prog 12 #[.pointer B, .int .u64 seq] W (FindPost W o true))
    (hot : o.owner ≠ taker) (ho : o.owner < 256) (ht : taker < 256) (_hto : to < 256) (h1 : A.has o.owner = true) (h2 : A.has taker = false) :
    Calls Try.prog 21 #[.agg #[.pointer (some ⟨b, 0, none⟩), .pointer B], .int .u64 seq, .int .u8 taker, .int .u8 to, .int .i64 want, .int .i64 most] w (TradePost w (tradeOf (some ⟨b, 0, none⟩) B o taker to want most) false) := by
  have HF := Lib.hid hF; clear hF
  have H1 := Lib.hid h1; clear h1
  have H2 := Lib.hid h2; clear h2
  have hb := h.lt
  obtain ⟨sq, p, s, y, left, a, d⟩ := o
  try dsimp only at *
  have hne : ((p : Int) != taker) = true := by rw [bne_iff_ne]; omega
  go_enter Try.func21, Try.ntmps21
  go_wp2_with (go_at_call 12; refine (HF.out _ (by repeat (first | with_reducible exact Below.refl _ _ | with_reducible assumption | refine Below.drew ?_ | refine Below.setCell ?_ (by first | exact Nat.le_refl _ | omega | (simp; done) | (simp; omega)) _ | refine Below.alloc ?_ (by first | exact Nat.le_refl _ | omega | (simp; done) | (simp; omega)) _ | refine Below.tr ?_ (Nat.le_refl _) (by assumption) | exact Below.refl _ _ | assumption))).mono ?_; rintro e w1 ⟨rfl, hb1⟩; obtain ⟨m0, m1, mz⟩ := two_blocks hb1; obtain ⟨c0, c1⟩ := houseMem m0; have M1 := Lib.hid m1; obtain ⟨zc, zf⟩ := tradeMem m1; have hB1 : Below w.heap.size w w1 := (by repeat (first | with_reducible exact Below.refl _ _ | with_reducible assumption | refine Below.drew ?_ | refine Below.setCell ?_ (by first | exact Nat.le_refl _ | omega | (simp; done) | (simp; omega)) _ | refine Below.alloc ?_ (by first | exact Nat.le_refl _ | omega | (simp; done) | (simp; omega)) _ | refine Below.tr ?_ (Nat.le_refl _) (by assumption) | exact Below.refl _ _ | assumption)); have s0 : w.heap.size < w1.heap.size := (by omega); have s1 : w.heap.size < w1.heap.size + 1 := (by omega); have s2 : w.heap.size + 1 < w1.heap.size := (by omega); have s3 : w.heap.size + 1 < w1.heap.size + 1 := (by omega); have s4 : w.heap.size < w1.heap.size + 2 := (by omega); have s5 : w.heap.size + 1 < w1.heap.size + 2 := (by omega); clear m0 m1 zc zf; simp only [Offer.val])
  obtain ⟨tv, htv⟩ : ∃ tv : List Value, tv = [.pointer (some ⟨b, 0, none⟩), .pointer B, .int .u64 sq, .int .u8 p, .int .u8 s, .int .u8 y, .int .i64 left, .int .i64 a, .int .i64 d, .int .u8 taker, .int .u8 to, .int .i64 want, .int .i64 most] := ⟨_, rfl⟩
  have HTL := Lib.hid (show tv.length = 13 ∧ ((Try.prog).info? 70).map (·.size) = some tv.length by subst htv; exact ⟨rfl, infoTrade⟩)
  have HTO := Lib.hid (show tv.toArray.all (·.oneCell') = true by subst htv; simp [Value.oneCell'])
  refine wp_region_held_drew (S := TradeHold w w1 (some ⟨b, 0, none⟩) p tv) (by kernel_rfl) ?_ (fun hHeld => ?_)
  · obtain ⟨r1, r2⟩ := allocs2 (w1 := w1) [.int .u64 sq, .int .u8 p, .int .u8 s, .int .u8 y, .int .i64 left, .int .i64 a, .int .i64 d] tv 57 70
    rw [htv] at *
    refine ⟨(by repeat (first | with_reducible exact Below.refl _ _ | with_reducible assumption | refine Below.drew ?_ | refine Below.setCell ?_ (by first | exact Nat.le_refl _ | omega | (simp; done) | (simp; omega)) _ | refine Below.alloc ?_ (by first | exact Nat.le_refl _ | omega | (simp; done) | (simp; omega)) _ | refine Below.tr ?_ (Nat.le_refl _) (by assumption) | exact Below.refl _ _ | assumption)), ?_, r1 1 _ rfl, r2, ?_⟩
    · simp [c0, World.cell?_alloc_some]
    · rw [World.there_drew]; exact World.there_alloc (World.there_alloc (thereTrade M1.out) _) _
  have HTV := Lib.hid htv
  clear htv
  revert hHeld
  generalize World.drew _ = W0
  intro hHeld
  refine wpAnyH_take (i := 0) (oi := ⟨some 31, _, _, _, _, _⟩) (v := .agg tv.toArray) rfl (by kernel_rfl) (by kernel_rfl) (by kernel_rfl) (fun _ _ _ h => h) (yieldsIf_load_mid (by rfl) _ _ rfl (w1.heap.size + 1) 0 rfl tv _ (fun _ hw => hw.2.2.2.1) Try.underlying70 rfl HTL.out.2) (by assumption) ?_
  try simp only [Act.put, List.setIfInBounds_toArray, List.set_cons_zero, List.set_cons_succ]
  refine wpAnyH_take (i := 1) (oi := ⟨some 32, _, _, _, _, _⟩) (v := ?v2) rfl (by kernel_rfl) (by kernel_rfl) (by kernel_rfl) (fun _ _ _ h => h) (Or.inl ⟨by rfl, ?y2⟩) (by assumption) ?r2
  case y2 => (rintro w0 ⟨sa, sb, sc, sd, se⟩; go_simp; try with_reducible rfl)
  try simp only [Act.put, List.setIfInBounds_toArray, List.set_cons_zero, List.set_cons_succ]
  refine wpAnyH_take (i := 2) (oi := ⟨some 33, _, _, _, _, _⟩) (v := ?v3) rfl (by kernel_rfl) (by kernel_rfl) (by kernel_rfl) (fun _ _ _ h => h) (Or.inl ⟨by rfl, ?y3⟩) (by assumption) ?r3
  case y3 => (rintro w0 ⟨sa, sb, sc, sd, se⟩; go_simp; try with_reducible rfl)
  try simp only [Act.put, List.setIfInBounds_toArray, List.set_cons_zero, List.set_cons_succ]
  refine wpAnyH_take (i := 3) (oi := ⟨some 34, _, _, _, _, _⟩) (v := ?v4) rfl (by kernel_rfl) (by kernel_rfl) (by kernel_rfl) (fun _ _ _ h => h) (Or.inl ⟨by rfl, ?y4⟩) (by assumption) ?r4
  case y4 => (rintro w0 ⟨sa, sb, sc, sd, se⟩; go_simp; try with_reducible rfl)
  try simp only [Act.put, List.setIfInBounds_toArray, List.set_cons_zero, List.set_cons_succ]
  refine wpAnyH_take (i := 4) (oi := ⟨some 35, _, _, _, _, _⟩) (v := ?v5) rfl (by kernel_rfl) (by kernel_rfl) (by kernel_rfl) (fun _ _ _ h => h) (Or.inl ⟨by rfl, ?y5⟩) (by assumption) ?r5
  case y5 => (rintro w0 ⟨sa, sb, sc, sd, se⟩; go_simp; try with_reducible rfl)
  try simp only [Act.put, List.setIfInBounds_toArray, List.set_cons_zero, List.set_cons_succ]
  refine wpAnyH_take (i := 5) (oi := ⟨some 36, _, _, _, _, _⟩) (v := ?v6) rfl (by kernel_rfl) (by kernel_rfl) (by kernel_rfl) (fun _ _ _ h => h) (Or.inl ⟨by rfl, ?y6⟩) (by assumption) ?r6
  case y6 => (rintro w0 ⟨sa, sb, sc, sd, se⟩; go_simp; try with_reducible rfl)
  try simp only [Act.put, List.setIfInBounds_toArray, List.set_cons_zero, List.set_cons_succ]
  refine wpAnyH_take (i := 6) (oi := ⟨some 37, _, _, _, _, _⟩) (v := ?v7) rfl (by kernel_rfl) (by kernel_rfl) (by kernel_rfl) (fun _ _ _ h => h) (Or.inl ⟨by rfl, ?y7⟩) (by assumption) ?r7
  case y7 => (rintro w0 ⟨sa, sb, sc, sd, se⟩; go_simp; try with_reducible rfl)
  try simp only [Act.put, List.setIfInBounds_toArray, List.set_cons_zero, List.set_cons_succ]
  refine wpAnyH_take (i := 7) (oi := ⟨some 38, _, _, _, _, _⟩) (v := ?v8) rfl (by kernel_rfl) (by kernel_rfl) (by kernel_rfl) (fun _ _ _ h => h) (Or.inl ⟨by rfl, ?y8⟩) (by assumption) ?r8
  case y8 => (rintro w0 ⟨sa, sb, sc, sd, se⟩; go_simp; try with_reducible rfl)
  try simp only [Act.put, List.setIfInBounds_toArray, List.set_cons_zero, List.set_cons_succ]
  refine wpAnyH_take (i := 8) (oi := ⟨some 39, _, _, _, _, _⟩) (v := ?v9) rfl (by kernel_rfl) (by kernel_rfl) (by kernel_rfl) (fun _ _ _ h => h) (Or.inl ⟨by rfl, ?y9⟩) (by assumption) ?r9
  case y9 => (rintro w0 ⟨sa, sb, sc, sd, se⟩; go_simp; try with_reducible rfl)
  try simp only [Act.put, List.setIfInBounds_toArray, List.set_cons_zero, List.set_cons_succ]
  refine wpAnyH_take (i := 9) (oi := ⟨some 40, _, _, _, _, _⟩) (v := ?v10) rfl (by kernel_rfl) (by kernel_rfl) (by kernel_rfl) (fun _ _ _ h => h) (Or.inl ⟨by rfl, ?y10⟩) (by assumption) ?r10
  case y10 => (rintro w0 ⟨sa, sb, sc, sd, se⟩; go_simp; try with_reducible rfl)
  try simp only [Act.put, List.setIfInBounds_toArray, List.set_cons_zero, List.set_cons_succ]
  refine wpAnyH_take (i := 10) (oi := ⟨some 41, _, _, _, _, _⟩) (v := ?v11) rfl (by kernel_rfl) (by kernel_rfl) (by kernel_rfl) (fun _ _ _ h => h) (Or.inl ⟨by rfl, ?y11⟩) (by assumption) ?r11
  case y11 => (rintro w0 ⟨sa, sb, sc, sd, se⟩; go_simp; try with_reducible rfl)
  try simp only [Act.put, List.setIfInBounds_toArray, List.set_cons_zero, List.set_cons_succ]
  refine wpAnyH_take (i := 11) (oi := ⟨some 42, _, _, _, _, _⟩) (v := ?v12) rfl (by kernel_rfl) (by kernel_rfl) (by kernel_rfl) (fun _ _ _ h => h) (Or.inl ⟨by rfl, ?y12⟩) (by assumption) ?r12
  case y12 => (rintro w0 ⟨sa, sb, sc, sd, se⟩; go_simp; try with_reducible rfl)
  try simp only [Act.put, List.setIfInBounds_toArray, List.set_cons_zero, List.set_cons_succ]
  refine wpAnyH_take (i := 12) (oi := ⟨some 43, _, _, _, _, _⟩) (v := ?v13) rfl (by kernel_rfl) (by kernel_rfl) (by kernel_rfl) (fun _ _ _ h => h) (Or.inl ⟨by rfl, ?y13⟩) (by assumption) ?r13
  case y13 => (rintro w0 ⟨sa, sb, sc, sd, se⟩; go_simp; try with_reducible rfl)
  try simp only [Act.put, List.setIfInBounds_toArray, List.set_cons_zero, List.set_cons_succ]
  refine wpAnyH_ready (rs := [13]) (by kernel_rfl) (by simp) ?_
  refine AllReadyH.cons (o := ⟨some 44, _, _, _, _, _⟩) rfl (fun K1 hK1 => ?_) ?_
  · rw [if_pos (by rfl)]
    go_wp2_with (go_at_call 13; refine (has_any (h.below hHeld.1) _ (by omega)).mono ?_; rintro e w' ⟨rfl, rfl⟩; rw [H1.out])
    refine hK1.out _ _ hHeld (fun hHeld => ?_)
    clear hK1 K1
    try simp only [Act.put, List.setIfInBounds_toArray, List.set_cons_zero, List.set_cons_succ]
    refine wpAnyH_take (i := 14) (oi := ⟨some 45, _, _, _, _, _⟩) (v := ?v14) rfl (by kernel_rfl) (by kernel_rfl) (by kernel_rfl) (fun _ _ _ h => h) (Or.inl ⟨by rfl, ?y14⟩) (by assumption) ?r14
    case y14 => (rintro w0 ⟨sa, sb, sc, sd, se⟩; go_simp; try with_reducible rfl)
    try simp only [Act.put, List.setIfInBounds_toArray, List.set_cons_zero, List.set_cons_succ]
    refine wpAnyH_take (i := 15) (oi := ⟨some 46, _, _, _, _, _⟩) (v := ?v15) rfl (by kernel_rfl) (by kernel_rfl) (by kernel_rfl) (fun _ _ _ h => h) (Or.inl ⟨by rfl, ?y15⟩) (by assumption) ?r15
    case y15 => (rintro w0 ⟨sa, sb, sc, sd, se⟩; go_simp; try with_reducible rfl)
    try simp only [Act.put, List.setIfInBounds_toArray, List.set_cons_zero, List.set_cons_succ]
    refine wpAnyH_take (i := 16) (oi := ⟨some 47, _, _, _, _, _⟩) (v := ?v16) rfl (by kernel_rfl) (by kernel_rfl) (by kernel_rfl) (fun _ _ _ h => h) (Or.inl ⟨by rfl, ?y16⟩) (by assumption) ?r16
    case y16 => (rintro w0 ⟨sa, sb, sc, sd, se⟩; go_simp; try with_reducible rfl)
    try simp only [Act.put, List.setIfInBounds_toArray, List.set_cons_zero, List.set_cons_succ]
    refine wpAnyH_take (i := 17) (oi := ⟨some 48, _, _, _, _, _⟩) (v := ?v17) rfl (by kernel_rfl) (by kernel_rfl) (by kernel_rfl) (fun _ _ _ h => h) (Or.inl ⟨by rfl, ?y17⟩) (by assumption) ?r17
    case y17 => (rintro w0 ⟨sa, sb, sc, sd, se⟩; go_simp; try with_reducible rfl)
    try simp only [Act.put, List.setIfInBounds_toArray, List.set_cons_zero, List.set_cons_succ]
    refine wpAnyH_take (i := 18) (oi := ⟨some 49, _, _, _, _, _⟩) (v := ?v18) rfl (by kernel_rfl) (by kernel_rfl) (by kernel_rfl) (fun _ _ _ h => h) (Or.inl ⟨by rfl, ?y18⟩) (by assumption) ?r18
    case y18 => (rintro w0 ⟨sa, sb, sc, sd, se⟩; go_simp; try with_reducible rfl)
    try simp only [Act.put, List.setIfInBounds_toArray, List.set_cons_zero, List.set_cons_succ]
    refine wpAnyH_ready (rs := [19]) (by kernel_rfl) (by simp) ?_
    refine AllReadyH.cons (o := ⟨some 50, _, _, _, _, _⟩) rfl (fun K1 hK1 => ?_) ?_
    · rw [if_pos (by rfl)]
      go_wp2_with (go_at_call 13; refine (has_any (h.below hHeld.1) _ (by omega)).mono ?_; rintro e w' ⟨rfl, rfl⟩; rw [H2.out])
      refine hK1.out _ _ hHeld (fun hHeld => ?_)
      clear hK1 K1
      try simp only [Act.put, List.setIfInBounds_toArray, List.set_cons_zero, List.set_cons_succ]
      refine wpAnyH_take (i := 20) (oi := ⟨some 51, _, _, _, _, _⟩) (v := ?v19) rfl (by kernel_rfl) (by kernel_rfl) (by kernel_rfl) (fun _ _ _ h => h) (Or.inl ⟨by rfl, ?y19⟩) (by assumption) ?r19
      case y19 => (rintro w0 ⟨sa, sb, sc, sd, se⟩; go_simp; try with_reducible rfl)
      try simp only [Act.put, List.setIfInBounds_toArray, List.set_cons_zero, List.set_cons_succ]
      refine wpAnyH_take (i := 21) (oi := ⟨some 52, _, _, _, _, _⟩) (v := ?v20) rfl (by kernel_rfl) (by kernel_rfl) (by kernel_rfl) (fun _ _ _ h => h) (Or.inl ⟨by rfl, ?y20⟩) (by assumption) ?r20
      case y20 => (rintro w0 ⟨sa, sb, sc, sd, se⟩; go_simp; try with_reducible rfl)
      try simp only [Act.put, List.setIfInBounds_toArray, List.set_cons_zero, List.set_cons_succ]
      refine wpAnyH_take (i := 22) (oi := ⟨some 53, _, _, _, _, _⟩) (v := undef) rfl (by kernel_rfl) (by kernel_rfl) (by kernel_rfl) (fun _ _ _ h => h) (Or.inr ⟨by rfl, rfl⟩) (by assumption) ?_
      try simp only [Act.put, List.setIfInBounds_toArray, List.set_cons_zero, List.set_cons_succ]
      refine wpAnyH_take (i := 23) (oi := ⟨some 54, _, _, _, _, _⟩) (v := undef) rfl (by kernel_rfl) (by kernel_rfl) (by kernel_rfl) (fun _ _ _ h => h) (Or.inr ⟨by rfl, rfl⟩) (by assumption) ?_
      try simp only [Act.put, List.setIfInBounds_toArray, List.set_cons_zero, List.set_cons_succ]
      refine wpAnyH_take (i := 24) (oi := ⟨some 55, _, _, _, _, _⟩) (v := undef) rfl (by kernel_rfl) (by kernel_rfl) (by kernel_rfl) (fun _ _ _ h => h) (Or.inr ⟨by rfl, rfl⟩) (by assumption) ?_
      try simp only [Act.put, List.setIfInBounds_toArray, List.set_cons_zero, List.set_cons_succ]
      refine wpAnyH_take (i := 25) (oi := ⟨some 56, _, _, _, _, _⟩) (v := undef) rfl (by kernel_rfl) (by kernel_rfl) (by kernel_rfl) (fun _ _ _ h => h) (Or.inr ⟨by rfl, rfl⟩) (by assumption) ?_
      try simp only [Act.put, List.setIfInBounds_toArray, List.set_cons_zero, List.set_cons_succ]
      refine wpAnyH_take (i := 26) (oi := ⟨some 57, _, _, _, _, _⟩) (v := ?v25) rfl (by kernel_rfl) (by kernel_rfl) (by kernel_rfl) (fun _ _ _ h => h) (Or.inl ⟨by rfl, ?y25⟩) (by assumption) ?r25
      case y25 => (rintro w0 ⟨sa, sb, sc, sd, se⟩; go_simp; try with_reducible rfl)
      try simp only [Act.put, List.setIfInBounds_toArray, List.set_cons_zero, List.set_cons_succ]
      refine wpAnyH_take (i := 27) (oi := ⟨some 58, _, _, _, _, _⟩) (v := ?v26) rfl (by kernel_rfl) (by kernel_rfl) (by kernel_rfl) (fun _ _ _ h => h) (Or.inl ⟨by rfl, ?y26⟩) (by assumption) ?r26
      case y26 => (rintro w0 ⟨sa, sb, sc, sd, se⟩; go_simp; try with_reducible rfl)
      try simp only [Act.put, List.setIfInBounds_toArray, List.set_cons_zero, List.set_cons_succ]
      refine wpAnyH_take (i := 28) (oi := ⟨some 59, _, _, _, _, _⟩) (v := undef) rfl (by kernel_rfl) (by kernel_rfl) (by kernel_rfl) (fun _ _ _ h => h) (Or.inr ⟨by rfl, rfl⟩) (by assumption) ?_
      try simp only [Act.put, List.setIfInBounds_toArray, List.set_cons_zero, List.set_cons_succ]
      refine wpAnyH_take (i := 29) (oi := ⟨some 60, _, _, _, _, _⟩) (v := undef) rfl (by kernel_rfl) (by kernel_rfl) (by kernel_rfl) (fun _ _ _ h => h) (Or.inr ⟨by rfl, rfl⟩) (by assumption) ?_
      try simp only [Act.put, List.setIfInBounds_toArray, List.set_cons_zero, List.set_cons_succ]
      refine wpAnyH_take (i := 30) (oi := ⟨some 61, _, _, _, _, _⟩) (v := ?v29) rfl (by kernel_rfl) (by kernel_rfl) (by kernel_rfl) (fun _ _ _ h => h) (Or.inl ⟨by rfl, ?y29⟩) (by assumption) ?r29
      case y29 => (rintro w0 ⟨sa, sb, sc, sd, se⟩; go_simp; try with_reducible rfl)
      try simp only [Act.put, List.setIfInBounds_toArray, List.set_cons_zero, List.set_cons_succ]
      refine wpAnyH_take (i := 31) (oi := ⟨some 62, _, _, _, _, _⟩) (v := ?v30) rfl (by kernel_rfl) (by kernel_rfl) (by kernel_rfl) (fun _ _ _ h => h) (Or.inl ⟨by rfl, ?y30⟩) (by assumption) ?r30
      case y30 => (rintro w0 ⟨sa, sb, sc, sd, se⟩; go_simp; try with_reducible rfl)
      try simp only [Act.put, List.setIfInBounds_toArray, List.set_cons_zero, List.set_cons_succ]
      refine wpAnyH_take (i := 32) (oi := ⟨some 63, _, _, _, _, _⟩) (v := undef) rfl (by kernel_rfl) (by kernel_rfl) (by kernel_rfl) (fun _ _ _ h => h) (Or.inr ⟨by rfl, rfl⟩) (by assumption) ?_
      try simp only [Act.put, List.setIfInBounds_toArray, List.set_cons_zero, List.set_cons_succ]
      refine wpAnyH_take (i := 33) (oi := ⟨some 64, _, _, _, _, _⟩) (v := undef) rfl (by kernel_rfl) (by kernel_rfl) (by kernel_rfl) (fun _ _ _ h => h) (Or.inr ⟨by rfl, rfl⟩) (by assumption) ?_
      try simp only [Act.put, List.setIfInBounds_toArray, List.set_cons_zero, List.set_cons_succ]
      refine wpAnyH_take (i := 34) (oi := ⟨some 65, _, _, _, _, _⟩) (v := ?v33) rfl (by kernel_rfl) (by kernel_rfl) (by kernel_rfl) (fun _ _ _ h => h) (Or.inl ⟨by rfl, ?y33⟩) (by assumption) ?r33
      case y33 => (rintro w0 ⟨sa, sb, sc, sd, se⟩; go_simp; try with_reducible rfl)
      try simp only [Act.put, List.setIfInBounds_toArray, List.set_cons_zero, List.set_cons_succ]
      refine wpAnyH_ready (rs := [35]) (by kernel_rfl) (by simp) ?_
      refine AllReadyH.cons (o := ⟨none, _, _, _, _, _⟩) rfl (fun K1 hK1 => ?_) ?_
      · rw [if_pos (by rfl)]
        have HTS : tv.toArray.size = 13 := HTL.out.1
        have hq := World.rangeAt_setCells_same W0 (w.heap.size + 1) 0 tv (by rw [HTL.out.1]; exact hHeld.2.2.2.2)
        refine wp_store_mid _ _ _ rfl (w.heap.size + 1) 0 tv.toArray rfl rfl (by rw [HTS]; exact hHeld.2.2.2.2) (by rw [HTS, ← HTL.out.1]; exact HTL.out.2) HTO.out ?_
        refine hK1.out _ _ (hHeld.store mz) (fun hHeld => ?_)
        clear hK1 K1
        try simp only [Act.put]
        refine wpAnyH_take (i := 36) (oi := ⟨some 13, _, _, _, _, _⟩) (v := ?v34) rfl (by kernel_rfl) (by kernel_rfl) (by kernel_rfl) (fun _ _ _ h => h) (Or.inl ⟨by rfl, ?y34⟩) (by assumption) ?r34
        case y34 => (rintro w0 ⟨sa, sb, sc, sd, se⟩; go_simp; try with_reducible rfl)
        try simp only [Act.put, List.setIfInBounds_toArray, List.set_cons_zero, List.set_cons_succ]
        refine wpAnyH_done (by kernel_rfl) ?_ _
        have q0 := Lib.hid hq
        clear hq
        go_wp2
        refine bodyPost_ret (v := .tuple #[tradeOf (some ⟨b, 0, none⟩) B ⟨sq, p, s, y, left, a, d⟩ taker to want most, .bool false]) ?_ rfl ⟨rfl, hHeld.1⟩
        have q : ∀ j v, ([.pointer (some ⟨b, 0, none⟩), .pointer B, .int .u64 sq, .int .u8 p, .int .u8 s, .int .u8 y, .int .i64 left, .int .i64 a, .int .i64 d, .int .u8 taker, .int .u8 to, .int .i64 want, .int .i64 most] : List Value)[j]? = some v → (W0.setCells (w.heap.size + 1) 0 tv).cell? ⟨w.heap.size + 1, j, none⟩ = some v := fun j v hv => by have := q0.out j v (by rw [HTV.out]; exact hv); rwa [Nat.zero_add] at this
        have r0 : (W0.setCells (w.heap.size + 1) 0 tv).cell? ⟨w.heap.size + 1, 0, none⟩ = some (.pointer (some ⟨b, 0, none⟩)) := q 0 _ rfl
        have r1 : (W0.setCells (w.heap.size + 1) 0 tv).cell? ⟨w.heap.size + 1, 1, none⟩ = some (.pointer B) := q 1 _ rfl
        have r2 : (W0.setCells (w.heap.size + 1) 0 tv).cell? ⟨w.heap.size + 1, 2, none⟩ = some (.int .u64 sq) := q 2 _ rfl
        have r3 : (W0.setCells (w.heap.size + 1) 0 tv).cell? ⟨w.heap.size + 1, 3, none⟩ = some (.int .u8 p) := q 3 _ rfl
        have r4 : (W0.setCells (w.heap.size + 1) 0 tv).cell? ⟨w.heap.size + 1, 4, none⟩ = some (.int .u8 s) := q 4 _ rfl
        have r5 : (W0.setCells (w.heap.size + 1) 0 tv).cell? ⟨w.heap.size + 1, 5, none⟩ = some (.int .u8 y) := q 5 _ rfl
        have r6 : (W0.setCells (w.heap.size + 1) 0 tv).cell? ⟨w.heap.size + 1, 6, none⟩ = some (.int .i64 left) := q 6 _ rfl
        have r7 : (W0.setCells (w.heap.size + 1) 0 tv).cell? ⟨w.heap.size + 1, 7, none⟩ = some (.int .i64 a) := q 7 _ rfl
        have r8 : (W0.setCells (w.heap.size + 1) 0 tv).cell? ⟨w.heap.size + 1, 8, none⟩ = some (.int .i64 d) := q 8 _ rfl
        have r9 : (W0.setCells (w.heap.size + 1) 0 tv).cell? ⟨w.heap.size + 1, 9, none⟩ = some (.int .u8 taker) := q 9 _ rfl
        have r10 : (W0.setCells (w.heap.size + 1) 0 tv).cell? ⟨w.heap.size + 1, 10, none⟩ = some (.int .u8 to) := q 10 _ rfl
        have r11 : (W0.setCells (w.heap.size + 1) 0 tv).cell? ⟨w.heap.size + 1, 11, none⟩ = some (.int .i64 want) := q 11 _ rfl
        have r12 : (W0.setCells (w.heap.size + 1) 0 tv).cell? ⟨w.heap.size + 1, 12, none⟩ = some (.int .i64 most) := q 12 _ rfl
        clear q
        simp [results, Try.results21, go_sem, tradeOf, r0, r1, r2, r3, r4, r5, r6, r7, r8, r9, r10, r11, r12]
      exact AllReadyH.nil
    exact AllReadyH.nil
  exact AllReadyH.nil

set_option maxHeartbeats 4000000 in
/-- that one is no member -/
theorem trade_noTo {w : World} {b m : Nat} {A : Ledger} (h : LedgerAt w b m A) (B : Option Addr) (seq taker to : Nat) (want most : Int) (o : Offer) (hF : ∀ W, Below w.heap.size w W → Calls Try.prog 12 #[.pointer B, .int .u64 seq] W (FindPost W o true))
    (hot : o.owner ≠ taker) (ho : o.owner < 256) (ht : taker < 256) (hto : to < 256) (h1 : A.has o.owner = true) (h2 : A.has taker = true) (h3 : A.has to = false) :
    Calls Try.prog 21 #[.agg #[.pointer (some ⟨b, 0, none⟩), .pointer B], .int .u64 seq, .int .u8 taker, .int .u8 to, .int .i64 want, .int .i64 most] w (TradePost w (tradeOf (some ⟨b, 0, none⟩) B o taker to want most) false) := by
  have HF := Lib.hid hF; clear hF
  have H1 := Lib.hid h1; clear h1
  have H2 := Lib.hid h2; clear h2
  have H3 := Lib.hid h3; clear h3
  have hb := h.lt
  obtain ⟨sq, p, s, y, left, a, d⟩ := o
  try dsimp only at *
  have hne : ((p : Int) != taker) = true := by rw [bne_iff_ne]; omega
  go_enter Try.func21, Try.ntmps21
  go_wp2_with (go_at_call 12; refine (HF.out _ (by repeat (first | with_reducible exact Below.refl _ _ | with_reducible assumption | refine Below.drew ?_ | refine Below.setCell ?_ (by first | exact Nat.le_refl _ | omega | (simp; done) | (simp; omega)) _ | refine Below.alloc ?_ (by first | exact Nat.le_refl _ | omega | (simp; done) | (simp; omega)) _ | refine Below.tr ?_ (Nat.le_refl _) (by assumption) | exact Below.refl _ _ | assumption))).mono ?_; rintro e w1 ⟨rfl, hb1⟩; obtain ⟨m0, m1, mz⟩ := two_blocks hb1; obtain ⟨c0, c1⟩ := houseMem m0; have M1 := Lib.hid m1; obtain ⟨zc, zf⟩ := tradeMem m1; have hB1 : Below w.heap.size w w1 := (by repeat (first | with_reducible exact Below.refl _ _ | with_reducible assumption | refine Below.drew ?_ | refine Below.setCell ?_ (by first | exact Nat.le_refl _ | omega | (simp; done) | (simp; omega)) _ | refine Below.alloc ?_ (by first | exact Nat.le_refl _ | omega | (simp; done) | (simp; omega)) _ | refine Below.tr ?_ (Nat.le_refl _) (by assumption) | exact Below.refl _ _ | assumption)); have s0 : w.heap.size < w1.heap.size := (by omega); have s1 : w.heap.size < w1.heap.size + 1 := (by omega); have s2 : w.heap.size + 1 < w1.heap.size := (by omega); have s3 : w.heap.size + 1 < w1.heap.size + 1 := (by omega); have s4 : w.heap.size < w1.heap.size + 2 := (by omega); have s5 : w.heap.size + 1 < w1.heap.size + 2 := (by omega); clear m0 m1 zc zf; simp only [Offer.val])
  obtain ⟨tv, htv⟩ : ∃ tv : List Value, tv = [.pointer (some ⟨b, 0, none⟩), .pointer B, .int .u64 sq, .int .u8 p, .int .u8 s, .int .u8 y, .int .i64 left, .int .i64 a, .int .i64 d, .int .u8 taker, .int .u8 to, .int .i64 want, .int .i64 most] := ⟨_, rfl⟩
  have HTL := Lib.hid (show tv.length = 13 ∧ ((Try.prog).info? 70).map (·.size) = some tv.length by subst htv; exact ⟨rfl, infoTrade⟩)
  have HTO := Lib.hid (show tv.toArray.all (·.oneCell') = true by subst htv; simp [Value.oneCell'])
  refine wp_region_held_drew (S := TradeHold w w1 (some ⟨b, 0, none⟩) p tv) (by kernel_rfl) ?_ (fun hHeld => ?_)
  · obtain ⟨r1, r2⟩ := allocs2 (w1 := w1) [.int .u64 sq, .int .u8 p, .int .u8 s, .int .u8 y, .int .i64 left, .int .i64 a, .int .i64 d] tv 57 70
    rw [htv] at *
    refine ⟨(by repeat (first | with_reducible exact Below.refl _ _ | with_reducible assumption | refine Below.drew ?_ | refine Below.setCell ?_ (by first | exact Nat.le_refl _ | omega | (simp; done) | (simp; omega)) _ | refine Below.alloc ?_ (by first | exact Nat.le_refl _ | omega | (simp; done) | (simp; omega)) _ | refine Below.tr ?_ (Nat.le_refl _) (by assumption) | exact Below.refl _ _ | assumption)), ?_, r1 1 _ rfl, r2, ?_⟩
    · simp [c0, World.cell?_alloc_some]
    · rw [World.there_drew]; exact World.there_alloc (World.there_alloc (thereTrade M1.out) _) _
  have HTV := Lib.hid htv
  clear htv
  revert hHeld
  generalize World.drew _ = W0
  intro hHeld
  refine wpAnyH_take (i := 0) (oi := ⟨some 31, _, _, _, _, _⟩) (v := .agg tv.toArray) rfl (by kernel_rfl) (by kernel_rfl) (by kernel_rfl) (fun _ _ _ h => h) (yieldsIf_load_mid (by rfl) _ _ rfl (w1.heap.size + 1) 0 rfl tv _ (fun _ hw => hw.2.2.2.1) Try.underlying70 rfl HTL.out.2) (by assumption) ?_
  try simp only [Act.put, List.setIfInBounds_toArray, List.set_cons_zero, List.set_cons_succ]
  refine wpAnyH_take (i := 1) (oi := ⟨some 32, _, _, _, _, _⟩) (v := ?v2) rfl (by kernel_rfl) (by kernel_rfl) (by kernel_rfl) (fun _ _ _ h => h) (Or.inl ⟨by rfl, ?y2⟩) (by assumption) ?r2
  case y2 => (rintro w0 ⟨sa, sb, sc, sd, se⟩; go_simp; try with_reducible rfl)
  try simp only [Act.put, List.setIfInBounds_toArray, List.set_cons_zero, List.set_cons_succ]
  refine wpAnyH_take (i := 2) (oi := ⟨some 33, _, _, _, _, _⟩) (v := ?v3) rfl (by kernel_rfl) (by kernel_rfl) (by kernel_rfl) (fun _ _ _ h => h) (Or.inl ⟨by rfl, ?y3⟩) (by assumption) ?r3
  case y3 => (rintro w0 ⟨sa, sb, sc, sd, se⟩; go_simp; try with_reducible rfl)
  try simp only [Act.put, List.setIfInBounds_toArray, List.set_cons_zero, List.set_cons_succ]
  refine wpAnyH_take (i := 3) (oi := ⟨some 34, _, _, _, _, _⟩) (v := ?v4) rfl (by kernel_rfl) (by kernel_rfl) (by kernel_rfl) (fun _ _ _ h => h) (Or.inl ⟨by rfl, ?y4⟩) (by assumption) ?r4
  case y4 => (rintro w0 ⟨sa, sb, sc, sd, se⟩; go_simp; try with_reducible rfl)
  try simp only [Act.put, List.setIfInBounds_toArray, List.set_cons_zero, List.set_cons_succ]
  refine wpAnyH_take (i := 4) (oi := ⟨some 35, _, _, _, _, _⟩) (v := ?v5) rfl (by kernel_rfl) (by kernel_rfl) (by kernel_rfl) (fun _ _ _ h => h) (Or.inl ⟨by rfl, ?y5⟩) (by assumption) ?r5
  case y5 => (rintro w0 ⟨sa, sb, sc, sd, se⟩; go_simp; try with_reducible rfl)
  try simp only [Act.put, List.setIfInBounds_toArray, List.set_cons_zero, List.set_cons_succ]
  refine wpAnyH_take (i := 5) (oi := ⟨some 36, _, _, _, _, _⟩) (v := ?v6) rfl (by kernel_rfl) (by kernel_rfl) (by kernel_rfl) (fun _ _ _ h => h) (Or.inl ⟨by rfl, ?y6⟩) (by assumption) ?r6
  case y6 => (rintro w0 ⟨sa, sb, sc, sd, se⟩; go_simp; try with_reducible rfl)
  try simp only [Act.put, List.setIfInBounds_toArray, List.set_cons_zero, List.set_cons_succ]
  refine wpAnyH_take (i := 6) (oi := ⟨some 37, _, _, _, _, _⟩) (v := ?v7) rfl (by kernel_rfl) (by kernel_rfl) (by kernel_rfl) (fun _ _ _ h => h) (Or.inl ⟨by rfl, ?y7⟩) (by assumption) ?r7
  case y7 => (rintro w0 ⟨sa, sb, sc, sd, se⟩; go_simp; try with_reducible rfl)
  try simp only [Act.put, List.setIfInBounds_toArray, List.set_cons_zero, List.set_cons_succ]
  refine wpAnyH_take (i := 7) (oi := ⟨some 38, _, _, _, _, _⟩) (v := ?v8) rfl (by kernel_rfl) (by kernel_rfl) (by kernel_rfl) (fun _ _ _ h => h) (Or.inl ⟨by rfl, ?y8⟩) (by assumption) ?r8
  case y8 => (rintro w0 ⟨sa, sb, sc, sd, se⟩; go_simp; try with_reducible rfl)
  try simp only [Act.put, List.setIfInBounds_toArray, List.set_cons_zero, List.set_cons_succ]
  refine wpAnyH_take (i := 8) (oi := ⟨some 39, _, _, _, _, _⟩) (v := ?v9) rfl (by kernel_rfl) (by kernel_rfl) (by kernel_rfl) (fun _ _ _ h => h) (Or.inl ⟨by rfl, ?y9⟩) (by assumption) ?r9
  case y9 => (rintro w0 ⟨sa, sb, sc, sd, se⟩; go_simp; try with_reducible rfl)
  try simp only [Act.put, List.setIfInBounds_toArray, List.set_cons_zero, List.set_cons_succ]
  refine wpAnyH_take (i := 9) (oi := ⟨some 40, _, _, _, _, _⟩) (v := ?v10) rfl (by kernel_rfl) (by kernel_rfl) (by kernel_rfl) (fun _ _ _ h => h) (Or.inl ⟨by rfl, ?y10⟩) (by assumption) ?r10
  case y10 => (rintro w0 ⟨sa, sb, sc, sd, se⟩; go_simp; try with_reducible rfl)
  try simp only [Act.put, List.setIfInBounds_toArray, List.set_cons_zero, List.set_cons_succ]
  refine wpAnyH_take (i := 10) (oi := ⟨some 41, _, _, _, _, _⟩) (v := ?v11) rfl (by kernel_rfl) (by kernel_rfl) (by kernel_rfl) (fun _ _ _ h => h) (Or.inl ⟨by rfl, ?y11⟩) (by assumption) ?r11
  case y11 => (rintro w0 ⟨sa, sb, sc, sd, se⟩; go_simp; try with_reducible rfl)
  try simp only [Act.put, List.setIfInBounds_toArray, List.set_cons_zero, List.set_cons_succ]
  refine wpAnyH_take (i := 11) (oi := ⟨some 42, _, _, _, _, _⟩) (v := ?v12) rfl (by kernel_rfl) (by kernel_rfl) (by kernel_rfl) (fun _ _ _ h => h) (Or.inl ⟨by rfl, ?y12⟩) (by assumption) ?r12
  case y12 => (rintro w0 ⟨sa, sb, sc, sd, se⟩; go_simp; try with_reducible rfl)
  try simp only [Act.put, List.setIfInBounds_toArray, List.set_cons_zero, List.set_cons_succ]
  refine wpAnyH_take (i := 12) (oi := ⟨some 43, _, _, _, _, _⟩) (v := ?v13) rfl (by kernel_rfl) (by kernel_rfl) (by kernel_rfl) (fun _ _ _ h => h) (Or.inl ⟨by rfl, ?y13⟩) (by assumption) ?r13
  case y13 => (rintro w0 ⟨sa, sb, sc, sd, se⟩; go_simp; try with_reducible rfl)
  try simp only [Act.put, List.setIfInBounds_toArray, List.set_cons_zero, List.set_cons_succ]
  refine wpAnyH_ready (rs := [13]) (by kernel_rfl) (by simp) ?_
  refine AllReadyH.cons (o := ⟨some 44, _, _, _, _, _⟩) rfl (fun K1 hK1 => ?_) ?_
  · rw [if_pos (by rfl)]
    go_wp2_with (go_at_call 13; refine (has_any (h.below hHeld.1) _ (by omega)).mono ?_; rintro e w' ⟨rfl, rfl⟩; rw [H1.out])
    refine hK1.out _ _ hHeld (fun hHeld => ?_)
    clear hK1 K1
    try simp only [Act.put, List.setIfInBounds_toArray, List.set_cons_zero, List.set_cons_succ]
    refine wpAnyH_take (i := 14) (oi := ⟨some 45, _, _, _, _, _⟩) (v := ?v14) rfl (by kernel_rfl) (by kernel_rfl) (by kernel_rfl) (fun _ _ _ h => h) (Or.inl ⟨by rfl, ?y14⟩) (by assumption) ?r14
    case y14 => (rintro w0 ⟨sa, sb, sc, sd, se⟩; go_simp; try with_reducible rfl)
    try simp only [Act.put, List.setIfInBounds_toArray, List.set_cons_zero, List.set_cons_succ]
    refine wpAnyH_take (i := 15) (oi := ⟨some 46, _, _, _, _, _⟩) (v := ?v15) rfl (by kernel_rfl) (by kernel_rfl) (by kernel_rfl) (fun _ _ _ h => h) (Or.inl ⟨by rfl, ?y15⟩) (by assumption) ?r15
    case y15 => (rintro w0 ⟨sa, sb, sc, sd, se⟩; go_simp; try with_reducible rfl)
    try simp only [Act.put, List.setIfInBounds_toArray, List.set_cons_zero, List.set_cons_succ]
    refine wpAnyH_take (i := 16) (oi := ⟨some 47, _, _, _, _, _⟩) (v := ?v16) rfl (by kernel_rfl) (by kernel_rfl) (by kernel_rfl) (fun _ _ _ h => h) (Or.inl ⟨by rfl, ?y16⟩) (by assumption) ?r16
    case y16 => (rintro w0 ⟨sa, sb, sc, sd, se⟩; go_simp; try with_reducible rfl)
    try simp only [Act.put, List.setIfInBounds_toArray, List.set_cons_zero, List.set_cons_succ]
    refine wpAnyH_take (i := 17) (oi := ⟨some 48, _, _, _, _, _⟩) (v := ?v17) rfl (by kernel_rfl) (by kernel_rfl) (by kernel_rfl) (fun _ _ _ h => h) (Or.inl ⟨by rfl, ?y17⟩) (by assumption) ?r17
    case y17 => (rintro w0 ⟨sa, sb, sc, sd, se⟩; go_simp; try with_reducible rfl)
    try simp only [Act.put, List.setIfInBounds_toArray, List.set_cons_zero, List.set_cons_succ]
    refine wpAnyH_take (i := 18) (oi := ⟨some 49, _, _, _, _, _⟩) (v := ?v18) rfl (by kernel_rfl) (by kernel_rfl) (by kernel_rfl) (fun _ _ _ h => h) (Or.inl ⟨by rfl, ?y18⟩) (by assumption) ?r18
    case y18 => (rintro w0 ⟨sa, sb, sc, sd, se⟩; go_simp; try with_reducible rfl)
    try simp only [Act.put, List.setIfInBounds_toArray, List.set_cons_zero, List.set_cons_succ]
    refine wpAnyH_ready (rs := [19]) (by kernel_rfl) (by simp) ?_
    refine AllReadyH.cons (o := ⟨some 50, _, _, _, _, _⟩) rfl (fun K1 hK1 => ?_) ?_
    · rw [if_pos (by rfl)]
      go_wp2_with (go_at_call 13; refine (has_any (h.below hHeld.1) _ (by omega)).mono ?_; rintro e w' ⟨rfl, rfl⟩; rw [H2.out])
      refine hK1.out _ _ hHeld (fun hHeld => ?_)
      clear hK1 K1
      try simp only [Act.put, List.setIfInBounds_toArray, List.set_cons_zero, List.set_cons_succ]
      refine wpAnyH_take (i := 20) (oi := ⟨some 51, _, _, _, _, _⟩) (v := ?v19) rfl (by kernel_rfl) (by kernel_rfl) (by kernel_rfl) (fun _ _ _ h => h) (Or.inl ⟨by rfl, ?y19⟩) (by assumption) ?r19
      case y19 => (rintro w0 ⟨sa, sb, sc, sd, se⟩; go_simp; try with_reducible rfl)
      try simp only [Act.put, List.setIfInBounds_toArray, List.set_cons_zero, List.set_cons_succ]
      refine wpAnyH_take (i := 21) (oi := ⟨some 52, _, _, _, _, _⟩) (v := ?v20) rfl (by kernel_rfl) (by kernel_rfl) (by kernel_rfl) (fun _ _ _ h => h) (Or.inl ⟨by rfl, ?y20⟩) (by assumption) ?r20
      case y20 => (rintro w0 ⟨sa, sb, sc, sd, se⟩; go_simp; try with_reducible rfl)
      try simp only [Act.put, List.setIfInBounds_toArray, List.set_cons_zero, List.set_cons_succ]
      refine wpAnyH_take (i := 22) (oi := ⟨some 53, _, _, _, _, _⟩) (v := ?v21) rfl (by kernel_rfl) (by kernel_rfl) (by kernel_rfl) (fun _ _ _ h => h) (Or.inl ⟨by rfl, ?y21⟩) (by assumption) ?r21
      case y21 => (rintro w0 ⟨sa, sb, sc, sd, se⟩; go_simp; try with_reducible rfl)
      try simp only [Act.put, List.setIfInBounds_toArray, List.set_cons_zero, List.set_cons_succ]
      refine wpAnyH_take (i := 23) (oi := ⟨some 54, _, _, _, _, _⟩) (v := ?v22) rfl (by kernel_rfl) (by kernel_rfl) (by kernel_rfl) (fun _ _ _ h => h) (Or.inl ⟨by rfl, ?y22⟩) (by assumption) ?r22
      case y22 => (rintro w0 ⟨sa, sb, sc, sd, se⟩; go_simp; try with_reducible rfl)
      try simp only [Act.put, List.setIfInBounds_toArray, List.set_cons_zero, List.set_cons_succ]
      refine wpAnyH_take (i := 24) (oi := ⟨some 55, _, _, _, _, _⟩) (v := ?v23) rfl (by kernel_rfl) (by kernel_rfl) (by kernel_rfl) (fun _ _ _ h => h) (Or.inl ⟨by rfl, ?y23⟩) (by assumption) ?r23
      case y23 => (rintro w0 ⟨sa, sb, sc, sd, se⟩; go_simp; try with_reducible rfl)
      try simp only [Act.put, List.setIfInBounds_toArray, List.set_cons_zero, List.set_cons_succ]
      refine wpAnyH_ready (rs := [25]) (by kernel_rfl) (by simp) ?_
      refine AllReadyH.cons (o := ⟨some 56, _, _, _, _, _⟩) rfl (fun K1 hK1 => ?_) ?_
      · rw [if_pos (by rfl)]
        go_wp2_with (go_at_call 13; refine (has_any (h.below hHeld.1) _ (by omega)).mono ?_; rintro e w' ⟨rfl, rfl⟩; rw [H3.out])
        refine hK1.out _ _ hHeld (fun hHeld => ?_)
        clear hK1 K1
        try simp only [Act.put, List.setIfInBounds_toArray, List.set_cons_zero, List.set_cons_succ]
        refine wpAnyH_take (i := 26) (oi := ⟨some 57, _, _, _, _, _⟩) (v := ?v24) rfl (by kernel_rfl) (by kernel_rfl) (by kernel_rfl) (fun _ _ _ h => h) (Or.inl ⟨by rfl, ?y24⟩) (by assumption) ?r24
        case y24 => (rintro w0 ⟨sa, sb, sc, sd, se⟩; go_simp; try with_reducible rfl)
        try simp only [Act.put, List.setIfInBounds_toArray, List.set_cons_zero, List.set_cons_succ]
        refine wpAnyH_take (i := 27) (oi := ⟨some 58, _, _, _, _, _⟩) (v := ?v25) rfl (by kernel_rfl) (by kernel_rfl) (by kernel_rfl) (fun _ _ _ h => h) (Or.inl ⟨by rfl, ?y25⟩) (by assumption) ?r25
        case y25 => (rintro w0 ⟨sa, sb, sc, sd, se⟩; go_simp; try with_reducible rfl)
        try simp only [Act.put, List.setIfInBounds_toArray, List.set_cons_zero, List.set_cons_succ]
        refine wpAnyH_take (i := 28) (oi := ⟨some 59, _, _, _, _, _⟩) (v := undef) rfl (by kernel_rfl) (by kernel_rfl) (by kernel_rfl) (fun _ _ _ h => h) (Or.inr ⟨by rfl, rfl⟩) (by assumption) ?_
        try simp only [Act.put, List.setIfInBounds_toArray, List.set_cons_zero, List.set_cons_succ]
        refine wpAnyH_take (i := 29) (oi := ⟨some 60, _, _, _, _, _⟩) (v := undef) rfl (by kernel_rfl) (by kernel_rfl) (by kernel_rfl) (fun _ _ _ h => h) (Or.inr ⟨by rfl, rfl⟩) (by assumption) ?_
        try simp only [Act.put, List.setIfInBounds_toArray, List.set_cons_zero, List.set_cons_succ]
        refine wpAnyH_take (i := 30) (oi := ⟨some 61, _, _, _, _, _⟩) (v := ?v28) rfl (by kernel_rfl) (by kernel_rfl) (by kernel_rfl) (fun _ _ _ h => h) (Or.inl ⟨by rfl, ?y28⟩) (by assumption) ?r28
        case y28 => (rintro w0 ⟨sa, sb, sc, sd, se⟩; go_simp; try with_reducible rfl)
        try simp only [Act.put, List.setIfInBounds_toArray, List.set_cons_zero, List.set_cons_succ]
        refine wpAnyH_take (i := 31) (oi := ⟨some 62, _, _, _, _, _⟩) (v := ?v29) rfl (by kernel_rfl) (by kernel_rfl) (by kernel_rfl) (fun _ _ _ h => h) (Or.inl ⟨by rfl, ?y29⟩) (by assumption) ?r29
        case y29 => (rintro w0 ⟨sa, sb, sc, sd, se⟩; go_simp; try with_reducible rfl)
        try simp only [Act.put, List.setIfInBounds_toArray, List.set_cons_zero, List.set_cons_succ]
        refine wpAnyH_take (i := 32) (oi := ⟨some 63, _, _, _, _, _⟩) (v := undef) rfl (by kernel_rfl) (by kernel_rfl) (by kernel_rfl) (fun _ _ _ h => h) (Or.inr ⟨by rfl, rfl⟩) (by assumption) ?_
        try simp only [Act.put, List.setIfInBounds_toArray, List.set_cons_zero, List.set_cons_succ]
        refine wpAnyH_take (i := 33) (oi := ⟨some 64, _, _, _, _, _⟩) (v := undef) rfl (by kernel_rfl) (by kernel_rfl) (by kernel_rfl) (fun _ _ _ h => h) (Or.inr ⟨by rfl, rfl⟩) (by assumption) ?_
        try simp only [Act.put, List.setIfInBounds_toArray, List.set_cons_zero, List.set_cons_succ]
        refine wpAnyH_take (i := 34) (oi := ⟨some 65, _, _, _, _, _⟩) (v := ?v32) rfl (by kernel_rfl) (by kernel_rfl) (by kernel_rfl) (fun _ _ _ h => h) (Or.inl ⟨by rfl, ?y32⟩) (by assumption) ?r32
        case y32 => (rintro w0 ⟨sa, sb, sc, sd, se⟩; go_simp; try with_reducible rfl)
        try simp only [Act.put, List.setIfInBounds_toArray, List.set_cons_zero, List.set_cons_succ]
        refine wpAnyH_ready (rs := [35]) (by kernel_rfl) (by simp) ?_
        refine AllReadyH.cons (o := ⟨none, _, _, _, _, _⟩) rfl (fun K1 hK1 => ?_) ?_
        · rw [if_pos (by rfl)]
          have HTS : tv.toArray.size = 13 := HTL.out.1
          have hq := World.rangeAt_setCells_same W0 (w.heap.size + 1) 0 tv (by rw [HTL.out.1]; exact hHeld.2.2.2.2)
          refine wp_store_mid _ _ _ rfl (w.heap.size + 1) 0 tv.toArray rfl rfl (by rw [HTS]; exact hHeld.2.2.2.2) (by rw [HTS, ← HTL.out.1]; exact HTL.out.2) HTO.out ?_
          refine hK1.out _ _ (hHeld.store mz) (fun hHeld => ?_)
          clear hK1 K1
          try simp only [Act.put]
          refine wpAnyH_take (i := 36) (oi := ⟨some 13, _, _, _, _, _⟩) (v := ?v33) rfl (by kernel_rfl) (by kernel_rfl) (by kernel_rfl) (fun _ _ _ h => h) (Or.inl ⟨by rfl, ?y33⟩) (by assumption) ?r33
          case y33 => (rintro w0 ⟨sa, sb, sc, sd, se⟩; go_simp; try with_reducible rfl)
          try simp only [Act.put, List.setIfInBounds_toArray, List.set_cons_zero, List.set_cons_succ]
          refine wpAnyH_done (by kernel_rfl) ?_ _
          have q0 := Lib.hid hq
          clear hq
          go_wp2
          refine bodyPost_ret (v := .tuple #[tradeOf (some ⟨b, 0, none⟩) B ⟨sq, p, s, y, left, a, d⟩ taker to want most, .bool false]) ?_ rfl ⟨rfl, hHeld.1⟩
          have q : ∀ j v, ([.pointer (some ⟨b, 0, none⟩), .pointer B, .int .u64 sq, .int .u8 p, .int .u8 s, .int .u8 y, .int .i64 left, .int .i64 a, .int .i64 d, .int .u8 taker, .int .u8 to, .int .i64 want, .int .i64 most] : List Value)[j]? = some v → (W0.setCells (w.heap.size + 1) 0 tv).cell? ⟨w.heap.size + 1, j, none⟩ = some v := fun j v hv => by have := q0.out j v (by rw [HTV.out]; exact hv); rwa [Nat.zero_add] at this
          have r0 : (W0.setCells (w.heap.size + 1) 0 tv).cell? ⟨w.heap.size + 1, 0, none⟩ = some (.pointer (some ⟨b, 0, none⟩)) := q 0 _ rfl
          have r1 : (W0.setCells (w.heap.size + 1) 0 tv).cell? ⟨w.heap.size + 1, 1, none⟩ = some (.pointer B) := q 1 _ rfl
          have r2 : (W0.setCells (w.heap.size + 1) 0 tv).cell? ⟨w.heap.size + 1, 2, none⟩ = some (.int .u64 sq) := q 2 _ rfl
          have r3 : (W0.setCells (w.heap.size + 1) 0 tv).cell? ⟨w.heap.size + 1, 3, none⟩ = some (.int .u8 p) := q 3 _ rfl
          have r4 : (W0.setCells (w.heap.size + 1) 0 tv).cell? ⟨w.heap.size + 1, 4, none⟩ = some (.int .u8 s) := q 4 _ rfl
          have r5 : (W0.setCells (w.heap.size + 1) 0 tv).cell? ⟨w.heap.size + 1, 5, none⟩ = some (.int .u8 y) := q 5 _ rfl
          have r6 : (W0.setCells (w.heap.size + 1) 0 tv).cell? ⟨w.heap.size + 1, 6, none⟩ = some (.int .i64 left) := q 6 _ rfl
          have r7 : (W0.setCells (w.heap.size + 1) 0 tv).cell? ⟨w.heap.size + 1, 7, none⟩ = some (.int .i64 a) := q 7 _ rfl
          have r8 : (W0.setCells (w.heap.size + 1) 0 tv).cell? ⟨w.heap.size + 1, 8, none⟩ = some (.int .i64 d) := q 8 _ rfl
          have r9 : (W0.setCells (w.heap.size + 1) 0 tv).cell? ⟨w.heap.size + 1, 9, none⟩ = some (.int .u8 taker) := q 9 _ rfl
          have r10 : (W0.setCells (w.heap.size + 1) 0 tv).cell? ⟨w.heap.size + 1, 10, none⟩ = some (.int .u8 to) := q 10 _ rfl
          have r11 : (W0.setCells (w.heap.size + 1) 0 tv).cell? ⟨w.heap.size + 1, 11, none⟩ = some (.int .i64 want) := q 11 _ rfl
          have r12 : (W0.setCells (w.heap.size + 1) 0 tv).cell? ⟨w.heap.size + 1, 12, none⟩ = some (.int .i64 most) := q 12 _ rfl
          clear q
          simp [results, Try.results21, go_sem, tradeOf, r0, r1, r2, r3, r4, r5, r6, r7, r8, r9, r10, r11, r12]
        exact AllReadyH.nil
      exact AllReadyH.nil
    exact AllReadyH.nil
  exact AllReadyH.nil

set_option maxHeartbeats 4000000 in
/-- nothing is wanted -/
theorem trade_noWant {w : World} {b m : Nat} {A : Ledger} (h : LedgerAt w b m A) (B : Option Addr) (seq taker to : Nat) (want most : Int) (o : Offer) (hF : ∀ W, Below w.heap.size w W → Calls Try.prog 12 #[.pointer B, .int .u64 seq] W (FindPost W o true))
    (hot : o.owner ≠ taker) (ho : o.owner < 256) (ht : taker < 256) (hto : to < 256) (h1 : A.has o.owner = true) (h2 : A.has taker = true) (h3 : A.has to = true) (hw : want ≤ 0) :
    Calls Try.prog 21 #[.agg #[.pointer (some ⟨b, 0, none⟩), .pointer B], .int .u64 seq, .int .u8 taker, .int .u8 to, .int .i64 want, .int .i64 most] w (TradePost w (tradeOf (some ⟨b, 0, none⟩) B o taker to want most) false) := by
  have HF := Lib.hid hF; clear hF
  have H1 := Lib.hid h1; clear h1
  have H2 := Lib.hid h2; clear h2
  have H3 := Lib.hid h3; clear h3
  have hb := h.lt
  obtain ⟨sq, p, s, y, left, a, d⟩ := o
  try dsimp only at *
  have hne : ((p : Int) != taker) = true := by rw [bne_iff_ne]; omega
  have hwt : decide (0 < want) = false := by simp; omega
  go_enter Try.func21, Try.ntmps21
  go_wp2_with (go_at_call 12; refine (HF.out _ (by repeat (first | with_reducible exact Below.refl _ _ | with_reducible assumption | refine Below.drew ?_ | refine Below.setCell ?_ (by first | exact Nat.le_refl _ | omega | (simp; done) | (simp; omega)) _ | refine Below.alloc ?_ (by first | exact Nat.le_refl _ | omega | (simp; done) | (simp; omega)) _ | refine Below.tr ?_ (Nat.le_refl _) (by assumption) | exact Below.refl _ _ | assumption))).mono ?_; rintro e w1 ⟨rfl, hb1⟩; obtain ⟨m0, m1, mz⟩ := two_blocks hb1; obtain ⟨c0, c1⟩ := houseMem m0; have M1 := Lib.hid m1; obtain ⟨zc, zf⟩ := tradeMem m1; have hB1 : Below w.heap.size w w1 := (by repeat (first | with_reducible exact Below.refl _ _ | with_reducible assumption | refine Below.drew ?_ | refine Below.setCell ?_ (by first | exact Nat.le_refl _ | omega | (simp; done) | (simp; omega)) _ | refine Below.alloc ?_ (by first | exact Nat.le_refl _ | omega | (simp; done) | (simp; omega)) _ | refine Below.tr ?_ (Nat.le_refl _) (by assumption) | exact Below.refl _ _ | assumption)); have s0 : w.heap.size < w1.heap.size := (by omega); have s1 : w.heap.size < w1.heap.size + 1 := (by omega); have s2 : w.heap.size + 1 < w1.heap.size := (by omega); have s3 : w.heap.size + 1 < w1.heap.size + 1 := (by omega); have s4 : w.heap.size < w1.heap.size + 2 := (by omega); have s5 : w.heap.size + 1 < w1.heap.size + 2 := (by omega); clear m0 m1 zc zf; simp only [Offer.val])
  obtain ⟨tv, htv⟩ : ∃ tv : List Value, tv = [.pointer (some ⟨b, 0, none⟩), .pointer B, .int .u64 sq, .int .u8 p, .int .u8 s, .int .u8 y, .int .i64 left, .int .i64 a, .int .i64 d, .int .u8 taker, .int .u8 to, .int .i64 want, .int .i64 most] := ⟨_, rfl⟩
  have HTL := Lib.hid (show tv.length = 13 ∧ ((Try.prog).info? 70).map (·.size) = some tv.length by subst htv; exact ⟨rfl, infoTrade⟩)
  have HTO := Lib.hid (show tv.toArray.all (·.oneCell') = true by subst htv; simp [Value.oneCell'])
  refine wp_region_held_drew (S := TradeHold w w1 (some ⟨b, 0, none⟩) p tv) (by kernel_rfl) ?_ (fun hHeld => ?_)
  · obtain ⟨r1, r2⟩ := allocs2 (w1 := w1) [.int .u64 sq, .int .u8 p, .int .u8 s, .int .u8 y, .int .i64 left, .int .i64 a, .int .i64 d] tv 57 70
    rw [htv] at *
    refine ⟨(by repeat (first | with_reducible exact Below.refl _ _ | with_reducible assumption | refine Below.drew ?_ | refine Below.setCell ?_ (by first | exact Nat.le_refl _ | omega | (simp; done) | (simp; omega)) _ | refine Below.alloc ?_ (by first | exact Nat.le_refl _ | omega | (simp; done) | (simp; omega)) _ | refine Below.tr ?_ (Nat.le_refl _) (by assumption) | exact Below.refl _ _ | assumption)), ?_, r1 1 _ rfl, r2, ?_⟩
    · simp [c0, World.cell?_alloc_some]
    · rw [World.there_drew]; exact World.there_alloc (World.there_alloc (thereTrade M1.out) _) _
  have HTV := Lib.hid htv
  clear htv
  revert hHeld
  generalize World.drew _ = W0
  intro hHeld
  refine wpAnyH_take (i := 0) (oi := ⟨some 31, _, _, _, _, _⟩) (v := .agg tv.toArray) rfl (by kernel_rfl) (by kernel_rfl) (by kernel_rfl) (fun _ _ _ h => h) (yieldsIf_load_mid (by rfl) _ _ rfl (w1.heap.size + 1) 0 rfl tv _ (fun _ hw => hw.2.2.2.1) Try.underlying70 rfl HTL.out.2) (by assumption) ?_
  try simp only [Act.put, List.setIfInBounds_toArray, List.set_cons_zero, List.set_cons_succ]
  refine wpAnyH_take (i := 1) (oi := ⟨some 32, _, _, _, _, _⟩) (v := ?v2) rfl (by kernel_rfl) (by kernel_rfl) (by kernel_rfl) (fun _ _ _ h => h) (Or.inl ⟨by rfl, ?y2⟩) (by assumption) ?r2
  case y2 => (rintro w0 ⟨sa, sb, sc, sd, se⟩; go_simp; try with_reducible rfl)
  try simp only [Act.put, List.setIfInBounds_toArray, List.set_cons_zero, List.set_cons_succ]
  refine wpAnyH_take (i := 2) (oi := ⟨some 33, _, _, _, _, _⟩) (v := ?v3) rfl (by kernel_rfl) (by kernel_rfl) (by kernel_rfl) (fun _ _ _ h => h) (Or.inl ⟨by rfl, ?y3⟩) (by assumption) ?r3
  case y3 => (rintro w0 ⟨sa, sb, sc, sd, se⟩; go_simp; try with_reducible rfl)
  try simp only [Act.put, List.setIfInBounds_toArray, List.set_cons_zero, List.set_cons_succ]
  refine wpAnyH_take (i := 3) (oi := ⟨some 34, _, _, _, _, _⟩) (v := ?v4) rfl (by kernel_rfl) (by kernel_rfl) (by kernel_rfl) (fun _ _ _ h => h) (Or.inl ⟨by rfl, ?y4⟩) (by assumption) ?r4
  case y4 => (rintro w0 ⟨sa, sb, sc, sd, se⟩; go_simp; try with_reducible rfl)
  try simp only [Act.put, List.setIfInBounds_toArray, List.set_cons_zero, List.set_cons_succ]
  refine wpAnyH_take (i := 4) (oi := ⟨some 35, _, _, _, _, _⟩) (v := ?v5) rfl (by kernel_rfl) (by kernel_rfl) (by kernel_rfl) (fun _ _ _ h => h) (Or.inl ⟨by rfl, ?y5⟩) (by assumption) ?r5
  case y5 => (rintro w0 ⟨sa, sb, sc, sd, se⟩; go_simp; try with_reducible rfl)
  try simp only [Act.put, List.setIfInBounds_toArray, List.set_cons_zero, List.set_cons_succ]
  refine wpAnyH_take (i := 5) (oi := ⟨some 36, _, _, _, _, _⟩) (v := ?v6) rfl (by kernel_rfl) (by kernel_rfl) (by kernel_rfl) (fun _ _ _ h => h) (Or.inl ⟨by rfl, ?y6⟩) (by assumption) ?r6
  case y6 => (rintro w0 ⟨sa, sb, sc, sd, se⟩; go_simp; try with_reducible rfl)
  try simp only [Act.put, List.setIfInBounds_toArray, List.set_cons_zero, List.set_cons_succ]
  refine wpAnyH_take (i := 6) (oi := ⟨some 37, _, _, _, _, _⟩) (v := ?v7) rfl (by kernel_rfl) (by kernel_rfl) (by kernel_rfl) (fun _ _ _ h => h) (Or.inl ⟨by rfl, ?y7⟩) (by assumption) ?r7
  case y7 => (rintro w0 ⟨sa, sb, sc, sd, se⟩; go_simp; try with_reducible rfl)
  try simp only [Act.put, List.setIfInBounds_toArray, List.set_cons_zero, List.set_cons_succ]
  refine wpAnyH_take (i := 7) (oi := ⟨some 38, _, _, _, _, _⟩) (v := ?v8) rfl (by kernel_rfl) (by kernel_rfl) (by kernel_rfl) (fun _ _ _ h => h) (Or.inl ⟨by rfl, ?y8⟩) (by assumption) ?r8
  case y8 => (rintro w0 ⟨sa, sb, sc, sd, se⟩; go_simp; try with_reducible rfl)
  try simp only [Act.put, List.setIfInBounds_toArray, List.set_cons_zero, List.set_cons_succ]
  refine wpAnyH_take (i := 8) (oi := ⟨some 39, _, _, _, _, _⟩) (v := ?v9) rfl (by kernel_rfl) (by kernel_rfl) (by kernel_rfl) (fun _ _ _ h => h) (Or.inl ⟨by rfl, ?y9⟩) (by assumption) ?r9
  case y9 => (rintro w0 ⟨sa, sb, sc, sd, se⟩; go_simp; try with_reducible rfl)
  try simp only [Act.put, List.setIfInBounds_toArray, List.set_cons_zero, List.set_cons_succ]
  refine wpAnyH_take (i := 9) (oi := ⟨some 40, _, _, _, _, _⟩) (v := ?v10) rfl (by kernel_rfl) (by kernel_rfl) (by kernel_rfl) (fun _ _ _ h => h) (Or.inl ⟨by rfl, ?y10⟩) (by assumption) ?r10
  case y10 => (rintro w0 ⟨sa, sb, sc, sd, se⟩; go_simp; try with_reducible rfl)
  try simp only [Act.put, List.setIfInBounds_toArray, List.set_cons_zero, List.set_cons_succ]
  refine wpAnyH_take (i := 10) (oi := ⟨some 41, _, _, _, _, _⟩) (v := ?v11) rfl (by kernel_rfl) (by kernel_rfl) (by kernel_rfl) (fun _ _ _ h => h) (Or.inl ⟨by rfl, ?y11⟩) (by assumption) ?r11
  case y11 => (rintro w0 ⟨sa, sb, sc, sd, se⟩; go_simp; try with_reducible rfl)
  try simp only [Act.put, List.setIfInBounds_toArray, List.set_cons_zero, List.set_cons_succ]
  refine wpAnyH_take (i := 11) (oi := ⟨some 42, _, _, _, _, _⟩) (v := ?v12) rfl (by kernel_rfl) (by kernel_rfl) (by kernel_rfl) (fun _ _ _ h => h) (Or.inl ⟨by rfl, ?y12⟩) (by assumption) ?r12
  case y12 => (rintro w0 ⟨sa, sb, sc, sd, se⟩; go_simp; try with_reducible rfl)
  try simp only [Act.put, List.setIfInBounds_toArray, List.set_cons_zero, List.set_cons_succ]
  refine wpAnyH_take (i := 12) (oi := ⟨some 43, _, _, _, _, _⟩) (v := ?v13) rfl (by kernel_rfl) (by kernel_rfl) (by kernel_rfl) (fun _ _ _ h => h) (Or.inl ⟨by rfl, ?y13⟩) (by assumption) ?r13
  case y13 => (rintro w0 ⟨sa, sb, sc, sd, se⟩; go_simp; try with_reducible rfl)
  try simp only [Act.put, List.setIfInBounds_toArray, List.set_cons_zero, List.set_cons_succ]
  refine wpAnyH_ready (rs := [13]) (by kernel_rfl) (by simp) ?_
  refine AllReadyH.cons (o := ⟨some 44, _, _, _, _, _⟩) rfl (fun K1 hK1 => ?_) ?_
  · rw [if_pos (by rfl)]
    go_wp2_with (go_at_call 13; refine (has_any (h.below hHeld.1) _ (by omega)).mono ?_; rintro e w' ⟨rfl, rfl⟩; rw [H1.out])
    refine hK1.out _ _ hHeld (fun hHeld => ?_)
    clear hK1 K1
    try simp only [Act.put, List.setIfInBounds_toArray, List.set_cons_zero, List.set_cons_succ]
    refine wpAnyH_take (i := 14) (oi := ⟨some 45, _, _, _, _, _⟩) (v := ?v14) rfl (by kernel_rfl) (by kernel_rfl) (by kernel_rfl) (fun _ _ _ h => h) (Or.inl ⟨by rfl, ?y14⟩) (by assumption) ?r14
    case y14 => (rintro w0 ⟨sa, sb, sc, sd, se⟩; go_simp; try with_reducible rfl)
    try simp only [Act.put, List.setIfInBounds_toArray, List.set_cons_zero, List.set_cons_succ]
    refine wpAnyH_take (i := 15) (oi := ⟨some 46, _, _, _, _, _⟩) (v := ?v15) rfl (by kernel_rfl) (by kernel_rfl) (by kernel_rfl) (fun _ _ _ h => h) (Or.inl ⟨by rfl, ?y15⟩) (by assumption) ?r15
    case y15 => (rintro w0 ⟨sa, sb, sc, sd, se⟩; go_simp; try with_reducible rfl)
    try simp only [Act.put, List.setIfInBounds_toArray, List.set_cons_zero, List.set_cons_succ]
    refine wpAnyH_take (i := 16) (oi := ⟨some 47, _, _, _, _, _⟩) (v := ?v16) rfl (by kernel_rfl) (by kernel_rfl) (by kernel_rfl) (fun _ _ _ h => h) (Or.inl ⟨by rfl, ?y16⟩) (by assumption) ?r16
    case y16 => (rintro w0 ⟨sa, sb, sc, sd, se⟩; go_simp; try with_reducible rfl)
    try simp only [Act.put, List.setIfInBounds_toArray, List.set_cons_zero, List.set_cons_succ]
    refine wpAnyH_take (i := 17) (oi := ⟨some 48, _, _, _, _, _⟩) (v := ?v17) rfl (by kernel_rfl) (by kernel_rfl) (by kernel_rfl) (fun _ _ _ h => h) (Or.inl ⟨by rfl, ?y17⟩) (by assumption) ?r17
    case y17 => (rintro w0 ⟨sa, sb, sc, sd, se⟩; go_simp; try with_reducible rfl)
    try simp only [Act.put, List.setIfInBounds_toArray, List.set_cons_zero, List.set_cons_succ]
    refine wpAnyH_take (i := 18) (oi := ⟨some 49, _, _, _, _, _⟩) (v := ?v18) rfl (by kernel_rfl) (by kernel_rfl) (by kernel_rfl) (fun _ _ _ h => h) (Or.inl ⟨by rfl, ?y18⟩) (by assumption) ?r18
    case y18 => (rintro w0 ⟨sa, sb, sc, sd, se⟩; go_simp; try with_reducible rfl)
    try simp only [Act.put, List.setIfInBounds_toArray, List.set_cons_zero, List.set_cons_succ]
    refine wpAnyH_ready (rs := [19]) (by kernel_rfl) (by simp) ?_
    refine AllReadyH.cons (o := ⟨some 50, _, _, _, _, _⟩) rfl (fun K1 hK1 => ?_) ?_
    · rw [if_pos (by rfl)]
      go_wp2_with (go_at_call 13; refine (has_any (h.below hHeld.1) _ (by omega)).mono ?_; rintro e w' ⟨rfl, rfl⟩; rw [H2.out])
      refine hK1.out _ _ hHeld (fun hHeld => ?_)
      clear hK1 K1
      try simp only [Act.put, List.setIfInBounds_toArray, List.set_cons_zero, List.set_cons_succ]
      refine wpAnyH_take (i := 20) (oi := ⟨some 51, _, _, _, _, _⟩) (v := ?v19) rfl (by kernel_rfl) (by kernel_rfl) (by kernel_rfl) (fun _ _ _ h => h) (Or.inl ⟨by rfl, ?y19⟩) (by assumption) ?r19
      case y19 => (rintro w0 ⟨sa, sb, sc, sd, se⟩; go_simp; try with_reducible rfl)
      try simp only [Act.put, List.setIfInBounds_toArray, List.set_cons_zero, List.set_cons_succ]
      refine wpAnyH_take (i := 21) (oi := ⟨some 52, _, _, _, _, _⟩) (v := ?v20) rfl (by kernel_rfl) (by kernel_rfl) (by kernel_rfl) (fun _ _ _ h => h) (Or.inl ⟨by rfl, ?y20⟩) (by assumption) ?r20
      case y20 => (rintro w0 ⟨sa, sb, sc, sd, se⟩; go_simp; try with_reducible rfl)
      try simp only [Act.put, List.setIfInBounds_toArray, List.set_cons_zero, List.set_cons_succ]
      refine wpAnyH_take (i := 22) (oi := ⟨some 53, _, _, _, _, _⟩) (v := ?v21) rfl (by kernel_rfl) (by kernel_rfl) (by kernel_rfl) (fun _ _ _ h => h) (Or.inl ⟨by rfl, ?y21⟩) (by assumption) ?r21
      case y21 => (rintro w0 ⟨sa, sb, sc, sd, se⟩; go_simp; try with_reducible rfl)
      try simp only [Act.put, List.setIfInBounds_toArray, List.set_cons_zero, List.set_cons_succ]
      refine wpAnyH_take (i := 23) (oi := ⟨some 54, _, _, _, _, _⟩) (v := ?v22) rfl (by kernel_rfl) (by kernel_rfl) (by kernel_rfl) (fun _ _ _ h => h) (Or.inl ⟨by rfl, ?y22⟩) (by assumption) ?r22
      case y22 => (rintro w0 ⟨sa, sb, sc, sd, se⟩; go_simp; try with_reducible rfl)
      try simp only [Act.put, List.setIfInBounds_toArray, List.set_cons_zero, List.set_cons_succ]
      refine wpAnyH_take (i := 24) (oi := ⟨some 55, _, _, _, _, _⟩) (v := ?v23) rfl (by kernel_rfl) (by kernel_rfl) (by kernel_rfl) (fun _ _ _ h => h) (Or.inl ⟨by rfl, ?y23⟩) (by assumption) ?r23
      case y23 => (rintro w0 ⟨sa, sb, sc, sd, se⟩; go_simp; try with_reducible rfl)
      try simp only [Act.put, List.setIfInBounds_toArray, List.set_cons_zero, List.set_cons_succ]
      refine wpAnyH_ready (rs := [25]) (by kernel_rfl) (by simp) ?_
      refine AllReadyH.cons (o := ⟨some 56, _, _, _, _, _⟩) rfl (fun K1 hK1 => ?_) ?_
      · rw [if_pos (by rfl)]
        go_wp2_with (go_at_call 13; refine (has_any (h.below hHeld.1) _ (by omega)).mono ?_; rintro e w' ⟨rfl, rfl⟩; rw [H3.out])
        refine hK1.out _ _ hHeld (fun hHeld => ?_)
        clear hK1 K1
        try simp only [Act.put, List.setIfInBounds_toArray, List.set_cons_zero, List.set_cons_succ]
        refine wpAnyH_take (i := 26) (oi := ⟨some 57, _, _, _, _, _⟩) (v := ?v24) rfl (by kernel_rfl) (by kernel_rfl) (by kernel_rfl) (fun _ _ _ h => h) (Or.inl ⟨by rfl, ?y24⟩) (by assumption) ?r24
        case y24 => (rintro w0 ⟨sa, sb, sc, sd, se⟩; go_simp; try with_reducible rfl)
        try simp only [Act.put, List.setIfInBounds_toArray, List.set_cons_zero, List.set_cons_succ]
        refine wpAnyH_take (i := 27) (oi := ⟨some 58, _, _, _, _, _⟩) (v := ?v25) rfl (by kernel_rfl) (by kernel_rfl) (by kernel_rfl) (fun _ _ _ h => h) (Or.inl ⟨by rfl, ?y25⟩) (by assumption) ?r25
        case y25 => (rintro w0 ⟨sa, sb, sc, sd, se⟩; go_simp; try with_reducible rfl)
        try simp only [Act.put, List.setIfInBounds_toArray, List.set_cons_zero, List.set_cons_succ]
        refine wpAnyH_take (i := 28) (oi := ⟨some 59, _, _, _, _, _⟩) (v := ?v26) rfl (by kernel_rfl) (by kernel_rfl) (by kernel_rfl) (fun _ _ _ h => h) (Or.inl ⟨by rfl, ?y26⟩) (by assumption) ?r26
        case y26 => (rintro w0 ⟨sa, sb, sc, sd, se⟩; go_simp; try with_reducible rfl)
        try simp only [Act.put, List.setIfInBounds_toArray, List.set_cons_zero, List.set_cons_succ]
        refine wpAnyH_take (i := 29) (oi := ⟨some 60, _, _, _, _, _⟩) (v := ?v27) rfl (by kernel_rfl) (by kernel_rfl) (by kernel_rfl) (fun _ _ _ h => h) (Or.inl ⟨by rfl, ?y27⟩) (by assumption) ?r27
        case y27 => (rintro w0 ⟨sa, sb, sc, sd, se⟩; go_simp; try with_reducible rfl)
        try simp only [Act.put, List.setIfInBounds_toArray, List.set_cons_zero, List.set_cons_succ]
        refine wpAnyH_take (i := 30) (oi := ⟨some 61, _, _, _, _, _⟩) (v := ?v28) rfl (by kernel_rfl) (by kernel_rfl) (by kernel_rfl) (fun _ _ _ h => h) (Or.inl ⟨by rfl, ?y28⟩) (by assumption) ?r28
        case y28 => (rintro w0 ⟨sa, sb, sc, sd, se⟩; go_simp; try with_reducible rfl)
        try simp only [Act.put, List.setIfInBounds_toArray, List.set_cons_zero, List.set_cons_succ]
        refine wpAnyH_take (i := 31) (oi := ⟨some 62, _, _, _, _, _⟩) (v := ?v29) rfl (by kernel_rfl) (by kernel_rfl) (by kernel_rfl) (fun _ _ _ h => h) (Or.inl ⟨by rfl, ?y29⟩) (by assumption) ?r29
        case y29 => (rintro w0 ⟨sa, sb, sc, sd, se⟩; go_simp; try with_reducible rfl)
        try simp only [Act.put, List.setIfInBounds_toArray, List.set_cons_zero, List.set_cons_succ]
        refine wpAnyH_take (i := 32) (oi := ⟨some 63, _, _, _, _, _⟩) (v := undef) rfl (by kernel_rfl) (by kernel_rfl) (by kernel_rfl) (fun _ _ _ h => h) (Or.inr ⟨by rfl, rfl⟩) (by assumption) ?_
        try simp only [Act.put, List.setIfInBounds_toArray, List.set_cons_zero, List.set_cons_succ]
        refine wpAnyH_take (i := 33) (oi := ⟨some 64, _, _, _, _, _⟩) (v := undef) rfl (by kernel_rfl) (by kernel_rfl) (by kernel_rfl) (fun _ _ _ h => h) (Or.inr ⟨by rfl, rfl⟩) (by assumption) ?_
        try simp only [Act.put, List.setIfInBounds_toArray, List.set_cons_zero, List.set_cons_succ]
        refine wpAnyH_take (i := 34) (oi := ⟨some 65, _, _, _, _, _⟩) (v := ?v32) rfl (by kernel_rfl) (by kernel_rfl) (by kernel_rfl) (fun _ _ _ h => h) (Or.inl ⟨by rfl, ?y32⟩) (by assumption) ?r32
        case y32 => (rintro w0 ⟨sa, sb, sc, sd, se⟩; go_simp; try with_reducible rfl)
        try simp only [Act.put, List.setIfInBounds_toArray, List.set_cons_zero, List.set_cons_succ]
        refine wpAnyH_ready (rs := [35]) (by kernel_rfl) (by simp) ?_
        refine AllReadyH.cons (o := ⟨none, _, _, _, _, _⟩) rfl (fun K1 hK1 => ?_) ?_
        · rw [if_pos (by rfl)]
          have HTS : tv.toArray.size = 13 := HTL.out.1
          have hq := World.rangeAt_setCells_same W0 (w.heap.size + 1) 0 tv (by rw [HTL.out.1]; exact hHeld.2.2.2.2)
          refine wp_store_mid _ _ _ rfl (w.heap.size + 1) 0 tv.toArray rfl rfl (by rw [HTS]; exact hHeld.2.2.2.2) (by rw [HTS, ← HTL.out.1]; exact HTL.out.2) HTO.out ?_
          refine hK1.out _ _ (hHeld.store mz) (fun hHeld => ?_)
          clear hK1 K1
          try simp only [Act.put]
          refine wpAnyH_take (i := 36) (oi := ⟨some 13, _, _, _, _, _⟩) (v := ?v33) rfl (by kernel_rfl) (by kernel_rfl) (by kernel_rfl) (fun _ _ _ h => h) (Or.inl ⟨by rfl, ?y33⟩) (by assumption) ?r33
          case y33 => (rintro w0 ⟨sa, sb, sc, sd, se⟩; go_simp; try with_reducible rfl)
          try simp only [Act.put, List.setIfInBounds_toArray, List.set_cons_zero, List.set_cons_succ]
          refine wpAnyH_done (by kernel_rfl) ?_ _
          have q0 := Lib.hid hq
          clear hq
          go_wp2
          refine bodyPost_ret (v := .tuple #[tradeOf (some ⟨b, 0, none⟩) B ⟨sq, p, s, y, left, a, d⟩ taker to want most, .bool false]) ?_ rfl ⟨rfl, hHeld.1⟩
          have q : ∀ j v, ([.pointer (some ⟨b, 0, none⟩), .pointer B, .int .u64 sq, .int .u8 p, .int .u8 s, .int .u8 y, .int .i64 left, .int .i64 a, .int .i64 d, .int .u8 taker, .int .u8 to, .int .i64 want, .int .i64 most] : List Value)[j]? = some v → (W0.setCells (w.heap.size + 1) 0 tv).cell? ⟨w.heap.size + 1, j, none⟩ = some v := fun j v hv => by have := q0.out j v (by rw [HTV.out]; exact hv); rwa [Nat.zero_add] at this
          have r0 : (W0.setCells (w.heap.size + 1) 0 tv).cell? ⟨w.heap.size + 1, 0, none⟩ = some (.pointer (some ⟨b, 0, none⟩)) := q 0 _ rfl
          have r1 : (W0.setCells (w.heap.size + 1) 0 tv).cell? ⟨w.heap.size + 1, 1, none⟩ = some (.pointer B) := q 1 _ rfl
          have r2 : (W0.setCells (w.heap.size + 1) 0 tv).cell? ⟨w.heap.size + 1, 2, none⟩ = some (.int .u64 sq) := q 2 _ rfl
          have r3 : (W0.setCells (w.heap.size + 1) 0 tv).cell? ⟨w.heap.size + 1, 3, none⟩ = some (.int .u8 p) := q 3 _ rfl
          have r4 : (W0.setCells (w.heap.size + 1) 0 tv).cell? ⟨w.heap.size + 1, 4, none⟩ = some (.int .u8 s) := q 4 _ rfl
          have r5 : (W0.setCells (w.heap.size + 1) 0 tv).cell? ⟨w.heap.size + 1, 5, none⟩ = some (.int .u8 y) := q 5 _ rfl
          have r6 : (W0.setCells (w.heap.size + 1) 0 tv).cell? ⟨w.heap.size + 1, 6, none⟩ = some (.int .i64 left) := q 6 _ rfl
          have r7 : (W0.setCells (w.heap.size + 1) 0 tv).cell? ⟨w.heap.size + 1, 7, none⟩ = some (.int .i64 a) := q 7 _ rfl
          have r8 : (W0.setCells (w.heap.size + 1) 0 tv).cell? ⟨w.heap.size + 1, 8, none⟩ = some (.int .i64 d) := q 8 _ rfl
          have r9 : (W0.setCells (w.heap.size + 1) 0 tv).cell? ⟨w.heap.size + 1, 9, none⟩ = some (.int .u8 taker) := q 9 _ rfl
          have r10 : (W0.setCells (w.heap.size + 1) 0 tv).cell? ⟨w.heap.size + 1, 10, none⟩ = some (.int .u8 to) := q 10 _ rfl
          have r11 : (W0.setCells (w.heap.size + 1) 0 tv).cell? ⟨w.heap.size + 1, 11, none⟩ = some (.int .i64 want) := q 11 _ rfl
          have r12 : (W0.setCells (w.heap.size + 1) 0 tv).cell? ⟨w.heap.size + 1, 12, none⟩ = some (.int .i64 most) := q 12 _ rfl
          clear q
          simp [results, Try.results21, go_sem, tradeOf, r0, r1, r2, r3, r4, r5, r6, r7, r8, r9, r10, r11, r12]
        exact AllReadyH.nil
      exact AllReadyH.nil
    exact AllReadyH.nil
  exact AllReadyH.nil

set_option maxHeartbeats 4000000 in
/-- nothing may be given -/
theorem trade_noMost {w : World} {b m : Nat} {A : Ledger} (h : LedgerAt w b m A) (B : Option Addr) (seq taker to : Nat) (want most : Int) (o : Offer) (hF : ∀ W, Below w.heap.size w W → Calls Try.prog 12 #[.pointer B, .int .u64 seq] W (FindPost W o true))
    (hot : o.owner ≠ taker) (ho : o.owner < 256) (ht : taker < 256) (hto : to < 256) (h1 : A.has o.owner = true) (h2 : A.has taker = true) (h3 : A.has to = true) (hw : 0 < want) (hm : most ≤ 0) :
    Calls Try.prog 21 #[.agg #[.pointer (some ⟨b, 0, none⟩), .pointer B], .int .u64 seq, .int .u8 taker, .int .u8 to, .int .i64 want, .int .i64 most] w (TradePost w (tradeOf (some ⟨b, 0, none⟩) B o taker to want most) false) := by
  have HF := Lib.hid hF; clear hF
  have H1 := Lib.hid h1; clear h1
  have H2 := Lib.hid h2; clear h2
  have H3 := Lib.hid h3; clear h3
  have hb := h.lt
  obtain ⟨sq, p, s, y, left, a, d⟩ := o
  try dsimp only at *
  have hne : ((p : Int) != taker) = true := by rw [bne_iff_ne]; omega
  have hwt : decide (0 < want) = true := by simp; omega
  have hmt : decide (0 < most) = false := by simp; omega
  go_enter Try.func21, Try.ntmps21
  go_wp2_with (go_at_call 12; refine (HF.out _ (by repeat (first | with_reducible exact Below.refl _ _ | with_reducible assumption | refine Below.drew ?_ | refine Below.setCell ?_ (by first | exact Nat.le_refl _ | omega | (simp; done) | (simp; omega)) _ | refine Below.alloc ?_ (by first | exact Nat.le_refl _ | omega | (simp; done) | (simp; omega)) _ | refine Below.tr ?_ (Nat.le_refl _) (by assumption) | exact Below.refl _ _ | assumption))).mono ?_; rintro e w1 ⟨rfl, hb1⟩; obtain ⟨m0, m1, mz⟩ := two_blocks hb1; obtain ⟨c0, c1⟩ := houseMem m0; have M1 := Lib.hid m1; obtain ⟨zc, zf⟩ := tradeMem m1; have hB1 : Below w.heap.size w w1 := (by repeat (first | with_reducible exact Below.refl _ _ | with_reducible assumption | refine Below.drew ?_ | refine Below.setCell ?_ (by first | exact Nat.le_refl _ | omega | (simp; done) | (simp; omega)) _ | refine Below.alloc ?_ (by first | exact Nat.le_refl _ | omega | (simp; done) | (simp; omega)) _ | refine Below.tr ?_ (Nat.le_refl _) (by assumption) | exact Below.refl _ _ | assumption)); have s0 : w.heap.size < w1.heap.size := (by omega); have s1 : w.heap.size < w1.heap.size + 1 := (by omega); have s2 : w.heap.size + 1 < w1.heap.size := (by omega); have s3 : w.heap.size + 1 < w1.heap.size + 1 := (by omega); have s4 : w.heap.size < w1.heap.size + 2 := (by omega); have s5 : w.heap.size + 1 < w1.heap.size + 2 := (by omega); clear m0 m1 zc zf; simp only [Offer.val])
  obtain ⟨tv, htv⟩ : ∃ tv : List Value, tv = [.pointer (some ⟨b, 0, none⟩), .pointer B, .int .u64 sq, .int .u8 p, .int .u8 s, .int .u8 y, .int .i64 left, .int .i64 a, .int .i64 d, .int .u8 taker, .int .u8 to, .int .i64 want, .int .i64 most] := ⟨_, rfl⟩
  have HTL := Lib.hid (show tv.length = 13 ∧ ((Try.prog).info? 70).map (·.size) = some tv.length by subst htv; exact ⟨rfl, infoTrade⟩)
  have HTO := Lib.hid (show tv.toArray.all (·.oneCell') = true by subst htv; simp [Value.oneCell'])
  refine wp_region_held_drew (S := TradeHold w w1 (some ⟨b, 0, none⟩) p tv) (by kernel_rfl) ?_ (fun hHeld => ?_)
  · obtain ⟨r1, r2⟩ := allocs2 (w1 := w1) [.int .u64 sq, .int .u8 p, .int .u8 s, .int .u8 y, .int .i64 left, .int .i64 a, .int .i64 d] tv 57 70
    rw [htv] at *
    refine ⟨(by repeat (first | with_reducible exact Below.refl _ _ | with_reducible assumption | refine Below.drew ?_ | refine Below.setCell ?_ (by first | exact Nat.le_refl _ | omega | (simp; done) | (simp; omega)) _ | refine Below.alloc ?_ (by first | exact Nat.le_refl _ | omega | (simp; done) | (simp; omega)) _ | refine Below.tr ?_ (Nat.le_refl _) (by assumption) | exact Below.refl _ _ | assumption)), ?_, r1 1 _ rfl, r2, ?_⟩
    · simp [c0, World.cell?_alloc_some]
    · rw [World.there_drew]; exact World.there_alloc (World.there_alloc (thereTrade M1.out) _) _
  have HTV := Lib.hid htv
  clear htv
  revert hHeld
  generalize World.drew _ = W0
  intro hHeld
  refine wpAnyH_take (i := 0) (oi := ⟨some 31, _, _, _, _, _⟩) (v := .agg tv.toArray) rfl (by kernel_rfl) (by kernel_rfl) (by kernel_rfl) (fun _ _ _ h => h) (yieldsIf_load_mid (by rfl) _ _ rfl (w1.heap.size + 1) 0 rfl tv _ (fun _ hw => hw.2.2.2.1) Try.underlying70 rfl HTL.out.2) (by assumption) ?_
  try simp only [Act.put, List.setIfInBounds_toArray, List.set_cons_zero, List.set_cons_succ]
  refine wpAnyH_take (i := 1) (oi := ⟨some 32, _, _, _, _, _⟩) (v := ?v2) rfl (by kernel_rfl) (by kernel_rfl) (by kernel_rfl) (fun _ _ _ h => h) (Or.inl ⟨by rfl, ?y2⟩) (by assumption) ?r2
  case y2 => (rintro w0 ⟨sa, sb, sc, sd, se⟩; go_simp; try with_reducible rfl)
  try simp only [Act.put, List.setIfInBounds_toArray, List.set_cons_zero, List.set_cons_succ]
  refine wpAnyH_take (i := 2) (oi := ⟨some 33, _, _, _, _, _⟩) (v := ?v3) rfl (by kernel_rfl) (by kernel_rfl) (by kernel_rfl) (fun _ _ _ h => h) (Or.inl ⟨by rfl, ?y3⟩) (by assumption) ?r3
  case y3 => (rintro w0 ⟨sa, sb, sc, sd, se⟩; go_simp; try with_reducible rfl)
  try simp only [Act.put, List.setIfInBounds_toArray, List.set_cons_zero, List.set_cons_succ]
  refine wpAnyH_take (i := 3) (oi := ⟨some 34, _, _, _, _, _⟩) (v := ?v4) rfl (by kernel_rfl) (by kernel_rfl) (by kernel_rfl) (fun _ _ _ h => h) (Or.inl ⟨by rfl, ?y4⟩) (by assumption) ?r4
  case y4 => (rintro w0 ⟨sa, sb, sc, sd, se⟩; go_simp; try with_reducible rfl)
  try simp only [Act.put, List.setIfInBounds_toArray, List.set_cons_zero, List.set_cons_succ]
  refine wpAnyH_take (i := 4) (oi := ⟨some 35, _, _, _, _, _⟩) (v := ?v5) rfl (by kernel_rfl) (by kernel_rfl) (by kernel_rfl) (fun _ _ _ h => h) (Or.inl ⟨by rfl, ?y5⟩) (by assumption) ?r5
  case y5 => (rintro w0 ⟨sa, sb, sc, sd, se⟩; go_simp; try with_reducible rfl)
  try simp only [Act.put, List.setIfInBounds_toArray, List.set_cons_zero, List.set_cons_succ]
  refine wpAnyH_take (i := 5) (oi := ⟨some 36, _, _, _, _, _⟩) (v := ?v6) rfl (by kernel_rfl) (by kernel_rfl) (by kernel_rfl) (fun _ _ _ h => h) (Or.inl ⟨by rfl, ?y6⟩) (by assumption) ?r6
  case y6 => (rintro w0 ⟨sa, sb, sc, sd, se⟩; go_simp; try with_reducible rfl)
  try simp only [Act.put, List.setIfInBounds_toArray, List.set_cons_zero, List.set_cons_succ]
  refine wpAnyH_take (i := 6) (oi := ⟨some 37, _, _, _, _, _⟩) (v := ?v7) rfl (by kernel_rfl) (by kernel_rfl) (by kernel_rfl) (fun _ _ _ h => h) (Or.inl ⟨by rfl, ?y7⟩) (by assumption) ?r7
  case y7 => (rintro w0 ⟨sa, sb, sc, sd, se⟩; go_simp; try with_reducible rfl)
  try simp only [Act.put, List.setIfInBounds_toArray, List.set_cons_zero, List.set_cons_succ]
  refine wpAnyH_take (i := 7) (oi := ⟨some 38, _, _, _, _, _⟩) (v := ?v8) rfl (by kernel_rfl) (by kernel_rfl) (by kernel_rfl) (fun _ _ _ h => h) (Or.inl ⟨by rfl, ?y8⟩) (by assumption) ?r8
  case y8 => (rintro w0 ⟨sa, sb, sc, sd, se⟩; go_simp; try with_reducible rfl)
  try simp only [Act.put, List.setIfInBounds_toArray, List.set_cons_zero, List.set_cons_succ]
  refine wpAnyH_take (i := 8) (oi := ⟨some 39, _, _, _, _, _⟩) (v := ?v9) rfl (by kernel_rfl) (by kernel_rfl) (by kernel_rfl) (fun _ _ _ h => h) (Or.inl ⟨by rfl, ?y9⟩) (by assumption) ?r9
  case y9 => (rintro w0 ⟨sa, sb, sc, sd, se⟩; go_simp; try with_reducible rfl)
  try simp only [Act.put, List.setIfInBounds_toArray, List.set_cons_zero, List.set_cons_succ]
  refine wpAnyH_take (i := 9) (oi := ⟨some 40, _, _, _, _, _⟩) (v := ?v10) rfl (by kernel_rfl) (by kernel_rfl) (by kernel_rfl) (fun _ _ _ h => h) (Or.inl ⟨by rfl, ?y10⟩) (by assumption) ?r10
  case y10 => (rintro w0 ⟨sa, sb, sc, sd, se⟩; go_simp; try with_reducible rfl)
  try simp only [Act.put, List.setIfInBounds_toArray, List.set_cons_zero, List.set_cons_succ]
  refine wpAnyH_take (i := 10) (oi := ⟨some 41, _, _, _, _, _⟩) (v := ?v11) rfl (by kernel_rfl) (by kernel_rfl) (by kernel_rfl) (fun _ _ _ h => h) (Or.inl ⟨by rfl, ?y11⟩) (by assumption) ?r11
  case y11 => (rintro w0 ⟨sa, sb, sc, sd, se⟩; go_simp; try with_reducible rfl)
  try simp only [Act.put, List.setIfInBounds_toArray, List.set_cons_zero, List.set_cons_succ]
  refine wpAnyH_take (i := 11) (oi := ⟨some 42, _, _, _, _, _⟩) (v := ?v12) rfl (by kernel_rfl) (by kernel_rfl) (by kernel_rfl) (fun _ _ _ h => h) (Or.inl ⟨by rfl, ?y12⟩) (by assumption) ?r12
  case y12 => (rintro w0 ⟨sa, sb, sc, sd, se⟩; go_simp; try with_reducible rfl)
  try simp only [Act.put, List.setIfInBounds_toArray, List.set_cons_zero, List.set_cons_succ]
  refine wpAnyH_take (i := 12) (oi := ⟨some 43, _, _, _, _, _⟩) (v := ?v13) rfl (by kernel_rfl) (by kernel_rfl) (by kernel_rfl) (fun _ _ _ h => h) (Or.inl ⟨by rfl, ?y13⟩) (by assumption) ?r13
  case y13 => (rintro w0 ⟨sa, sb, sc, sd, se⟩; go_simp; try with_reducible rfl)
  try simp only [Act.put, List.setIfInBounds_toArray, List.set_cons_zero, List.set_cons_succ]
  refine wpAnyH_ready (rs := [13]) (by kernel_rfl) (by simp) ?_
  refine AllReadyH.cons (o := ⟨some 44, _, _, _, _, _⟩) rfl (fun K1 hK1 => ?_) ?_
  · rw [if_pos (by rfl)]
    go_wp2_with (go_at_call 13; refine (has_any (h.below hHeld.1) _ (by omega)).mono ?_; rintro e w' ⟨rfl, rfl⟩; rw [H1.out])
    refine hK1.out _ _ hHeld (fun hHeld => ?_)
    clear hK1 K1
    try simp only [Act.put, List.setIfInBounds_toArray, List.set_cons_zero, List.set_cons_succ]
    refine wpAnyH_take (i := 14) (oi := ⟨some 45, _, _, _, _, _⟩) (v := ?v14) rfl (by kernel_rfl) (by kernel_rfl) (by kernel_rfl) (fun _ _ _ h => h) (Or.inl ⟨by rfl, ?y14⟩) (by assumption) ?r14
    case y14 => (rintro w0 ⟨sa, sb, sc, sd, se⟩; go_simp; try with_reducible rfl)
    try simp only [Act.put, List.setIfInBounds_toArray, List.set_cons_zero, List.set_cons_succ]
    refine wpAnyH_take (i := 15) (oi := ⟨some 46, _, _, _, _, _⟩) (v := ?v15) rfl (by kernel_rfl) (by kernel_rfl) (by kernel_rfl) (fun _ _ _ h => h) (Or.inl ⟨by rfl, ?y15⟩) (by assumption) ?r15
    case y15 => (rintro w0 ⟨sa, sb, sc, sd, se⟩; go_simp; try with_reducible rfl)
    try simp only [Act.put, List.setIfInBounds_toArray, List.set_cons_zero, List.set_cons_succ]
    refine wpAnyH_take (i := 16) (oi := ⟨some 47, _, _, _, _, _⟩) (v := ?v16) rfl (by kernel_rfl) (by kernel_rfl) (by kernel_rfl) (fun _ _ _ h => h) (Or.inl ⟨by rfl, ?y16⟩) (by assumption) ?r16
    case y16 => (rintro w0 ⟨sa, sb, sc, sd, se⟩; go_simp; try with_reducible rfl)
    try simp only [Act.put, List.setIfInBounds_toArray, List.set_cons_zero, List.set_cons_succ]
    refine wpAnyH_take (i := 17) (oi := ⟨some 48, _, _, _, _, _⟩) (v := ?v17) rfl (by kernel_rfl) (by kernel_rfl) (by kernel_rfl) (fun _ _ _ h => h) (Or.inl ⟨by rfl, ?y17⟩) (by assumption) ?r17
    case y17 => (rintro w0 ⟨sa, sb, sc, sd, se⟩; go_simp; try with_reducible rfl)
    try simp only [Act.put, List.setIfInBounds_toArray, List.set_cons_zero, List.set_cons_succ]
    refine wpAnyH_take (i := 18) (oi := ⟨some 49, _, _, _, _, _⟩) (v := ?v18) rfl (by kernel_rfl) (by kernel_rfl) (by kernel_rfl) (fun _ _ _ h => h) (Or.inl ⟨by rfl, ?y18⟩) (by assumption) ?r18
    case y18 => (rintro w0 ⟨sa, sb, sc, sd, se⟩; go_simp; try with_reducible rfl)
    try simp only [Act.put, List.setIfInBounds_toArray, List.set_cons_zero, List.set_cons_succ]
    refine wpAnyH_ready (rs := [19]) (by kernel_rfl) (by simp) ?_
    refine AllReadyH.cons (o := ⟨some 50, _, _, _, _, _⟩) rfl (fun K1 hK1 => ?_) ?_
    · rw [if_pos (by rfl)]
      go_wp2_with (go_at_call 13; refine (has_any (h.below hHeld.1) _ (by omega)).mono ?_; rintro e w' ⟨rfl, rfl⟩; rw [H2.out])
      refine hK1.out _ _ hHeld (fun hHeld => ?_)
      clear hK1 K1
      try simp only [Act.put, List.setIfInBounds_toArray, List.set_cons_zero, List.set_cons_succ]
      refine wpAnyH_take (i := 20) (oi := ⟨some 51, _, _, _, _, _⟩) (v := ?v19) rfl (by kernel_rfl) (by kernel_rfl) (by kernel_rfl) (fun _ _ _ h => h) (Or.inl ⟨by rfl, ?y19⟩) (by assumption) ?r19
      case y19 => (rintro w0 ⟨sa, sb, sc, sd, se⟩; go_simp; try with_reducible rfl)
      try simp only [Act.put, List.setIfInBounds_toArray, List.set_cons_zero, List.set_cons_succ]
      refine wpAnyH_take (i := 21) (oi := ⟨some 52, _, _, _, _, _⟩) (v := ?v20) rfl (by kernel_rfl) (by kernel_rfl) (by kernel_rfl) (fun _ _ _ h => h) (Or.inl ⟨by rfl, ?y20⟩) (by assumption) ?r20
      case y20 => (rintro w0 ⟨sa, sb, sc, sd, se⟩; go_simp; try with_reducible rfl)
      try simp only [Act.put, List.setIfInBounds_toArray, List.set_cons_zero, List.set_cons_succ]
      refine wpAnyH_take (i := 22) (oi := ⟨some 53, _, _, _, _, _⟩) (v := ?v21) rfl (by kernel_rfl) (by kernel_rfl) (by kernel_rfl) (fun _ _ _ h => h) (Or.inl ⟨by rfl, ?y21⟩) (by assumption) ?r21
      case y21 => (rintro w0 ⟨sa, sb, sc, sd, se⟩; go_simp; try with_reducible rfl)
      try simp only [Act.put, List.setIfInBounds_toArray, List.set_cons_zero, List.set_cons_succ]
      refine wpAnyH_take (i := 23) (oi := ⟨some 54, _, _, _, _, _⟩) (v := ?v22) rfl (by kernel_rfl) (by kernel_rfl) (by kernel_rfl) (fun _ _ _ h => h) (Or.inl ⟨by rfl, ?y22⟩) (by assumption) ?r22
      case y22 => (rintro w0 ⟨sa, sb, sc, sd, se⟩; go_simp; try with_reducible rfl)
      try simp only [Act.put, List.setIfInBounds_toArray, List.set_cons_zero, List.set_cons_succ]
      refine wpAnyH_take (i := 24) (oi := ⟨some 55, _, _, _, _, _⟩) (v := ?v23) rfl (by kernel_rfl) (by kernel_rfl) (by kernel_rfl) (fun _ _ _ h => h) (Or.inl ⟨by rfl, ?y23⟩) (by assumption) ?r23
      case y23 => (rintro w0 ⟨sa, sb, sc, sd, se⟩; go_simp; try with_reducible rfl)
      try simp only [Act.put, List.setIfInBounds_toArray, List.set_cons_zero, List.set_cons_succ]
      refine wpAnyH_ready (rs := [25]) (by kernel_rfl) (by simp) ?_
      refine AllReadyH.cons (o := ⟨some 56, _, _, _, _, _⟩) rfl (fun K1 hK1 => ?_) ?_
      · rw [if_pos (by rfl)]
        go_wp2_with (go_at_call 13; refine (has_any (h.below hHeld.1) _ (by omega)).mono ?_; rintro e w' ⟨rfl, rfl⟩; rw [H3.out])
        refine hK1.out _ _ hHeld (fun hHeld => ?_)
        clear hK1 K1
        try simp only [Act.put, List.setIfInBounds_toArray, List.set_cons_zero, List.set_cons_succ]
        refine wpAnyH_take (i := 26) (oi := ⟨some 57, _, _, _, _, _⟩) (v := ?v24) rfl (by kernel_rfl) (by kernel_rfl) (by kernel_rfl) (fun _ _ _ h => h) (Or.inl ⟨by rfl, ?y24⟩) (by assumption) ?r24
        case y24 => (rintro w0 ⟨sa, sb, sc, sd, se⟩; go_simp; try with_reducible rfl)
        try simp only [Act.put, List.setIfInBounds_toArray, List.set_cons_zero, List.set_cons_succ]
        refine wpAnyH_take (i := 27) (oi := ⟨some 58, _, _, _, _, _⟩) (v := ?v25) rfl (by kernel_rfl) (by kernel_rfl) (by kernel_rfl) (fun _ _ _ h => h) (Or.inl ⟨by rfl, ?y25⟩) (by assumption) ?r25
        case y25 => (rintro w0 ⟨sa, sb, sc, sd, se⟩; go_simp; try with_reducible rfl)
        try simp only [Act.put, List.setIfInBounds_toArray, List.set_cons_zero, List.set_cons_succ]
        refine wpAnyH_take (i := 28) (oi := ⟨some 59, _, _, _, _, _⟩) (v := ?v26) rfl (by kernel_rfl) (by kernel_rfl) (by kernel_rfl) (fun _ _ _ h => h) (Or.inl ⟨by rfl, ?y26⟩) (by assumption) ?r26
        case y26 => (rintro w0 ⟨sa, sb, sc, sd, se⟩; go_simp; try with_reducible rfl)
        try simp only [Act.put, List.setIfInBounds_toArray, List.set_cons_zero, List.set_cons_succ]
        refine wpAnyH_take (i := 29) (oi := ⟨some 60, _, _, _, _, _⟩) (v := ?v27) rfl (by kernel_rfl) (by kernel_rfl) (by kernel_rfl) (fun _ _ _ h => h) (Or.inl ⟨by rfl, ?y27⟩) (by assumption) ?r27
        case y27 => (rintro w0 ⟨sa, sb, sc, sd, se⟩; go_simp; try with_reducible rfl)
        try simp only [Act.put, List.setIfInBounds_toArray, List.set_cons_zero, List.set_cons_succ]
        refine wpAnyH_take (i := 30) (oi := ⟨some 61, _, _, _, _, _⟩) (v := ?v28) rfl (by kernel_rfl) (by kernel_rfl) (by kernel_rfl) (fun _ _ _ h => h) (Or.inl ⟨by rfl, ?y28⟩) (by assumption) ?r28
        case y28 => (rintro w0 ⟨sa, sb, sc, sd, se⟩; go_simp; try with_reducible rfl)
        try simp only [Act.put, List.setIfInBounds_toArray, List.set_cons_zero, List.set_cons_succ]
        refine wpAnyH_take (i := 31) (oi := ⟨some 62, _, _, _, _, _⟩) (v := ?v29) rfl (by kernel_rfl) (by kernel_rfl) (by kernel_rfl) (fun _ _ _ h => h) (Or.inl ⟨by rfl, ?y29⟩) (by assumption) ?r29
        case y29 => (rintro w0 ⟨sa, sb, sc, sd, se⟩; go_simp; try with_reducible rfl)
        try simp only [Act.put, List.setIfInBounds_toArray, List.set_cons_zero, List.set_cons_succ]
        refine wpAnyH_take (i := 32) (oi := ⟨some 63, _, _, _, _, _⟩) (v := ?v30) rfl (by kernel_rfl) (by kernel_rfl) (by kernel_rfl) (fun _ _ _ h => h) (Or.inl ⟨by rfl, ?y30⟩) (by assumption) ?r30
        case y30 => (rintro w0 ⟨sa, sb, sc, sd, se⟩; go_simp; try with_reducible rfl)
        try simp only [Act.put, List.setIfInBounds_toArray, List.set_cons_zero, List.set_cons_succ]
        refine wpAnyH_take (i := 33) (oi := ⟨some 64, _, _, _, _, _⟩) (v := ?v31) rfl (by kernel_rfl) (by kernel_rfl) (by kernel_rfl) (fun _ _ _ h => h) (Or.inl ⟨by rfl, ?y31⟩) (by assumption) ?r31
        case y31 => (rintro w0 ⟨sa, sb, sc, sd, se⟩; go_simp; try with_reducible rfl)
        try simp only [Act.put, List.setIfInBounds_toArray, List.set_cons_zero, List.set_cons_succ]
        refine wpAnyH_take (i := 34) (oi := ⟨some 65, _, _, _, _, _⟩) (v := ?v32) rfl (by kernel_rfl) (by kernel_rfl) (by kernel_rfl) (fun _ _ _ h => h) (Or.inl ⟨by rfl, ?y32⟩) (by assumption) ?r32
        case y32 => (rintro w0 ⟨sa, sb, sc, sd, se⟩; go_simp; try with_reducible rfl)
        try simp only [Act.put, List.setIfInBounds_toArray, List.set_cons_zero, List.set_cons_succ]
        refine wpAnyH_ready (rs := [35]) (by kernel_rfl) (by simp) ?_
        refine AllReadyH.cons (o := ⟨none, _, _, _, _, _⟩) rfl (fun K1 hK1 => ?_) ?_
        · rw [if_pos (by rfl)]
          have HTS : tv.toArray.size = 13 := HTL.out.1
          have hq := World.rangeAt_setCells_same W0 (w.heap.size + 1) 0 tv (by rw [HTL.out.1]; exact hHeld.2.2.2.2)
          refine wp_store_mid _ _ _ rfl (w.heap.size + 1) 0 tv.toArray rfl rfl (by rw [HTS]; exact hHeld.2.2.2.2) (by rw [HTS, ← HTL.out.1]; exact HTL.out.2) HTO.out ?_
          refine hK1.out _ _ (hHeld.store mz) (fun hHeld => ?_)
          clear hK1 K1
          try simp only [Act.put]
          refine wpAnyH_take (i := 36) (oi := ⟨some 13, _, _, _, _, _⟩) (v := ?v33) rfl (by kernel_rfl) (by kernel_rfl) (by kernel_rfl) (fun _ _ _ h => h) (Or.inl ⟨by rfl, ?y33⟩) (by assumption) ?r33
          case y33 => (rintro w0 ⟨sa, sb, sc, sd, se⟩; go_simp; try with_reducible rfl)
          try simp only [Act.put, List.setIfInBounds_toArray, List.set_cons_zero, List.set_cons_succ]
          refine wpAnyH_done (by kernel_rfl) ?_ _
          have q0 := Lib.hid hq
          clear hq
          go_wp2
          refine bodyPost_ret (v := .tuple #[tradeOf (some ⟨b, 0, none⟩) B ⟨sq, p, s, y, left, a, d⟩ taker to want most, .bool false]) ?_ rfl ⟨rfl, hHeld.1⟩
          have q : ∀ j v, ([.pointer (some ⟨b, 0, none⟩), .pointer B, .int .u64 sq, .int .u8 p, .int .u8 s, .int .u8 y, .int .i64 left, .int .i64 a, .int .i64 d, .int .u8 taker, .int .u8 to, .int .i64 want, .int .i64 most] : List Value)[j]? = some v → (W0.setCells (w.heap.size + 1) 0 tv).cell? ⟨w.heap.size + 1, j, none⟩ = some v := fun j v hv => by have := q0.out j v (by rw [HTV.out]; exact hv); rwa [Nat.zero_add] at this
          have r0 : (W0.setCells (w.heap.size + 1) 0 tv).cell? ⟨w.heap.size + 1, 0, none⟩ = some (.pointer (some ⟨b, 0, none⟩)) := q 0 _ rfl
          have r1 : (W0.setCells (w.heap.size + 1) 0 tv).cell? ⟨w.heap.size + 1, 1, none⟩ = some (.pointer B) := q 1 _ rfl
          have r2 : (W0.setCells (w.heap.size + 1) 0 tv).cell? ⟨w.heap.size + 1, 2, none⟩ = some (.int .u64 sq) := q 2 _ rfl
          have r3 : (W0.setCells (w.heap.size + 1) 0 tv).cell? ⟨w.heap.size + 1, 3, none⟩ = some (.int .u8 p) := q 3 _ rfl
          have r4 : (W0.setCells (w.heap.size + 1) 0 tv).cell? ⟨w.heap.size + 1, 4, none⟩ = some (.int .u8 s) := q 4 _ rfl
          have r5 : (W0.setCells (w.heap.size + 1) 0 tv).cell? ⟨w.heap.size + 1, 5, none⟩ = some (.int .u8 y) := q 5 _ rfl
          have r6 : (W0.setCells (w.heap.size + 1) 0 tv).cell? ⟨w.heap.size + 1, 6, none⟩ = some (.int .i64 left) := q 6 _ rfl
          have r7 : (W0.setCells (w.heap.size + 1) 0 tv).cell? ⟨w.heap.size + 1, 7, none⟩ = some (.int .i64 a) := q 7 _ rfl
          have r8 : (W0.setCells (w.heap.size + 1) 0 tv).cell? ⟨w.heap.size + 1, 8, none⟩ = some (.int .i64 d) := q 8 _ rfl
          have r9 : (W0.setCells (w.heap.size + 1) 0 tv).cell? ⟨w.heap.size + 1, 9, none⟩ = some (.int .u8 taker) := q 9 _ rfl
          have r10 : (W0.setCells (w.heap.size + 1) 0 tv).cell? ⟨w.heap.size + 1, 10, none⟩ = some (.int .u8 to) := q 10 _ rfl
          have r11 : (W0.setCells (w.heap.size + 1) 0 tv).cell? ⟨w.heap.size + 1, 11, none⟩ = some (.int .i64 want) := q 11 _ rfl
          have r12 : (W0.setCells (w.heap.size + 1) 0 tv).cell? ⟨w.heap.size + 1, 12, none⟩ = some (.int .i64 most) := q 12 _ rfl
          clear q
          simp [results, Try.results21, go_sem, tradeOf, r0, r1, r2, r3, r4, r5, r6, r7, r8, r9, r10, r11, r12]
        exact AllReadyH.nil
      exact AllReadyH.nil
    exact AllReadyH.nil
  exact AllReadyH.nil
end Go.Proofs.Ytelcdiceongfdaa
end
