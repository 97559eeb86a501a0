/-
  What a ledger of whatever acts, and a book of whatever offers, come to; and the plain law of the most that may be filled. No program in sight.
  Walks of the laws' makers, first part: a ledger of whatever acts. Conditions: the acts can be read; fewer than 2^40 of them.
-/
import Derived.Test.YtelcdiceongfdaaMoP15
import Derived.Test.YtelcdiceongfdaaMoP10
import Derived.Test.YtelcdiceongfdaaMoP4
section
namespace Go.Proofs.Ytelcdiceongfdaa

structure Act where
  kind : Nat
  a : Nat
  b : Nat
  c : Nat
  n : Int
deriving Inhabited

/-- what the Go types let in -/
structure Act.typed (x : Act) : Prop where
  kind : x.kind < 256
  a : x.a < 256
  b : x.b < 256
  c : x.c < 256
  n0 : -9223372036854775808 ≤ x.n
  n1 : x.n ≤ 9223372036854775807

/-- what an act makes of a ledger -/
def Ledger.act (A : Ledger) (x : Act) : Ledger :=
  if x.kind % 8 = 0 then (A.openP x.a).2
  else if x.kind % 8 = 1 ∨ x.kind % 8 = 2 then (A.trust x.a x.b x.c x.n).2
  else if x.kind % 8 = 3 ∨ x.kind % 8 = 4 ∨ x.kind % 8 = 5 then (A.push x.a x.b x.c x.n).2
  else if x.kind % 8 = 6 then (A.forgive x.a x.b x.c x.n).2
  else A
def madeL (f : Nat → Act) : Nat → Ledger
  | 0 => Ledger.empty
  | k + 1 => (madeL f k).act (f k)
def madeB (f : Nat → Offer) : Nat → Book
  | 0 => ⟨[], 1⟩
  | k + 1 => ((madeB f k).place (f k)).2.2

/-- what is known of a book that was made by placing -/
structure Book.fine (K : Book) (n : Nat) : Prop where
  next1 : 1 ≤ K.next
  nextN : K.next ≤ n + 1
  len : K.l.length ≤ 32
  may : ∀ o ∈ K.l, o.may = true
theorem Book.fine_new : Book.fine ⟨[], 1⟩ 0 := ⟨by decide, by decide, by decide, by simp⟩
theorem Book.fine_place {K : Book} {n : Nat} (h : K.fine n) (o : Offer) : (K.place o).2.2.fine (n + 1) := by
  have h1 := h.next1
  have h2 := h.nextN
  have h3 := h.len
  unfold Book.place
  split
  · rename_i hm
    split
    · exact ⟨h1, by show K.next ≤ _; omega, h3, h.may⟩
    · rename_i hc
      refine ⟨by show 1 ≤ K.next + 1; omega, by show K.next + 1 ≤ _; omega, by show (K.l ++ [_]).length ≤ 32; rw [List.length_append]; simp; omega, ?_⟩
      intro x hx
      rcases List.mem_append.1 hx with hx | hx
      · exact h.may x hx
      · rw [List.mem_singleton.1 hx]; exact hm
  · exact ⟨h1, by show K.next ≤ _; omega, h3, h.may⟩
theorem madeB_fine (f : Nat → Offer) : ∀ k, (madeB f k).fine k
  | 0 => Book.fine_new
  | k + 1 => Book.fine_place (madeB_fine f k) (f k)
theorem Offer.may_left {o : Offer} (h : o.may = true) : 1 ≤ o.left ∧ o.left ≤ 1099511627776 := by
  unfold Offer.may at h; simp only [Bool.and_eq_true, decide_eq_true_eq] at h; omega
theorem Offer.may_rate {o : Offer} (h : o.may = true) : mayR o.num o.den = true := by
  unfold Offer.may at h; simp only [Bool.and_eq_true, decide_eq_true_eq] at h; exact h.2
theorem Offer.may_ends {o : Offer} (h : o.may = true) : (1 ≤ o.owner ∧ o.owner ≤ 16) ∧ (1 ≤ o.sell ∧ o.sell ≤ 8) ∧ (1 ≤ o.buy ∧ o.buy ≤ 8) ∧ o.sell ≠ o.buy := by
  unfold Offer.may at h; simp only [Bool.and_eq_true, decide_eq_true_eq] at h; omega
theorem Book.fine.left {K : Book} {n : Nat} (h : K.fine n) : ∀ k, k < K.l.length → 0 ≤ (K.l[k]!).left ∧ (K.l[k]!).left ≤ 9223372036854775807 := fun k hk => by
  have := Offer.may_left (h.may (K.l[k]!) (by rw [getElem!_pos K.l k hk]; exact List.getElem_mem hk))
  omega

/-! ### how much -/
theorem upI_spec (n a b : Nat) (hb : 0 < b) : n * a ≤ upI n a b * b ∧ upI n a b * b < n * a + b := by
  have h1 := Nat.div_add_mod (n * a) b
  have h2 := Nat.mod_lt (n * a) hb
  unfold upI
  generalize n * a = x at *
  have h3 : (x / b + 1) * b = b * (x / b) + b := by rw [Nat.add_mul, Nat.one_mul, Nat.mul_comm]
  have h4 : (x / b) * b = b * (x / b) := Nat.mul_comm _ _
  split
  · rw [h3]; omega
  · rw [h4]; omega
theorem upI_pos {n a b : Nat} (hb : 0 < b) (hn : 1 ≤ n) (ha : 1 ≤ a) : 1 ≤ upI n a b := by
  have h := (upI_spec n a b hb).1
  have h1 : 1 ≤ n * a := Nat.mul_pos hn ha
  generalize n * a = x at *
  rcases Nat.eq_zero_or_pos (upI n a b) with h0 | h0
  · rw [h0] at h; omega
  · exact h0
theorem up_le {n a b : Nat} {g : Int} (ha : 1 ≤ a) (hb : 1 ≤ b) (hn : (n : Int) ≤ fitsI g a b) : upI n a b ≤ g.toNat := by
  have h1 : n ≤ g.toNat * b / a := by unfold fitsI at hn; omega
  have h2 : n * a ≤ g.toNat * b := (Nat.le_div_iff_mul_le ha).1 h1
  have h3 := (upI_spec n a b hb).2
  have h4 : upI n a b * b < (g.toNat + 1) * b := by rw [Nat.add_mul, Nat.one_mul]; omega
  exact Nat.le_of_lt_succ (Nat.lt_of_mul_lt_mul_right h4)
theorem fits_more {n a b : Nat} {g : Int} (ha : 1 ≤ a) (hn : (n : Int) = fitsI g a b) (hlt : n < 1099511627776) : g.toNat * b < (n + 1) * a := by
  have h1 : n = g.toNat * b / a := by unfold fitsI at hn; omega
  rw [h1, Nat.mul_comm _ a]
  exact Nat.lt_mul_div_succ _ ha
theorem fitsI_mono {g g' : Int} (h : g ≤ g') (a b : Nat) : fitsI g a b ≤ fitsI g' a b := by
  have h1 : g.toNat * b / a ≤ g'.toNat * b / a := Nat.div_le_div_right (Nat.mul_le_mul_right b (by omega))
  unfold fitsI
  omega

end Go.Proofs.Ytelcdiceongfdaa
end
section
namespace Go.Proofs.Ytelcdiceongfdaa
open Go.RowKit Go.BigFrame
set_option maxRecDepth 100000

theorem below_of_chg {w W W' : World} {S : List Nat} (hB : Below w.heap.size w W) (hC : Chg S W W') (hS : ∀ k ∈ S, w.heap.size ≤ k) : Below w.heap.size w W' :=
  ⟨hC.os.trans hB.os, hC.tape.trans hB.tape, hC.output.trans hB.output, Nat.le_trans hB.size hC.size, fun k hk => (hC.block k (by have := hB.size; omega) (fun hm => absurd (hS k hm) (by omega))).trans (hB.block k hk)⟩

/-- acts in memory -/
structure ActsIn (w : World) (b off n : Nat) (f : Nat → Act) : Prop where
  c0 : ∀ i, i < n → w.cell? ⟨b, off + i * 5, none⟩ = some (.int .u8 (f i).kind)
  c1 : ∀ i, i < n → w.cell? ⟨b, off + i * 5 + 1, none⟩ = some (.int .u8 (f i).a)
  c2 : ∀ i, i < n → w.cell? ⟨b, off + i * 5 + 2, none⟩ = some (.int .u8 (f i).b)
  c3 : ∀ i, i < n → w.cell? ⟨b, off + i * 5 + 3, none⟩ = some (.int .u8 (f i).c)
  c4 : ∀ i, i < n → w.cell? ⟨b, off + i * 5 + 4, none⟩ = some (.int .i64 (f i).n)
  typed : ∀ i, i < n → (f i).typed
theorem ActsIn.below {w W : World} {b off n : Nat} {f : Nat → Act} (h : ActsIn w b off n f) (hb : Below w.heap.size w W) : ActsIn W b off n f := by
  have q : ∀ (o : Nat) (v : Value), w.cell? ⟨b, o, none⟩ = some v → W.cell? ⟨b, o, none⟩ = some v := fun o v hv => (hb.cell (p := ⟨b, o, none⟩) (lt_of_cell hv)).trans hv
  exact ⟨fun i hi => q _ _ (h.c0 i hi), fun i hi => q _ _ (h.c1 i hi), fun i hi => q _ _ (h.c2 i hi), fun i hi => q _ _ (h.c3 i hi), fun i hi => q _ _ (h.c4 i hi), h.typed⟩
def MadeLPost (w : World) (A : Ledger) (e : Ending) (w' : World) : Prop :=
  ∃ b m, e = .returned (.pointer (some ⟨b, 0, none⟩)) ∧ Below w.heap.size w w' ∧ w.heap.size ≤ b ∧ w.heap.size ≤ m ∧ LedgerAt w' b m A

set_option maxHeartbeats 4000000 in
theorem made3 {w : World} {ad : Option Addr} {b off n c : Nat} {f : Nat → Act} (had : 0 < n → ad = some ⟨b, off, none⟩) (h : ActsIn w b off n f) (hn : n ≤ 1099511627776) :
    Calls Try.prog 30 #[.slice ad n c] w (MadeLPost w (madeL f n)) := by
  have HAD := Lib.hid had; clear had
  go_enter Try.func30, Try.ntmps30
  go_wp2_with (go_at_call 5; refine (ledgersNew _).mono ?_; rintro e w1 ⟨rfl, hb1, hz1, hl1⟩; have HB1 := Lib.hid hb1; have HL1 := Lib.hid hl1; have HZ1 := Lib.hid hz1; clear hb1 hl1 hz1)
  go_loopg [4] n (fun gg s4 wr => ∃ k : Nat, k ≤ n ∧ n - k ≤ gg ∧ s4 = .int .i64 k ∧ Aside (LedgerAt wr (w.heap.size + 1) w.heap.size (madeL f k)) ∧ Aside (Below w.heap.size w wr))
  case atStart => exact ⟨0, by omega, by omega, rfl, HL1.out, HB1.out⟩
  case round =>
    obtain ⟨k, hk, hgg, rfl, HL, HB⟩ := hrel
    by_cases hlt : k < n
    · obtain rfl := HAD.out (by omega)
      have hA := h.below HB.out
      have h0 := hA.c0 k hlt
      have h1 := hA.c1 k hlt
      have h2 := hA.c2 k hlt
      have h3 := hA.c3 k hlt
      have h4 := hA.c4 k hlt
      have ty := hA.typed k hlt
      have hs := Lib.hid (show madeL f (k + 1) = (madeL f k).act (f k) from rfl)
      clear hA
      generalize f k = x at *
      obtain ⟨kd, p, q, cc, N⟩ := x
      dsimp only at *
      have t0 := ty.kind; have t1 := ty.a; have t2 := ty.b; have t3 := ty.c; have t4 := ty.n0; have t5 := ty.n1
      dsimp only at t0 t1 t2 t3 t4 t5
      clear ty
      have HH := HL.out
      have hsz := HB.out.size
      have hA1 : ∀ o : Obj, LedgerAt (wr.alloc o) (w.heap.size + 1) w.heap.size (madeL f k) := fun o => HH.below ((Below.refl _ _).alloc (Nat.le_refl _) _)
      have HB1 := fun (o : Obj) => HB.out.alloc HB.out.size o
      have hA1 := Lib.hid hA1; have HB1 := Lib.hid HB1
      clear HH
      have hr : kd % 8 = 0 ∨ kd % 8 = 1 ∨ kd % 8 = 2 ∨ kd % 8 = 3 ∨ kd % 8 = 4 ∨ kd % 8 = 5 ∨ kd % 8 = 6 ∨ kd % 8 = 7 := by omega
      rcases hr with hr | hr | hr | hr | hr | hr | hr | hr
      · have hi : (kd : Int) % 8 = 0 := by omega
        have HR := Lib.hid hr; clear hr
        go_wp2_with (go_at_call 27; refine (open_any (hA1.out _) p t1).mono ?_; rintro e w2 ⟨rfl, hC, hL⟩; have HC := Lib.hid hC; have HL2 := Lib.hid hL; clear hC hL)
        go_roundg (n - (k + 1))
        case measure => omega
        case rel => exact ⟨k + 1, by omega, by omega, by go_num, by rw [hs.out]; unfold Ledger.act; simp only [HR.out]; exact HL2.out, below_of_chg (HB1.out _) HC.out (by simp)⟩
      · have hi : (kd : Int) % 8 = 1 := by omega
        have HR := Lib.hid hr; clear hr
        go_wp2_with (go_at_call 28; refine (trust_any (hA1.out _) p q cc t1 t2 t3 N).mono ?_; rintro e w2 ⟨rfl, hC, hL⟩; have HC := Lib.hid hC; have HL2 := Lib.hid hL; clear hC hL)
        go_roundg (n - (k + 1))
        case measure => omega
        case rel => exact ⟨k + 1, by omega, by omega, by go_num, by rw [hs.out]; unfold Ledger.act; simp only [HR.out]; exact HL2.out, below_of_chg (HB1.out _) HC.out (by simp)⟩
      · have hi : (kd : Int) % 8 = 2 := by omega
        have HR := Lib.hid hr; clear hr
        go_wp2_with (go_at_call 28; refine (trust_any (hA1.out _) p q cc t1 t2 t3 N).mono ?_; rintro e w2 ⟨rfl, hC, hL⟩; have HC := Lib.hid hC; have HL2 := Lib.hid hL; clear hC hL)
        go_roundg (n - (k + 1))
        case measure => omega
        case rel => exact ⟨k + 1, by omega, by omega, by go_num, by rw [hs.out]; unfold Ledger.act; simp only [HR.out]; exact HL2.out, below_of_chg (HB1.out _) HC.out (by simp)⟩
      · have hi : (kd : Int) % 8 = 3 := by omega
        have HR := Lib.hid hr; clear hr
        go_wp2_with (go_at_call 43; refine (push_any (hA1.out _) p q cc N).mono ?_; rintro e w2 ⟨rfl, hC, hL⟩; have HC := Lib.hid hC; have HL2 := Lib.hid hL; clear hC hL)
        go_roundg (n - (k + 1))
        case measure => omega
        case rel => exact ⟨k + 1, by omega, by omega, by go_num, by rw [hs.out]; unfold Ledger.act; simp only [HR.out]; exact HL2.out, below_of_chg (HB1.out _) HC.out (by simp)⟩
      · have hi : (kd : Int) % 8 = 4 := by omega
        have HR := Lib.hid hr; clear hr
        go_wp2_with (go_at_call 43; refine (push_any (hA1.out _) p q cc N).mono ?_; rintro e w2 ⟨rfl, hC, hL⟩; have HC := Lib.hid hC; have HL2 := Lib.hid hL; clear hC hL)
        go_roundg (n - (k + 1))
        case measure => omega
        case rel => exact ⟨k + 1, by omega, by omega, by go_num, by rw [hs.out]; unfold Ledger.act; simp only [HR.out]; exact HL2.out, below_of_chg (HB1.out _) HC.out (by simp)⟩
      · have hi : (kd : Int) % 8 = 5 := by omega
        have HR := Lib.hid hr; clear hr
        go_wp2_with (go_at_call 43; refine (push_any (hA1.out _) p q cc N).mono ?_; rintro e w2 ⟨rfl, hC, hL⟩; have HC := Lib.hid hC; have HL2 := Lib.hid hL; clear hC hL)
        go_roundg (n - (k + 1))
        case measure => omega
        case rel => exact ⟨k + 1, by omega, by omega, by go_num, by rw [hs.out]; unfold Ledger.act; simp only [HR.out]; exact HL2.out, below_of_chg (HB1.out _) HC.out (by simp)⟩
      · have hi : (kd : Int) % 8 = 6 := by omega
        have HR := Lib.hid hr; clear hr
        go_wp2_with (go_at_call 48; refine (forgive_any (hA1.out _) p q cc N t5).mono ?_; rintro e w2 ⟨rfl, hC, hL⟩; have HC := Lib.hid hC; have HL2 := Lib.hid hL; clear hC hL)
        go_roundg (n - (k + 1))
        case measure => omega
        case rel => exact ⟨k + 1, by omega, by omega, by go_num, by rw [hs.out]; unfold Ledger.act; simp only [HR.out]; exact HL2.out, below_of_chg (HB1.out _) HC.out (by simp)⟩
      · have hi : (kd : Int) % 8 = 7 := by omega
        have HR := Lib.hid hr; clear hr
        go_wp2
        go_roundg (n - (k + 1))
        case measure => omega
        case rel => exact ⟨k + 1, by omega, by omega, by go_num, by rw [hs.out]; unfold Ledger.act; simp only [HR.out]; exact hA1.out _, HB1.out _⟩
    · go_wp2
      go_ret
      obtain rfl : k = n := by omega
      exact ⟨_, _, rfl, HB.out, by omega, by omega, HL.out⟩
end Go.Proofs.Ytelcdiceongfdaa
end
