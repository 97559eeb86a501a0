/-
  The laws' arguments as they lie in memory: acts, offers, a world of both, an ask.
-/
import Derived.Test.YtelcdiceongfdaaMoP18
import Derived.Test.YtelcdiceongfdaaRows
import Derived.WalkKit
import Derived.ProofKit
import Derived.OpenShut
import Derived.ChangeOld
import Derived.Below
import Derived.Deep.Slices
namespace Go.Proofs.Ytelcdiceongfdaa
open Go.ChangeShapes Go.WideShapes Go.ChangeAt Go.RowKit

theorem own : ownKnob Try.prog.godebug = none := by kernel_rfl
theorem laidOut : laidOutB Try.prog = true := by kernel_rfl

theorem array6 {α : Type} {cs : Array α} (h : cs.size = 6) : ∃ c0 c1 c2 c3 c4 c5, cs = #[c0, c1, c2, c3, c4, c5] := by
  obtain ⟨l⟩ := cs
  match l, h with
  | [c0, c1, c2, c3, c4, c5], _ => exact ⟨c0, c1, c2, c3, c4, c5, rfl⟩
theorem array2 {α : Type} {cs : Array α} (h : cs.size = 2) : ∃ c0 c1, cs = #[c0, c1] := by
  obtain ⟨l⟩ := cs
  match l, h with
  | [c0, c1], _ => exact ⟨c0, c1, rfl⟩
theorem list2 {α : Type} {l : List α} (h : l.length = 2) : ∃ c0 c1, l = [c0, c1] := by
  match l, h with
  | [c0, c1], _ => exact ⟨c0, c1, rfl⟩
theorem list5 {α : Type} {l : List α} (h : l.length = 5) : ∃ c0 c1 c2 c3 c4, l = [c0, c1, c2, c3, c4] := by
  match l, h with
  | [c0, c1, c2, c3, c4], _ => exact ⟨c0, c1, c2, c3, c4, rfl⟩
theorem list6 {α : Type} {l : List α} (h : l.length = 6) : ∃ c0 c1 c2 c3 c4 c5, l = [c0, c1, c2, c3, c4, c5] := by
  match l, h with
  | [c0, c1, c2, c3, c4, c5], _ => exact ⟨c0, c1, c2, c3, c4, c5, rfl⟩
theorem list7 {α : Type} {l : List α} (h : l.length = 7) : ∃ c0 c1 c2 c3 c4 c5 c6, l = [c0, c1, c2, c3, c4, c5, c6] := by
  match l, h with
  | [c0, c1, c2, c3, c4, c5, c6], _ => exact ⟨c0, c1, c2, c3, c4, c5, c6, rfl⟩
theorem u8_wf {a : Int} (h : (Lit.int .u8 a).wf = true) : ∃ n : Nat, a = n ∧ n < 256 := by
  have e1 : IntKind.u8.min = 0 := rfl
  have e2 : IntKind.u8.max = 255 := rfl
  have : 0 ≤ a ∧ a ≤ 255 := by simp [Lit.wf] at h; omega
  exact ⟨a.toNat, by omega, by omega⟩
theorem u64_wf {a : Int} (h : (Lit.int .u64 a).wf = true) : ∃ n : Nat, a = n ∧ n < 18446744073709551616 := by
  have e1 : IntKind.u64.min = 0 := rfl
  have e2 : IntKind.u64.max = 18446744073709551615 := rfl
  have : 0 ≤ a ∧ a ≤ 18446744073709551615 := by simp [Lit.wf] at h; omega
  exact ⟨a.toNat, by omega, by omega⟩
theorem i64_wf {a : Int} (h : (Lit.int .i64 a).wf = true) : -9223372036854775808 ≤ a ∧ a ≤ 9223372036854775807 := by
  have e1 : IntKind.i64.min = -9223372036854775808 := rfl
  have e2 : IntKind.i64.max = 9223372036854775807 := rfl
  simp [Lit.wf] at h; omega

theorem choose_fn {α : Type} [Inhabited α] {n : Nat} {Q : Nat → α → Prop} (h : ∀ i, i < n → ∃ y, Q i y) : ∃ f : Nat → α, ∀ i, i < n → Q i (f i) :=
  ⟨fun i => if h' : i < n then Classical.choose (h i h') else default, fun i hi => by dsimp only; rw [dif_pos hi]; exact Classical.choose_spec (h i hi)⟩

section
variable {H : Type} {enc : TypeId × Value → H} {W : World} {base : Nat} {spare : Nat → Bool} {held : Bool}

set_option maxRecDepth 100000 in
theorem act_open {fuel : Nat} {cs : List Value} {x : DataW H × List MemPlace} (h : DataW.trod enc Try.prog W base spare held fuel 111 cs = some x) :
    ∃ y : Act, y.typed ∧ cs = [.int .u8 y.kind, .int .u8 y.a, .int .u8 y.b, .int .u8 y.c, .int .i64 y.n] := by
  obtain ⟨xs, m, _, _, hl, hlen, hg⟩ := DataW.trod_struct Try.underlying111 h
  have hc : Try.prog.cellsOf 111 = 5 := by kernel_rfl
  rw [hc] at hl
  obtain ⟨c0, c1, c2, c3, c4, rfl⟩ := list5 hl
  have k0 : Try.prog.cellsOf 5 = 1 := by kernel_rfl
  have k1 : Try.prog.cellsOf 23 = 1 := by kernel_rfl
  have k2 : Try.prog.cellsOf 53 = 1 := by kernel_rfl
  have k3 : Try.prog.cellsOf 2 = 1 := by kernel_rfl
  obtain ⟨y0, y1, y2, y3, y4, rfl⟩ := list5 hlen
  have f0 := hg 0 _ rfl
  have f1 := hg 1 _ rfl
  have f2 := hg 2 _ rfl
  have f3 := hg 3 _ rfl
  have f4 := hg 4 _ rfl
  simp only [List.getElem_toArray, List.getElem_cons_zero, List.getElem_cons_succ, List.getElem?_cons_zero, List.getElem?_cons_succ, k0, k1, k2, k3, List.drop_zero, List.drop_succ_cons, List.take_succ_cons, List.take_zero] at f0 f1 f2 f3 f4
  obtain ⟨a0, e0, -, w0⟩ := DataW.trod_int Try.underlying5 f0
  obtain ⟨a1, e1, -, w1⟩ := DataW.trod_int Try.underlying23 f1
  obtain ⟨a2, e2, -, w2⟩ := DataW.trod_int Try.underlying23 f2
  obtain ⟨a3, e3, -, w3⟩ := DataW.trod_int Try.underlying53 f3
  obtain ⟨a4, e4, -, w4⟩ := DataW.trod_int Try.underlying2 f4
  simp only [List.cons.injEq, and_true] at e0 e1 e2 e3 e4
  obtain ⟨n0, rfl, g0⟩ := u8_wf w0
  obtain ⟨n1, rfl, g1⟩ := u8_wf w1
  obtain ⟨n2, rfl, g2⟩ := u8_wf w2
  obtain ⟨n3, rfl, g3⟩ := u8_wf w3
  have g4 := i64_wf w4
  subst e0 e1 e2 e3 e4
  exact ⟨⟨n0, n1, n2, n3, a4⟩, ⟨g0, g1, g2, g3, g4.1, g4.2⟩, rfl⟩

set_option maxRecDepth 100000 in
theorem offer_open {fuel : Nat} {cs : List Value} {x : DataW H × List MemPlace} (h : DataW.trod enc Try.prog W base spare held fuel 57 cs = some x) :
    ∃ y : Offer, y.typed ∧ cs = y.enc := by
  obtain ⟨xs, m, _, _, hl, hlen, hg⟩ := DataW.trod_struct Try.underlying57 h
  have hc : Try.prog.cellsOf 57 = 7 := by kernel_rfl
  rw [hc] at hl
  obtain ⟨c0, c1, c2, c3, c4, c5, c6, rfl⟩ := list7 hl
  have k0 : Try.prog.cellsOf 22 = 1 := by kernel_rfl
  have k1 : Try.prog.cellsOf 23 = 1 := by kernel_rfl
  have k2 : Try.prog.cellsOf 53 = 1 := by kernel_rfl
  have k3 : Try.prog.cellsOf 2 = 1 := by kernel_rfl
  have k4 : Try.prog.cellsOf 55 = 2 := by kernel_rfl
  obtain ⟨y0, y1, y2, y3, y4, y5, rfl⟩ := list6 hlen
  have f0 := hg 0 _ rfl
  have f1 := hg 1 _ rfl
  have f2 := hg 2 _ rfl
  have f3 := hg 3 _ rfl
  have f4 := hg 4 _ rfl
  have f5 := hg 5 _ rfl
  simp only [List.getElem_toArray, List.getElem_cons_zero, List.getElem_cons_succ, List.getElem?_cons_zero, List.getElem?_cons_succ, k0, k1, k2, k3, k4, List.drop_zero, List.drop_succ_cons, List.take_succ_cons, List.take_zero] at f0 f1 f2 f3 f4 f5
  obtain ⟨zs, m2, _, _, _, zlen, zg⟩ := DataW.trod_struct Try.underlying55 f5
  obtain ⟨z0, z1, rfl⟩ := list2 zlen
  have f6 := zg 0 _ rfl
  have f7 := zg 1 _ rfl
  simp only [List.getElem_toArray, List.getElem_cons_zero, List.getElem_cons_succ, List.getElem?_cons_zero, List.getElem?_cons_succ, k3, List.drop_zero, List.drop_succ_cons, List.take_succ_cons, List.take_zero] at f6 f7
  obtain ⟨a0, e0, -, w0⟩ := DataW.trod_int Try.underlying22 f0
  obtain ⟨a1, e1, -, w1⟩ := DataW.trod_int Try.underlying23 f1
  obtain ⟨a2, e2, -, w2⟩ := DataW.trod_int Try.underlying53 f2
  obtain ⟨a3, e3, -, w3⟩ := DataW.trod_int Try.underlying53 f3
  obtain ⟨a4, e4, -, w4⟩ := DataW.trod_int Try.underlying2 f4
  obtain ⟨a5, e5, -, w5⟩ := DataW.trod_int Try.underlying2 f6
  obtain ⟨a6, e6, -, w6⟩ := DataW.trod_int Try.underlying2 f7
  simp only [List.cons.injEq, and_true] at e0 e1 e2 e3 e4 e5 e6
  obtain ⟨n0, rfl, g0⟩ := u64_wf w0
  obtain ⟨n1, rfl, g1⟩ := u8_wf w1
  obtain ⟨n2, rfl, g2⟩ := u8_wf w2
  obtain ⟨n3, rfl, g3⟩ := u8_wf w3
  have g4 := i64_wf w4
  have g5 := i64_wf w5
  have g6 := i64_wf w6
  subst e0 e1 e2 e3 e4 e5 e6
  exact ⟨⟨n0, n1, n2, n3, a4, a5, a6⟩, ⟨g0, g1, g2, g3, g4.1, g4.2, g5.1, g5.2, g6.1, g6.2⟩, rfl⟩

theorem acts_open {fuel : Nat} {cs : List Value} {x : DataW H × List MemPlace} (h : DataW.trod enc Try.prog W base (fun _ => true) held fuel 48 cs = some x) :
    ∃ (ad : Option Addr) (n c b o : Nat) (f : Nat → Act), cs = [.slice ad n c] ∧ (0 < n → ad = some ⟨b, o, none⟩) ∧ ActsIn W b o n f ∧ n ≤ maxLen := by
  rcases Go.Deep.open_slice Try.underlying48 h with ⟨rfl, -⟩ | ⟨a, len, cap, m, k, D, Pl, rfl, -, hl, hm, hmm, -, hi⟩
  · exact ⟨none, 0, 0, 0, 0, fun _ => default, rfl, fun h => absurd h (by omega), ⟨fun i hi => absurd hi (by omega), fun i hi => absurd hi (by omega), fun i hi => absurd hi (by omega), fun i hi => absurd hi (by omega), fun i hi => absurd hi (by omega), fun i hi => absurd hi (by omega)⟩, by unfold maxLen; omega⟩
  · have hc : Try.prog.cellsOf 111 = 5 := by kernel_rfl
    rw [if_pos rfl] at hmm
    subst hmm
    rw [hc] at hi
    have hex : ∀ i, i < len → ∃ y : Act, y.typed ∧ ∀ j, j < 5 → W.cell? (a.add (i * 5 + j)) = [.int .u8 y.kind, .int .u8 y.a, .int .u8 y.b, .int .u8 y.c, .int .i64 y.n][j]? := fun i hl' => by
      obtain ⟨cs', hcs, ht⟩ := hi i (by omega)
      obtain ⟨y, hy, rfl⟩ := act_open ht
      obtain ⟨_, _, hat⟩ := World.cells?_some hcs
      exact ⟨y, hy, fun j hj => by rw [← Go.Deep.add_add]; exact hat j hj⟩
    by_cases h0 : 0 < len
    · obtain ⟨y0, _, hy0⟩ := hex 0 h0
      have hsp : a.spot = none := World.cell?_spot (v := .int .u8 y0.kind) (by have := hy0 0 (by omega); simpa [Addr.add] using this)
      obtain ⟨b, o, sp⟩ := a
      dsimp only at hsp
      subst hsp
      have hadd : ∀ k, (⟨b, o, none⟩ : Addr).add k = ⟨b, o + k, none⟩ := fun k => by
        cases k with
        | zero => rfl
        | succ k => rw [Addr.add_succ']
      obtain ⟨f, spec⟩ := choose_fn hex
      refine ⟨some ⟨b, o, none⟩, len, m, b, o, f, rfl, fun _ => rfl, ⟨fun i hl' => ?_, fun i hl' => ?_, fun i hl' => ?_, fun i hl' => ?_, fun i hl' => ?_, fun i hl' => ?_⟩, by omega⟩
      · have := (spec i hl').2 0 (by omega); rw [hadd] at this; exact this
      · have := (spec i hl').2 1 (by omega); rw [hadd] at this; exact this
      · have := (spec i hl').2 2 (by omega); rw [hadd] at this; exact this
      · have := (spec i hl').2 3 (by omega); rw [hadd] at this; exact this
      · have := (spec i hl').2 4 (by omega); rw [hadd] at this; exact this
      · exact (spec i hl').1
    · exact ⟨some a, len, m, 0, 0, fun _ => default, rfl, fun h => absurd h h0, ⟨fun i hi => absurd hi (by omega), fun i hi => absurd hi (by omega), fun i hi => absurd hi (by omega), fun i hi => absurd hi (by omega), fun i hi => absurd hi (by omega), fun i hi => absurd hi (by omega)⟩, by omega⟩

theorem offers_open {fuel : Nat} {cs : List Value} {x : DataW H × List MemPlace} (h : DataW.trod enc Try.prog W base (fun _ => true) held fuel 36 cs = some x) :
    ∃ (ad : Option Addr) (n c b o : Nat) (f : Nat → Offer), cs = [.slice ad n c] ∧ (0 < n → ad = some ⟨b, o, none⟩) ∧ OffersIn W b o n f ∧ n ≤ maxLen := by
  rcases Go.Deep.open_slice Try.underlying36 h with ⟨rfl, -⟩ | ⟨a, len, cap, m, k, D, Pl, rfl, -, hl, hm, hmm, -, hi⟩
  · exact ⟨none, 0, 0, 0, 0, fun _ => default, rfl, fun h => absurd h (by omega), ⟨fun i hi => absurd hi (by omega), fun i hi => absurd hi (by omega), fun i hi => absurd hi (by omega), fun i hi => absurd hi (by omega), fun i hi => absurd hi (by omega), fun i hi => absurd hi (by omega), fun i hi => absurd hi (by omega), fun i hi => absurd hi (by omega)⟩, by unfold maxLen; omega⟩
  · have hc : Try.prog.cellsOf 57 = 7 := by kernel_rfl
    rw [if_pos rfl] at hmm
    subst hmm
    rw [hc] at hi
    have hex : ∀ i, i < len → ∃ y : Offer, y.typed ∧ ∀ j, j < 7 → W.cell? (a.add (i * 7 + j)) = y.enc[j]? := fun i hl' => by
      obtain ⟨cs', hcs, ht⟩ := hi i (by omega)
      obtain ⟨y, hy, rfl⟩ := offer_open ht
      obtain ⟨_, _, hat⟩ := World.cells?_some hcs
      exact ⟨y, hy, fun j hj => by rw [← Go.Deep.add_add]; exact hat j hj⟩
    by_cases h0 : 0 < len
    · obtain ⟨y0, _, hy0⟩ := hex 0 h0
      have hsp : a.spot = none := World.cell?_spot (v := .int .u64 y0.seq) (by have := hy0 0 (by omega); simpa [Addr.add, Offer.enc] using this)
      obtain ⟨b, o, sp⟩ := a
      dsimp only at hsp
      subst hsp
      have hadd : ∀ k, (⟨b, o, none⟩ : Addr).add k = ⟨b, o + k, none⟩ := fun k => by
        cases k with
        | zero => rfl
        | succ k => rw [Addr.add_succ']
      obtain ⟨f, spec⟩ := choose_fn hex
      refine ⟨some ⟨b, o, none⟩, len, m, b, o, f, rfl, fun _ => rfl, ⟨fun i hl' => ?_, fun i hl' => ?_, fun i hl' => ?_, fun i hl' => ?_, fun i hl' => ?_, fun i hl' => ?_, fun i hl' => ?_, fun i hl' => ?_⟩, by omega⟩
      · have := (spec i hl').2 0 (by omega); rw [hadd] at this; exact this
      · have := (spec i hl').2 1 (by omega); rw [hadd] at this; exact this
      · have := (spec i hl').2 2 (by omega); rw [hadd] at this; exact this
      · have := (spec i hl').2 3 (by omega); rw [hadd] at this; exact this
      · have := (spec i hl').2 4 (by omega); rw [hadd] at this; exact this
      · have := (spec i hl').2 5 (by omega); rw [hadd] at this; exact this
      · have := (spec i hl').2 6 (by omega); rw [hadd] at this; exact this
      · exact (spec i hl').1
    · exact ⟨some a, len, m, 0, 0, fun _ => default, rfl, fun h => absurd h h0, ⟨fun i hi => absurd hi (by omega), fun i hi => absurd hi (by omega), fun i hi => absurd hi (by omega), fun i hi => absurd hi (by omega), fun i hi => absurd hi (by omega), fun i hi => absurd hi (by omega), fun i hi => absurd hi (by omega), fun i hi => absurd hi (by omega)⟩, by omega⟩
end

/-- a world of acts and offers, as it lies in memory -/
structure WorldIn (W : World) (ad1 : Option Addr) (b1 o1 n1 : Nat) (f : Nat → Act) (ad2 : Option Addr) (b2 o2 n2 : Nat) (g : Nat → Offer) : Prop where
  a1 : 0 < n1 → ad1 = some ⟨b1, o1, none⟩
  h1 : ActsIn W b1 o1 n1 f
  a2 : 0 < n2 → ad2 = some ⟨b2, o2, none⟩
  h2 : OffersIn W b2 o2 n2 g
  m1 : n1 ≤ maxLen
  m2 : n2 ≤ maxLen

set_option maxRecDepth 100000 in
theorem world_open {H : Type} {enc : TypeId × Value → H} {W : World} {b0 : Nat} {v : Value} {d : DataW H} {p : List MemPlace} (hv : Value.okWide Try.prog W .any b0 50 v) (h : DataW.Trod enc Try.prog W 0 (fun _ => true) true 50 v d p) :
    ∃ ad1 n1 c1 b1 o1 f ad2 n2 c2 b2 o2 g, v = .agg #[.slice ad1 n1 c1, .slice ad2 n2 c2] ∧ WorldIn W ad1 b1 o1 n1 f ad2 b2 o2 n2 g := by
  obtain ⟨cs, rfl, hsz⟩ := okWide_struct Try.underlying50 hv
  have hc : Try.prog.cellsOf 50 = 2 := by kernel_rfl
  rw [hc] at hsz
  obtain ⟨c0, c1, rfl⟩ := array2 hsz
  obtain ⟨fuel, hf⟩ := h
  obtain ⟨xs, m, _, _, hl, hlen, hg⟩ := DataW.trod_struct Try.underlying50 hf
  have k0 : Try.prog.cellsOf 48 = 1 := by kernel_rfl
  have k1 : Try.prog.cellsOf 36 = 1 := by kernel_rfl
  obtain ⟨y0, y1, rfl⟩ := list2 hlen
  have f0 := hg 0 _ rfl
  have f1 := hg 1 _ rfl
  simp only [List.getElem_toArray, List.getElem_cons_zero, List.getElem_cons_succ, List.getElem?_cons_zero, List.getElem?_cons_succ, Value.cells, k0, k1, List.drop_zero, List.drop_succ_cons, List.take_succ_cons, List.take_zero] at f0 f1
  obtain ⟨ad1, n1, q1, b1, o1, f, e1, a1, h1, m1⟩ := acts_open f0
  obtain ⟨ad2, n2, q2, b2, o2, g, e2, a2, h2, m2⟩ := offers_open f1
  simp only [List.cons.injEq, and_true] at e1 e2
  subst e1 e2
  exact ⟨ad1, n1, q1, b1, o1, f, ad2, n2, q2, b2, o2, g, rfl, a1, h1, a2, h2, m1, m2⟩
end Go.Proofs.Ytelcdiceongfdaa
