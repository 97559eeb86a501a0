/-
  A region that draws its order, whose first n operations give one value in every world of a class and whose other operations wait for them, one behind the other: it may be walked in the order of the text. No conditions but those that are computed from the region.
  The ledger's map in memory: what a look-up, a store, a delete do to it, in terms of the abstract ledger.
  Walks of the layer ledgers (but its list of lines): each method of a ledger in memory gives what the abstract ledger says, and turns the ledger's map, or its parties, alone.
  Walks of the layer ledgers, second part: what turns a ledger in memory, and its copy.
  Walks of the layer ledgers, third part: a line, its limit, what is forgiven; a new ledger, and another one with the same.
-/
import Derived.Test.YtelcdiceongfdaaMoP1
import Derived.StillTail
import Derived.Test.YtelcdiceongfdaaModel
section
namespace Go.Proofs.Ytelcdiceongfdaa
open Go.RowKit

def edgesBack (l : List Oper) (n : Nat) : Bool := (List.range n).all fun i => match l[i]? with | some o => o.after.all fun e => decide (e.on < i) | none => true
def headListed (n m : Nat) : Array Bool := Array.replicate n true ++ Array.replicate m false
def tailOK (l : List Oper) (n : Nat) : Bool :=
  decide (n < l.length) && Region.lexB .any (l.take n).toArray && edgesBack l n && Region.sinkB .any l.toArray n && Region.chainB .any l.toArray n && Region.seqB .any l.toArray (l.length - n) n (headListed n (l.length - n))

def unlisted (n : Nat) (listed : Array Bool) : Nat := ((List.range n).filter fun i => !listed.getD i true).length

theorem unlisted_zero {n : Nat} {listed : Array Bool} (h : unlisted n listed = 0) {i : Nat} (hi : i < n) : listed.getD i true = true := by
  unfold unlisted at h
  rw [List.length_eq_zero_iff, List.filter_eq_nil_iff] at h
  have := h i (List.mem_range.2 hi)
  simpa using this

theorem filter_set_length (n i : Nat) (p q : Nat → Bool) (hi : i < n) (hp : p i = true) (hq : q i = false) (h : ∀ j, j ≠ i → q j = p j) :
    ((List.range n).filter q).length + 1 = ((List.range n).filter p).length := by
  induction n with
  | zero => omega
  | succ n ih =>
    rw [List.range_succ, List.filter_append, List.filter_append, List.length_append, List.length_append]
    by_cases e : i = n
    · subst e
      have : (List.range i).filter q = (List.range i).filter p := List.filter_congr fun j hj => h j (by have := List.mem_range.1 hj; omega)
      simp [this, hp, hq]
    · have := ih (by omega)
      have h2 := h n (fun e' => e e'.symm)
      by_cases h3 : p n = true <;> simp [h2, h3] <;> omega

theorem ready_head {l : List Oper} {n : Nat} {listed listed' : Array Bool} (hE : edgesBack l n = true) (hL : ∀ i, i < n → ∀ d, listed'.getD i d = listed.getD i d) (i : Nat) (hi : i < n) :
    i ∈ Region.ready .any l.toArray listed ↔ i ∈ Region.ready .any (l.take n).toArray listed' := by
  rw [mem_ready, mem_ready, hL i hi]
  have hg : (l.take n).toArray[i]? = l.toArray[i]? := by simp [hi]
  rw [hg]
  refine and_congr_right fun _ => ?_
  constructor
  · rintro ⟨o, ho, h⟩
    refine ⟨o, ho, fun e he hb => ?_⟩
    have := List.all_eq_true.1 hE i (List.mem_range.2 hi)
    have ho' : l[i]? = some o := by simpa using ho
    rw [ho'] at this
    have := Array.all_eq_true_iff_forall_mem.1 this e he
    rw [hL _ (by simp at this; omega)]
    exact h e he hb
  · rintro ⟨o, ho, h⟩
    refine ⟨o, ho, fun e he hb => ?_⟩
    have := List.all_eq_true.1 hE i (List.mem_range.2 hi)
    have ho' : l[i]? = some o := by simpa using ho
    rw [ho'] at this
    have := Array.all_eq_true_iff_forall_mem.1 this e he
    rw [← hL _ (by simp at this; omega)]
    exact h e he hb

theorem yielded_take (l : List Oper) (n j : Nat) (hj : j < n) (t : Array Value) : yielded (l.take n).toArray t j = yielded l.toArray t j := by
  simp [yielded, hj]

/-- a head operation's guard looks back -/
def guardsBack (l : List Oper) (n : Nat) : Bool := (List.range n).all fun i => match l[i]? with | some o => (match o.guard with | some (j, _) => decide (j < n) | none => true) | none => true

theorem wanted_take {l : List Oper} {n i : Nat} {o : Oper} (hG : guardsBack l n = true) (hi : i < n) (ho : l[i]? = some o) (t : Array Value) :
    Region.wanted o (yielded (l.take n).toArray t) = Region.wanted o (yielded l.toArray t) := by
  have h1 := List.all_eq_true.1 hG i (List.mem_range.2 hi)
  rw [ho] at h1
  unfold Region.wanted
  cases hg : o.guard with
  | none => rfl
  | some p =>
    obtain ⟨j, b⟩ := p
    dsimp only at h1
    rw [hg] at h1
    simp only [decide_eq_true_eq] at h1
    simp only [yielded_take l n j h1]

theorem qOp_take {P : Program} {C : World → Prop} {l : List Oper} {n i : Nat} (hG : guardsBack l n = true) (hi : i < n) {K : Act → Prop} {a : Act}
    (h : qOp P (l.take n).toArray C i K a) : qOp P l.toArray C i K a := by
  unfold qOp at *
  have hg : (l.take n).toArray[i]? = l.toArray[i]? := by simp [hi]
  rw [hg] at h
  cases ho : l.toArray[i]? with
  | none => rw [ho] at h; exact h
  | some o =>
    rw [ho] at h
    have ho' : l[i]? = some o := by simpa using ho
    dsimp only at h ⊢
    rw [wanted_take hG hi ho'] at h
    exact h

theorem wpAny_quiet_tail {P : Program} {C : World → Prop} {Q : Exit → Act → World → Prop} {l : List Oper} {n : Nat} (hB : tailOK l n = true) (hG : guardsBack l n = true) :
    ∀ (f : Nat) (listed listed' : Array Bool) (a : Act) (w : World), HeadInv .any l.toArray n listed → listed'.size = n → (∀ i, i < n → ∀ d, listed'.getD i d = listed.getD i d) → unlisted n listed = f →
      wpAnyQ P .any (l.take n).toArray C (fun a' => ∀ w', C w' → wpList P l.toArray Q (l.drop n) a' w') f listed' a → C w →
      wpAny P .any l.toArray Q (f + (l.length - n)) listed a w := by
  simp only [tailOK, Bool.and_eq_true, decide_eq_true_eq] at hB
  obtain ⟨⟨⟨⟨⟨hn, _⟩, hE⟩, hs⟩, hc⟩, hseq⟩ := hB
  have hn' : n < l.toArray.size := by simpa using hn
  intro f
  induction f with
  | zero =>
    intro listed listed' a w inv hs' hL hu hq hC
    have hall : listed = headListed n (l.length - n) := by
      apply Array.ext
      · rw [inv.size]; simp [headListed]; omega
      · intro i h1 h2
        have e1 : listed.getD i true = listed[i] := by simp [h1]
        rcases Nat.lt_or_ge i n with hi | hi
        · have := unlisted_zero hu hi
          rw [← e1, this]; simp [headListed, hi]
        · have := inv.tail i hi (by rw [← inv.size]; exact h1)
          rw [← e1, this]
          simp [headListed, hi]
    rw [hall, Nat.zero_add]
    have := wpAny_of_seq (md := .any) (Q' := Q) (P := P) (ops := l.toArray) (l.drop n) n (headListed n (l.length - n)) a w (fun j => by simp [List.getElem?_drop]) (by simpa using hseq) (hq.2 w hC)
    simpa using this
  | succ f ih =>
    intro listed listed' a w inv hs' hL hu hq hC
    obtain ⟨i0, hi0, hu0⟩ : ∃ i, i < n ∧ listed.getD i true = false := by
      by_cases h : ∃ i, i < n ∧ listed.getD i true = false
      · exact h
      · exfalso
        have : (List.range n).filter (fun i => !listed.getD i true) = [] := by
          rw [List.filter_eq_nil_iff]
          intro i hi hh
          exact h ⟨i, List.mem_range.1 hi, by simpa using hh⟩
        rw [unlisted, this] at hu
        simp at hu
    have htail := tail_waits hs hc hn' inv _ i0 rfl hi0 hu0
    -- the least that is not listed is ready
    have hne : Region.ready .any l.toArray listed ≠ [] := by
      have key : ∀ k i, i ≤ k → i < n → listed.getD i true = false → Region.ready .any l.toArray listed ≠ [] := by
        intro k
        induction k with
        | zero =>
          intro i hik hin hui hr
          obtain rfl : i = 0 := by omega
          have : (0 : Nat) ∈ Region.ready .any l.toArray listed := by
            rw [mem_ready]
            refine ⟨hui, l[0], by simp, fun e he _ => ?_⟩
            have h1 := List.all_eq_true.1 hE 0 (List.mem_range.2 hin)
            rw [List.getElem?_eq_getElem (by omega)] at h1
            have := Array.all_eq_true_iff_forall_mem.1 h1 e he
            simp at this
          rw [hr] at this; cases this
        | succ k ihk =>
          intro i hik hin hui hr
          by_cases hex : ∃ j, j < i ∧ listed.getD j true = false
          · obtain ⟨j, hj, huj⟩ := hex
            exact ihk j (by omega) (by omega) huj hr
          · have : i ∈ Region.ready .any l.toArray listed := by
              rw [mem_ready]
              refine ⟨hui, l[i], by simp, fun e he _ => ?_⟩
              have h1 := List.all_eq_true.1 hE i (List.mem_range.2 hin)
              rw [List.getElem?_eq_getElem (by omega)] at h1
              have := Array.all_eq_true_iff_forall_mem.1 h1 e he
              simp only [decide_eq_true_eq] at this
              have h2 : ¬ listed.getD e.on true = false := fun h => hex ⟨e.on, this, h⟩
              have hsz : e.on < listed.size := by rw [inv.size]; omega
              simp [hsz] at h2 ⊢
              exact h2
            rw [hr] at this; cases this
      exact key i0 i0 (Nat.le_refl _) hi0 hu0
    rw [show f + 1 + (l.length - n) = (f + (l.length - n)) + 1 by omega]
    refine ⟨fun h => absurd h hne, fun i hi => ?_⟩
    have hin : i < n := by
      rcases Nat.lt_or_ge i n with h | h
      · exact h
      · exact absurd hi (htail i h)
    have hi' := (ready_head hE hL i hin).1 hi
    have hqi := qOp_take (P := P) (C := C) hG hin (hq.2 i hi')
    have hui := (mem_ready.1 hi).1
    refine wpOp_of_qOp hC (fun a' w' hC' hK => ?_) hqi
    refine ih (listed.setIfInBounds i true) (listed'.setIfInBounds i true) a' w' (inv.set hi hin) (by simpa using hs') (fun j hj d => ?_) ?_ hK hC'
    · by_cases e : i = j
      · subst e
        have h1 : i < listed.size := by rw [inv.size]; omega
        have h2 : i < listed'.size := by omega
        simp [h1, h2]
      · rw [getD_set_ne d e, getD_set_ne d e]; exact hL j hj d
    · have h1 : i < listed.size := by rw [inv.size]; omega
      have := filter_set_length n i (fun i => !listed.getD i true) (fun j => !(listed.setIfInBounds i true).getD j true) hin (by simpa using hui) (by simp [h1]) (fun j hj => by rw [getD_set_ne true (Ne.symm hj)])
      unfold unlisted at hu ⊢
      omega

/-- A REGION WALKED IN THE ORDER OF THE TEXT: a head that is quiet in the class of later worlds, and a tail that waits for it. -/
theorem wpAny_later_tail {P : Program} {Q : Exit → Act → World → Prop} {a : Act} {w : World} {l : List Oper} (n : Nat) (hB : tailOK l n = true) (hG : guardsBack l n = true)
    (h : wpQuiet P (l.take n).toArray (fun w' => ∃ x : Later w, w' = x.w) (fun a' => ∀ w', (∃ x : Later w, w' = x.w) → wpList P l.toArray Q (l.drop n) a' w') (l.take n) a) : wpAny P .any l.toArray Q l.toArray.size (Array.replicate l.toArray.size false) a { w with drawn := w.drawn + 1 } := by
  have hB' := hB
  simp only [tailOK, Bool.and_eq_true, decide_eq_true_eq] at hB'
  obtain ⟨⟨⟨⟨⟨hn, hlex⟩, hE⟩, hs⟩, hc⟩, hseq⟩ := hB'
  simp only [Region.lexB, Bool.and_eq_true] at hlex
  have htl : (l.take n).length = n := by simp; omega
  have H := wpAnyQ_lex (P := P) (C := fun w' => ∃ x : Later w, w' = x.w) (md := .any) hlex.1 (l.take n) 0 (Array.replicate (l.take n).toArray.size false) a (by simp) (by simpa using hlex.2) h
  have hsz : n + (l.length - n) = l.toArray.size := by simp; omega
  have key := wpAny_quiet_tail (P := P) (Q := Q) (C := fun w' => ∃ x : Later w, w' = x.w) hB hG n (Array.replicate l.toArray.size false) (Array.replicate (l.take n).toArray.size false) a { w with drawn := w.drawn + 1 } ⟨by simp, fun j oj _ hl => (by rw [getD_replicate_false] at hl; cases hl), fun t _ ht => getD_in (by simpa using ht) (getD_replicate_false _ _)⟩ (by simp; omega) (fun i hi d => ?_) ?_ (by rw [htl] at H; exact H) ⟨⟨w.drew, (Below.refl _ w).drew⟩, rfl⟩
  · rw [hsz] at key; exact key
  · have h2 : i < l.length := by omega
    have h3 : i < min n l.length := by omega
    simp [h2, h3]
  · unfold unlisted
    rw [List.filter_eq_self.2]
    · simp
    · intro i hi
      have := List.mem_range.1 hi
      have h2 : i < l.length := by omega
      simp [h2]

theorem wp_region_later_tail {P : Program} {id : Nat} {Q : Exit → Act → World → Prop} {a : Act} {w : World} {l : List Oper} (n : Nat) (hm : P.follows .mixedOrders = true) (hB : tailOK l n = true) (hG : guardsBack l n = true)
    (h : wpQuiet P (l.take n).toArray (fun w' => ∃ x : Later w, w' = x.w) (fun a' => ∀ w', (∃ x : Later w, w' = x.w) → wpList P l.toArray Q (l.drop n) a' w') (l.take n) a) : (Code.region id l.toArray true).wp P Q a w :=
  wp_region_any hm (wpAny_later_tail n hB hG h)

end Go.Proofs.Ytelcdiceongfdaa
end
section
namespace Go.Proofs.Ytelcdiceongfdaa
open Go.RowKit
set_option maxRecDepth 100000

def kv (a b c : Nat) : Value := .agg #[.int .u8 a, .int .u8 b, .int .u8 c]
def vv (l d : Int) : Value := .agg #[.int .i64 l, .int .i64 d]
theorem kv_inj {a b c a' b' c' : Nat} : kv a b c = kv a' b' c' ↔ a = a' ∧ b = b' ∧ c = c' := by
  simp [kv]; omega

structure MapRep (es : Array MapEntry) (clk : Nat) (A : Ledger) : Prop where
  ent : ∀ e ∈ es.toList, ∃ a b c, e.key = kv a b c ∧ e.val = vv (A.lim a b c) (A.debt a b c) ∧ 0 < A.lim a b c
  all : ∀ a b c, 0 < A.lim a b c → ∃ e ∈ es.toList, e.key = kv a b c
  keys : es.toList.Pairwise (fun x y => x.key ≠ y.key)
  born : ∀ e ∈ es.toList, e.born < clk
  borns : es.toList.Pairwise (fun x y => x.born ≠ y.born)

/-- block m is a map that reads as the ledger's lines -/
def MapAt (w : World) (m : Nat) (A : Ledger) : Prop := ∃ es clk, w.heap[m]? = some (.map es clk) ∧ MapRep es clk A

theorem MapAt.lt {w : World} {m : Nat} {A : Ledger} (h : MapAt w m A) : m < w.heap.size := by
  obtain ⟨es, clk, h, _⟩ := h
  exact lt_of_block h

@[go_sem] theorem guardEnds : (Try.prog).eqGuardType (Try.prog).depth 87 = false := by kernel_rfl
theorem eqIn_ends (a b c a' b' c' : Nat) (w : World) : (Op.equalIn 10000 87 (kv a b c) (kv a' b' c')).run Try.prog w = .ok (decide (a = a' ∧ b = b' ∧ c = c')) w := by
  have u3 := Try.underlying23
  have a3 := Try.isAgg23
  have z3 := Try.sizeOf23
  have u4 := Try.underlying53
  have a4 := Try.isAgg53
  have z4 := Try.sizeOf53
  have hS : (Try.prog).underlying 87 = some (.struct ((Try.prog).fieldsOf 87)) := by kernel_rfl
  have hp : (Try.prog).stoodInHeld 87 = false := by kernel_rfl
  unfold kv
  rw [show (10000 : Nat) = 9999 + 1 from rfl, run_equalIn_agg w 9999 87 _ _ hS hp]
  simp only [Program.fieldsOf, Try.underlying87]
  go_simp
  by_cases h1 : a = a' <;> by_cases h2 : b = b' <;> by_cases h3 : c = c' <;> simp [h1, h2, h3] <;> omega

theorem equal_ends (a b c a' b' c' : Nat) (w : World) : (Op.equal 87 (kv a b c) (kv a' b' c')).run Try.prog w = .ok (decide (a = a' ∧ b = b' ∧ c = c')) w := eqIn_ends ..

theorem checkKey_ends (em : Bool) (a b c : Nat) (w : World) : (Instr.checkKey em 10000 87 (kv a b c)).run Try.prog w = .ok () w := by
  kernel_rfl

theorem findAsking_miss (a b c : Nat) (w : World) : ∀ (es : List MapEntry) (i : Nat), (∀ e ∈ es, ∃ x y z, e.key = kv x y z ∧ ¬ (a = x ∧ b = y ∧ c = z)) →
    (Instr.findAsking 87 (kv a b c) es i).run Try.prog w = .ok none w
  | [], i, _ => rfl
  | e :: es, i, h => by
    obtain ⟨x, y, z, hk, hn⟩ := h e List.mem_cons_self
    rw [Instr.findAsking, Sem.run_bind, hk, equal_ends, decide_eq_false hn]
    exact findAsking_miss a b c w es (i + 1) fun e he => h e (List.mem_cons_of_mem _ he)

theorem findAsking_hit (a b c : Nat) (w : World) (e : MapEntry) (post : List MapEntry) (he : e.key = kv a b c) : ∀ (pre : List MapEntry) (i : Nat), (∀ e ∈ pre, ∃ x y z, e.key = kv x y z ∧ ¬ (a = x ∧ b = y ∧ c = z)) →
    (Instr.findAsking 87 (kv a b c) (pre ++ e :: post) i).run Try.prog w = .ok (some (i + pre.length, e.val)) w
  | [], i, _ => by
    rw [List.nil_append, Instr.findAsking, Sem.run_bind, he, equal_ends, decide_eq_true ⟨rfl, rfl, rfl⟩]; rfl
  | x :: pre, i, h => by
    obtain ⟨p, q, r, hk, hn⟩ := h x List.mem_cons_self
    rw [List.cons_append, Instr.findAsking, Sem.run_bind, hk, equal_ends, decide_eq_false hn]
    have := findAsking_hit a b c w e post he pre (i + 1) fun e he => h e (List.mem_cons_of_mem _ he)
    rw [show i + (x :: pre).length = i + 1 + pre.length by simp; omega]
    exact this

theorem run_findKey (a b c : Nat) (es : List MapEntry) (w : World) : (Instr.findKey 87 (kv a b c) es).run Try.prog w = (Instr.findAsking 87 (kv a b c) es 0).run Try.prog w := by
  have hu := Try.underlying87
  unfold Instr.findKey
  rw [Sem.run_bind, run_underlying hu]
  cases es with
  | nil => rfl
  | cons e es => rfl


theorem MapRep.none_of {es : Array MapEntry} {clk : Nat} {A : Ledger} (R : MapRep es clk A) {a b c : Nat} (h : ¬ 0 < A.lim a b c) :
    ∀ e ∈ es.toList, ∃ x y z, e.key = kv x y z ∧ ¬ (a = x ∧ b = y ∧ c = z) := fun e he => by
  obtain ⟨x, y, z, hk, _, hp⟩ := R.ent e he
  exact ⟨x, y, z, hk, by rintro ⟨rfl, rfl, rfl⟩; exact h hp⟩

theorem MapRep.some_of {es : Array MapEntry} {clk : Nat} {A : Ledger} (R : MapRep es clk A) {a b c : Nat} (h : 0 < A.lim a b c) :
    ∃ pre e post, es.toList = pre ++ e :: post ∧ e.key = kv a b c ∧ e.val = vv (A.lim a b c) (A.debt a b c) ∧
      (∀ e ∈ pre, ∃ x y z, e.key = kv x y z ∧ ¬ (a = x ∧ b = y ∧ c = z)) ∧ (∀ e ∈ post, ∃ x y z, e.key = kv x y z ∧ ¬ (a = x ∧ b = y ∧ c = z)) := by
  obtain ⟨e, he, hk⟩ := R.all a b c h
  obtain ⟨pre, post, hl⟩ := List.append_of_mem he
  have hK := R.keys
  rw [hl, List.pairwise_append] at hK
  obtain ⟨x, y, z, hk', hv, _⟩ := R.ent e he
  have := kv_inj.1 (hk.symm.trans hk')
  obtain ⟨rfl, rfl, rfl⟩ := this
  refine ⟨pre, e, post, hl, hk, hv, fun e' he' => ?_, fun e' he' => ?_⟩
  · obtain ⟨x, y, z, hkx, _, _⟩ := R.ent e' (by rw [hl]; simp [he'])
    refine ⟨x, y, z, hkx, ?_⟩
    rintro ⟨rfl, rfl, rfl⟩
    exact hK.2.2 e' he' e List.mem_cons_self (hkx.trans hk.symm)
  · obtain ⟨x, y, z, hkx, _, _⟩ := R.ent e' (by rw [hl]; simp [he'])
    refine ⟨x, y, z, hkx, ?_⟩
    rintro ⟨rfl, rfl, rfl⟩
    exact (List.pairwise_cons.1 hK.2.1).1 e' he' (hk.trans hkx.symm)

theorem zero_owed (w : World) : (zeroValue 89).run Try.prog w = .ok (vv 0 0) w := by kernel_rfl
theorem und_map : (Try.prog).underlying 33 = some (.map 87 89) := Try.underlying33

theorem run_getObj_map {w : World} {m : Nat} {es : Array MapEntry} {clk : Nat} (h : w.heap[m]? = some (.map es clk)) : (getObj m).run Try.prog w = .ok (.map es clk) w := by
  simp [getObj, Sem.run, h]

theorem findKey_hit {es : Array MapEntry} {clk : Nat} {A : Ledger} (R : MapRep es clk A) (w : World) {a b c : Nat} (h : 0 < A.lim a b c) :
    ∃ pre e post, es.toList = pre ++ e :: post ∧ e.key = kv a b c ∧ e.val = vv (A.lim a b c) (A.debt a b c) ∧ (Instr.findKey 87 (kv a b c) es.toList).run Try.prog w = .ok (some (pre.length, vv (A.lim a b c) (A.debt a b c))) w ∧
      (∀ e ∈ pre, ∃ x y z, e.key = kv x y z ∧ ¬ (a = x ∧ b = y ∧ c = z)) ∧ (∀ e ∈ post, ∃ x y z, e.key = kv x y z ∧ ¬ (a = x ∧ b = y ∧ c = z)) := by
  obtain ⟨pre, e, post, hl, hk, hv, h1, h2⟩ := R.some_of h
  refine ⟨pre, e, post, hl, hk, hv, ?_, h1, h2⟩
  rw [run_findKey, hl, findAsking_hit a b c w e post hk pre 0 h1, hv, Nat.zero_add]
theorem findKey_miss {es : Array MapEntry} {clk : Nat} {A : Ledger} (R : MapRep es clk A) (w : World) {a b c : Nat} (h : ¬ 0 < A.lim a b c) :
    (Instr.findKey 87 (kv a b c) es.toList).run Try.prog w = .ok none w := by
  rw [run_findKey, findAsking_miss a b c w _ 0 (R.none_of h)]

/-- 'm[k]', 'v, ok := m[k]' -/
theorem run_lookup {w : World} {m : Nat} {A : Ledger} (h : MapAt w m A) (hA : A.WF) (a b c : Nat) :
    (Instr.lookup 33 (.map (some m)) (kv a b c) false).run Try.prog w = .ok (vv (A.lim a b c) (A.debt a b c)) w ∧
    (Instr.lookup 33 (.map (some m)) (kv a b c) true).run Try.prog w = .ok (.tuple #[vv (A.lim a b c) (A.debt a b c), .bool (decide (0 < A.lim a b c))]) w := by
  obtain ⟨es, clk, hm, R⟩ := h
  have hu := und_map
  by_cases h : 0 < A.lim a b c
  · obtain ⟨pre, e, post, _, _, _, hf, _⟩ := findKey_hit R w h
    constructor
    all_goals
      unfold Instr.lookup
      simp only [Sem.run_bind, run_underlying hu, Result.andThen_ok, run_getObj_map hm, checkKey_ends]
      simp only [Sem.run_pure, Result.andThen_ok, hf]
      simp [h]
  · have hf := findKey_miss R w h
    have := hA.debt a b c
    have e1 : A.lim a b c = 0 := by omega
    have e2 : A.debt a b c = 0 := by omega
    constructor
    all_goals
      unfold Instr.lookup
      simp only [Sem.run_bind, run_underlying hu, Result.andThen_ok, run_getObj_map hm, checkKey_ends]
      simp only [Sem.run_pure, Result.andThen_ok, hf]
      simp [e1, e2, vv]

def World.putMap (w : World) (m : Nat) (es : Array MapEntry) (clk : Nat) : World := { w with heap := w.heap.setIfInBounds m (.map es clk) }

theorem run_setObj_map {w : World} {m : Nat} {es es' : Array MapEntry} {clk clk' : Nat} (h : w.heap[m]? = some (.map es clk)) : (setObj m (.map es' clk')).run Try.prog w = .ok () (World.putMap w m es' clk') := by
  simp [setObj, Sem.run, h, World.putMap]

/-- the line as it stands now -/
def _root_.Go.Proofs.Ytelcdiceongfdaa.Ledger.setLine (A : Ledger) (a b c : Nat) (l d : Int) : Ledger := { A with lim := Ledger.upd A.lim a b c l, debt := Ledger.upd A.debt a b c d }

theorem keyThatStays_ends (a b c : Nat) (w : World) : (Instr.keyThatStays (kv a b c) (kv a b c)).run Try.prog w = .ok (kv a b c) w := by
  have : Instr.sameBits 10000 (kv a b c) (kv a b c) = true := by
    simp [kv, Instr.sameBits]
  simp [Instr.keyThatStays, this]

theorem modify_mid (pre : List MapEntry) (e : MapEntry) (post : List MapEntry) (f : MapEntry → MapEntry) : ((pre ++ e :: post).toArray.modify pre.length f) = (pre ++ f e :: post).toArray := by
  apply Array.ext'
  simp only [Array.toList_modify]
  induction pre with
  | nil => rfl
  | cons x pre ih => simpa using ih

theorem MapRep.update_old {es : Array MapEntry} {clk : Nat} {A : Ledger} (R : MapRep es clk A) {a b c : Nat} {l d : Int} (hl : 0 < l) {pre post : List MapEntry} {e : MapEntry} (he : es.toList = pre ++ e :: post) (hk : e.key = kv a b c) :
    MapRep (pre ++ { e with key := kv a b c, val := vv l d } :: post).toArray clk (A.setLine a b c l d) := by
  have hK := R.keys
  rw [he] at hK
  have hBs := R.borns
  rw [he] at hBs
  refine ⟨fun x hx => ?_, fun x y z hp => ?_, ?_, fun x hx => ?_, ?_⟩
  · simp only [List.mem_append, List.mem_cons] at hx
    rcases hx with hx | rfl | hx
    · obtain ⟨p, q, r, hk', hv, hp⟩ := R.ent x (by rw [he]; simp [hx])
      have hn : ¬ (p = a ∧ q = b ∧ r = c) := by
        rintro ⟨rfl, rfl, rfl⟩
        exact (List.pairwise_append.1 hK).2.2 x hx e List.mem_cons_self (hk'.trans hk.symm)
      exact ⟨p, q, r, hk', by simp only [Ledger.setLine, Ledger.upd_other hn]; exact hv, by simp only [Ledger.setLine, Ledger.upd_other hn]; exact hp⟩
    · exact ⟨a, b, c, rfl, by simp only [Ledger.setLine, Ledger.upd_same], by simp only [Ledger.setLine, Ledger.upd_same]; exact hl⟩
    · obtain ⟨p, q, r, hk', hv, hp⟩ := R.ent x (by rw [he]; simp [hx])
      have hn : ¬ (p = a ∧ q = b ∧ r = c) := by
        rintro ⟨rfl, rfl, rfl⟩
        exact (List.pairwise_cons.1 (List.pairwise_append.1 hK).2.1).1 x hx (hk.trans hk'.symm)
      exact ⟨p, q, r, hk', by simp only [Ledger.setLine, Ledger.upd_other hn]; exact hv, by simp only [Ledger.setLine, Ledger.upd_other hn]; exact hp⟩
  · by_cases hn : x = a ∧ y = b ∧ z = c
    · obtain ⟨rfl, rfl, rfl⟩ := hn
      exact ⟨_, by simp only [List.mem_append, List.mem_cons]; exact .inr (.inl rfl), rfl⟩
    · simp only [Ledger.setLine, Ledger.upd_other hn] at hp
      obtain ⟨e', he', hk'⟩ := R.all x y z hp
      rw [he] at he'
      simp only [List.mem_append, List.mem_cons] at he'
      rcases he' with h1 | rfl | h1
      · exact ⟨e', by simp [h1], hk'⟩
      · exact absurd (kv_inj.1 (hk'.symm.trans hk)) hn
      · exact ⟨e', by simp [h1], hk'⟩
  · show (pre ++ { e with key := kv a b c, val := vv l d } :: post).Pairwise _
    rw [List.pairwise_append, List.pairwise_cons] at hK ⊢
    refine ⟨hK.1, ⟨fun x hx => ?_, hK.2.1.2⟩, fun x hx y hy => ?_⟩
    · have := hK.2.1.1 x hx; rw [hk] at this; exact this
    · rcases List.mem_cons.1 hy with rfl | hy
      · have := hK.2.2 x hx e List.mem_cons_self; rw [hk] at this; exact this
      · exact hK.2.2 x hx y (List.mem_cons_of_mem _ hy)
  · simp only [List.mem_append, List.mem_cons] at hx
    rcases hx with hx | rfl | hx
    · exact R.born x (by rw [he]; simp [hx])
    · exact R.born e (by rw [he]; simp)
    · exact R.born x (by rw [he]; simp [hx])
  · show (pre ++ { e with key := kv a b c, val := vv l d } :: post).Pairwise _
    rw [List.pairwise_append, List.pairwise_cons] at hBs ⊢
    refine ⟨hBs.1, ⟨fun x hx => hBs.2.1.1 x hx, hBs.2.1.2⟩, fun x hx y hy => ?_⟩
    rcases List.mem_cons.1 hy with rfl | hy
    · exact hBs.2.2 x hx e List.mem_cons_self
    · exact hBs.2.2 x hx y (List.mem_cons_of_mem _ hy)

theorem MapRep.update_new {es : Array MapEntry} {clk : Nat} {A : Ledger} (R : MapRep es clk A) {a b c : Nat} {l d : Int} (hl : 0 < l) (hn : ¬ 0 < A.lim a b c) :
    MapRep (es.push { key := kv a b c, val := vv l d, born := clk }) (clk + 1) (A.setLine a b c l d) := by
  refine ⟨fun x hx => ?_, fun x y z hp => ?_, ?_, fun x hx => ?_, ?_⟩
  · simp only [Array.toList_push, List.mem_append, List.mem_singleton] at hx
    rcases hx with hx | rfl
    · obtain ⟨p, q, r, hk', hv, hp⟩ := R.ent x hx
      have hn : ¬ (p = a ∧ q = b ∧ r = c) := by rintro ⟨rfl, rfl, rfl⟩; exact hn hp
      exact ⟨p, q, r, hk', by simp only [Ledger.setLine, Ledger.upd_other hn]; exact hv, by simp only [Ledger.setLine, Ledger.upd_other hn]; exact hp⟩
    · exact ⟨a, b, c, rfl, by simp only [Ledger.setLine, Ledger.upd_same], by simp only [Ledger.setLine, Ledger.upd_same]; exact hl⟩
  · by_cases hn : x = a ∧ y = b ∧ z = c
    · obtain ⟨rfl, rfl, rfl⟩ := hn
      exact ⟨{ key := kv x y z, val := vv l d, born := clk }, by simp, rfl⟩
    · simp only [Ledger.setLine, Ledger.upd_other hn] at hp
      obtain ⟨e', he', hk'⟩ := R.all x y z hp
      exact ⟨e', by rw [Array.toList_push]; simp only [List.mem_append]; exact .inl he', hk'⟩
  · rw [Array.toList_push, List.pairwise_append]
    refine ⟨R.keys, List.pairwise_singleton _ _, fun x hx y hy => ?_⟩
    obtain rfl := List.mem_singleton.1 hy
    obtain ⟨p, q, r, hk', _, hp⟩ := R.ent x hx
    intro h
    have := kv_inj.1 (hk'.symm.trans h)
    obtain ⟨rfl, rfl, rfl⟩ := this
    exact hn hp
  · simp only [Array.toList_push, List.mem_append, List.mem_singleton] at hx
    rcases hx with hx | rfl
    · have := R.born x hx; omega
    · show clk < clk + 1; omega
  · rw [Array.toList_push, List.pairwise_append]
    refine ⟨R.borns, List.pairwise_singleton _ _, fun x hx y hy => ?_⟩
    obtain rfl := List.mem_singleton.1 hy
    have := R.born x hx
    show x.born ≠ clk
    omega

/-- 'm[k] = v' -/
theorem run_mapUpdate {w : World} {m : Nat} {A : Ledger} (h : MapAt w m A) (a b c : Nat) (l d : Int) (hl : 0 < l) :
    ∃ es' clk', (Instr.mapUpdate 33 (.map (some m)) (kv a b c) (vv l d)).run Try.prog w = .ok () (World.putMap w m es' clk') ∧ MapRep es' clk' (A.setLine a b c l d) := by
  obtain ⟨es, clk, hm, R⟩ := h
  have hu := und_map
  by_cases h : 0 < A.lim a b c
  · obtain ⟨pre, e, post, he, hk, hv, hf, _⟩ := findKey_hit R w h
    have he' : es = (pre ++ e :: post).toArray := by rw [← he]
    have hg : ((es[pre.length]?).map (·.key)).getD (kv a b c) = kv a b c := by rw [he']; simp [hk]
    refine ⟨_, clk, ?_, R.update_old (l := l) (d := d) hl he hk⟩
    unfold Instr.mapUpdate
    simp only [Sem.run_bind, run_underlying hu, Result.andThen_ok, run_getObj_map hm, checkKey_ends, hf, hg, keyThatStays_ends]
    rw [he', modify_mid]
    exact run_setObj_map hm
  · have hf := findKey_miss R w h
    refine ⟨_, clk + 1, ?_, R.update_new (l := l) (d := d) hl h⟩
    unfold Instr.mapUpdate
    simp only [Sem.run_bind, run_underlying hu, Result.andThen_ok, run_getObj_map hm, checkKey_ends, hf]
    exact run_setObj_map hm

theorem MapRep.erase {es : Array MapEntry} {clk : Nat} {A : Ledger} (R : MapRep es clk A) {a b c : Nat} {pre post : List MapEntry} {e : MapEntry} (he : es.toList = pre ++ e :: post) (hk : e.key = kv a b c) :
    MapRep (pre ++ post).toArray clk (A.setLim a b c 0) := by
  have hK := R.keys
  rw [he] at hK
  have hBs := R.borns
  rw [he] at hBs
  have hmem : ∀ x, x ∈ pre ++ post → x ∈ es.toList ∧ x.key ≠ kv a b c := fun x hx => by
    rcases List.mem_append.1 hx with hx | hx
    · exact ⟨by rw [he]; simp [hx], fun h => (List.pairwise_append.1 hK).2.2 x hx e List.mem_cons_self (h.trans hk.symm)⟩
    · exact ⟨by rw [he]; simp [hx], fun h => (List.pairwise_cons.1 (List.pairwise_append.1 hK).2.1).1 x hx (hk.trans h.symm)⟩
  refine ⟨fun x hx => ?_, fun x y z hp => ?_, ?_, fun x hx => R.born x (hmem x hx).1, ?_⟩
  · obtain ⟨h1, h2⟩ := hmem x hx
    obtain ⟨p, q, r, hk', hv, hp⟩ := R.ent x h1
    have hn : ¬ (p = a ∧ q = b ∧ r = c) := by rintro ⟨rfl, rfl, rfl⟩; exact h2 hk'
    exact ⟨p, q, r, hk', by simp only [Ledger.setLim, Ledger.upd_other hn]; exact hv, by simp only [Ledger.setLim, Ledger.upd_other hn]; exact hp⟩
  · by_cases hn : x = a ∧ y = b ∧ z = c
    · obtain ⟨rfl, rfl, rfl⟩ := hn
      simp [Ledger.setLim, Ledger.upd_same] at hp
    · simp only [Ledger.setLim, Ledger.upd_other hn] at hp
      obtain ⟨e', he', hk'⟩ := R.all x y z hp
      rw [he] at he'
      simp only [List.mem_append, List.mem_cons] at he'
      rcases he' with h1 | rfl | h1
      · exact ⟨e', by simp [h1], hk'⟩
      · exact absurd (kv_inj.1 (hk'.symm.trans hk)) hn
      · exact ⟨e', by simp [h1], hk'⟩
  · show (pre ++ post).Pairwise _
    rw [List.pairwise_append, List.pairwise_cons] at hK
    exact List.pairwise_append.2 ⟨hK.1, hK.2.1.2, fun x hx y hy => hK.2.2 x hx y (List.mem_cons_of_mem _ hy)⟩
  · show (pre ++ post).Pairwise _
    rw [List.pairwise_append, List.pairwise_cons] at hBs
    exact List.pairwise_append.2 ⟨hBs.1, hBs.2.1.2, fun x hx y hy => hBs.2.2 x hx y (List.mem_cons_of_mem _ hy)⟩

theorem MapRep.congr {es : Array MapEntry} {clk : Nat} {A B : Ledger} (R : MapRep es clk A) (hl : A.lim = B.lim) (hd : A.debt = B.debt) : MapRep es clk B :=
  ⟨by rw [← hl, ← hd]; exact R.ent, by rw [← hl]; exact R.all, R.keys, R.born, R.borns⟩

/-- 'delete(m, k)' -/
theorem run_mapDelete {w : World} {m : Nat} {A : Ledger} (h : MapAt w m A) (hA : A.WF) (a b c : Nat) (ty : TypeId) :
    ∃ es' clk', (Builtin.delete_ #[33, 87] ty #[.map (some m), kv a b c]).run Try.prog w = .ok (.tuple #[]) (World.putMap w m es' clk') ∧ MapRep es' clk' (A.setLim a b c 0) := by
  obtain ⟨es, clk, hm, R⟩ := h
  have hu := und_map
  by_cases h : 0 < A.lim a b c
  · obtain ⟨pre, e, post, he, hk, hv, hf, _⟩ := findKey_hit R w h
    have he' : es = (pre ++ e :: post).toArray := by rw [← he]
    refine ⟨_, clk, ?_, R.erase he hk⟩
    have hx : es.eraseIdxIfInBounds pre.length = (pre ++ post).toArray := by
      rw [he']; apply Array.ext'; simp [List.eraseIdx_append_of_length_le]
    simp only [Builtin.delete_, Sem.run_bind, run_underlying hu, Result.andThen_ok, run_getObj_map hm, checkKey_ends, hf, hx, run_setObj_map hm, List.getElem?_toArray, List.getElem?_cons_zero, List.getElem?_cons_succ]
    rfl
  · have hf := findKey_miss R w h
    have h0 : A.lim a b c = 0 := by have := hA.debt a b c; omega
    refine ⟨es, clk, ?_, R.congr (by funext x y z; by_cases e : x = a ∧ y = b ∧ z = c
                                     · obtain ⟨rfl, rfl, rfl⟩ := e; simp [Ledger.setLim, Ledger.upd_same, h0]
                                     · simp [Ledger.setLim, Ledger.upd_other e]) rfl⟩
    simp only [Builtin.delete_, Sem.run_bind, run_underlying hu, Result.andThen_ok, run_getObj_map hm, checkKey_ends, hf, run_setObj_map hm, List.getElem?_toArray, List.getElem?_cons_zero, List.getElem?_cons_succ]
    rfl

/-! ### the world behind a store into the map -/
theorem putMap_size (w : World) (m : Nat) (es : Array MapEntry) (clk : Nat) : (World.putMap w m es clk).heap.size = w.heap.size := by simp [World.putMap]
theorem putMap_other {w : World} {m k : Nat} {es : Array MapEntry} {clk : Nat} (h : k ≠ m) : (World.putMap w m es clk).heap[k]? = w.heap[k]? := by
  simp [World.putMap, Ne.symm h]
theorem putMap_at {w : World} {m : Nat} {es : Array MapEntry} {clk : Nat} {A : Ledger} (h : m < w.heap.size) (R : MapRep es clk A) : MapAt (World.putMap w m es clk) m A :=
  ⟨es, clk, by simp [World.putMap, h], R⟩

/-- what w had is as it was but for the blocks of S; nothing is gone -/
structure Chg (S : List Nat) (w w' : World) : Prop where
  os : w'.os = w.os
  tape : w'.tape = w.tape
  output : w'.output = w.output
  size : w.heap.size ≤ w'.heap.size
  block : ∀ k, k < w.heap.size → k ∉ S → w'.heap[k]? = w.heap[k]?

theorem Chg.refl (S : List Nat) (w : World) : Chg S w w := ⟨rfl, rfl, rfl, Nat.le_refl _, fun _ _ _ => rfl⟩
theorem Chg.of_below {S : List Nat} {w w' : World} (h : Below w.heap.size w w') : Chg S w w' := ⟨h.os, h.tape, h.output, h.size, fun k hk _ => h.block k hk⟩
theorem Chg.below {w w' : World} (h : Chg [] w w') : Below w.heap.size w w' := ⟨h.os, h.tape, h.output, h.size, fun k hk => h.block k hk (by simp)⟩
theorem Chg.trans {S S' : List Nat} {a b c : World} (h : Chg S a b) (k : Chg S' b c) (hS : ∀ x, x ∈ S' → x < a.heap.size → x ∈ S) : Chg S a c :=
  ⟨k.os.trans h.os, k.tape.trans h.tape, k.output.trans h.output, Nat.le_trans h.size k.size, fun i hi hn =>
    (k.block i (Nat.lt_of_lt_of_le hi h.size) (fun hm => hn (hS i hm hi))).trans (h.block i hi hn)⟩
theorem Chg.mono {S S' : List Nat} {a b : World} (h : Chg S a b) (hS : ∀ x, x ∈ S → x < a.heap.size → x ∈ S') : Chg S' a b :=
  ⟨h.os, h.tape, h.output, h.size, fun i hi hn => h.block i hi (fun hm => hn (hS i hm hi))⟩
theorem Chg.putMap {S : List Nat} (w : World) (m : Nat) (es : Array MapEntry) (clk : Nat) (hm : m ∈ S) : Chg S w (World.putMap w m es clk) :=
  ⟨rfl, rfl, rfl, by rw [putMap_size]; exact Nat.le_refl _, fun k _ hn => putMap_other (fun e => hn (e ▸ hm))⟩
theorem Chg.cell {S : List Nat} {w w' : World} (h : Chg S w w') {b o : Nat} (hb : b < w.heap.size) (hn : b ∉ S) : w'.cell? ⟨b, o, none⟩ = w.cell? ⟨b, o, none⟩ := World.cell?_of_block (w := w) (a := ⟨b, o, none⟩) (h.block b hb hn)
theorem Chg.frozen {S : List Nat} {w w' : World} (h : Chg S w w') {b o : Nat} (hb : b < w.heap.size) (hn : b ∉ S) : w'.frozen? ⟨b, o, none⟩ = w.frozen? ⟨b, o, none⟩ := World.frozen?_of_block (w := w) (a := ⟨b, o, none⟩) (h.block b hb hn)
theorem MapAt.chg {S : List Nat} {w w' : World} {m : Nat} {A : Ledger} (h : MapAt w m A) (hc : Chg S w w') (hn : m ∉ S) : MapAt w' m A := by
  have hl := h.lt
  obtain ⟨es, clk, h, R⟩ := h
  exact ⟨es, clk, (hc.block m hl hn).trans h, R⟩
theorem MapAt.below {w w' : World} {m : Nat} {A : Ledger} (h : MapAt w m A) (hb : Below w.heap.size w w') : MapAt w' m A := h.chg (S := []) (Chg.of_below hb) (by simp)
theorem MapAt.later {w : World} {m : Nat} {A : Ledger} (h : MapAt w m A) (x : Later w) : MapAt x.w m A := h.below x.b
theorem MapAt.alloc {w : World} {m : Nat} {A : Ledger} (h : MapAt w m A) (o : Obj) : MapAt (w.alloc o) m A := h.below ((Below.refl _ _).alloc (Nat.le_refl _) _)
theorem MapAt.setCell {w : World} {m : Nat} {A : Ledger} (h : MapAt w m A) (p : Addr) (v : Value) : MapAt (w.setCell p v) m A := by
  obtain ⟨es, clk, h, R⟩ := h
  refine ⟨es, clk, ?_, R⟩
  by_cases e : m = p.block
  · subst e
    have hlt := lt_of_block h
    have h' : w.heap[p.block] = .map es clk := by simpa [Array.getElem?_eq_getElem hlt] using h
    show (w.heap.modify p.block _)[p.block]? = _
    rw [Array.getElem?_eq_getElem (by simpa using hlt), Array.getElem_modify_self, h']
  · rw [Below.heap_setCell _ _ _ _ e]; exact h
theorem MapAt.drew {w : World} {m : Nat} {A : Ledger} (h : MapAt w m A) : MapAt w.drew m A := h

end Go.Proofs.Ytelcdiceongfdaa
end
section
namespace Go.Proofs.Ytelcdiceongfdaa
open Go.RowKit Go.BigFrame
set_option maxRecDepth 100000

@[go_sem] theorem mapAt_drew (w : World) (m : Nat) (A : Ledger) : MapAt w.drew m A = MapAt w m A := propext ⟨fun h => h, fun h => h⟩
@[go_sem] theorem mapAt_alloc (w : World) (o : Obj) (m : Nat) (A : Ledger) (h : m < w.heap.size) : MapAt (w.alloc o) m A = MapAt w m A := by
  unfold MapAt; simp only [Below.heap_alloc w o m h]
@[go_sem] theorem mapAt_alloc2 (w : World) (o o' : Obj) (m : Nat) (A : Ledger) (h : m < w.heap.size) : MapAt ((w.alloc o).alloc o') m A = MapAt w m A := by
  rw [mapAt_alloc _ _ _ _ (by simp; omega), mapAt_alloc _ _ _ _ h]
@[go_sem] theorem mapAt_alloc3 (w : World) (o o' o'' : Obj) (m : Nat) (A : Ledger) (h : m < w.heap.size) : MapAt (((w.alloc o).alloc o').alloc o'') m A = MapAt w m A := by
  rw [mapAt_alloc _ _ _ _ (by simp; omega), mapAt_alloc2 _ _ _ _ _ h]
@[go_sem] theorem mapAt_later {w : World} (x : Later w) (m : Nat) (A : Ledger) (h : m < w.heap.size) : MapAt x.w m A = MapAt w m A := by
  unfold MapAt; simp only [x.block m h]
@[go_sem] theorem mapAt_setCell (w : World) (q : Addr) (v : Value) (m : Nat) (A : Ledger) : MapAt (w.setCell q v) m A = MapAt w m A := by
  refine propext ⟨fun h => ?_, fun h => h.setCell q v⟩
  obtain ⟨es, clk, h, R⟩ := h
  refine ⟨es, clk, ?_, R⟩
  by_cases e : m = q.block
  · subst e
    have hlt : q.block < w.heap.size := by have := lt_of_block h; simpa [World.setCell] using this
    have h2 : (w.heap.modify q.block fun o => match o with
      | .cells c elem frozen => .cells (if q.spot.isSome then c else c.setIfInBounds q.off v) elem frozen
      | o => o)[q.block]? = some (.map es clk) := h
    rw [Array.getElem?_eq_getElem (by simpa using hlt), Array.getElem_modify_self] at h2
    rw [Array.getElem?_eq_getElem hlt]
    generalize w.heap[q.block] = o at h2 ⊢
    cases o <;> simp_all
  · rw [Below.heap_setCell _ _ _ _ e] at h; exact h
@[go_sem] theorem neqMap (w : World) (r : Option Nat) : (binOp .neq 33 (.map r) (.map none)).run Try.prog w = .ok (.bool !r.isNone) w := run_neq_map_nil w _ _ _ r und_map
@[go_sem] theorem eqlMap (w : World) (r : Option Nat) : (binOp .eql 33 (.map r) (.map none)).run Try.prog w = .ok (.bool r.isNone) w := run_eql_map_nil w _ _ _ r und_map

def ledgerCells (A : Ledger) (m : Nat) : Array Value :=
  #[.bool (A.has 0), .bool (A.has 1), .bool (A.has 2), .bool (A.has 3), .bool (A.has 4), .bool (A.has 5), .bool (A.has 6), .bool (A.has 7), .bool (A.has 8), .bool (A.has 9), .bool (A.has 10), .bool (A.has 11), .bool (A.has 12), .bool (A.has 13), .bool (A.has 14), .bool (A.has 15), .bool (A.has 16), .map (some m)]

theorem ledgerCells_has (A : Ledger) (m p : Nat) (h : p ≤ 16) : (ledgerCells A m)[p]? = some (.bool (A.has p)) := by
  have : p = 0 ∨ p = 1 ∨ p = 2 ∨ p = 3 ∨ p = 4 ∨ p = 5 ∨ p = 6 ∨ p = 7 ∨ p = 8 ∨ p = 9 ∨ p = 10 ∨ p = 11 ∨ p = 12 ∨ p = 13 ∨ p = 14 ∨ p = 15 ∨ p = 16 := by omega
  rcases this with rfl | rfl | rfl | rfl | rfl | rfl | rfl | rfl | rfl | rfl | rfl | rfl | rfl | rfl | rfl | rfl | rfl <;> rfl

/-- block b is a ledger whose map is block m, that reads as A -/
structure LedgerAt (w : World) (b m : Nat) (A : Ledger) : Prop where
  blk : w.heap[b]? = some (.cells (ledgerCells A m) 35 (0, 0))
  map : MapAt w m A
  wf : A.WF

theorem LedgerAt.lt {w : World} {b m : Nat} {A : Ledger} (h : LedgerAt w b m A) : b < w.heap.size := lt_of_block h.blk
theorem LedgerAt.ne {w : World} {b m : Nat} {A : Ledger} (h : LedgerAt w b m A) : b ≠ m := by
  rintro rfl
  obtain ⟨es, clk, hm, _⟩ := h.map
  rw [h.blk] at hm; cases hm
theorem LedgerAt.has {w : World} {b m : Nat} {A : Ledger} (h : LedgerAt w b m A) {p : Nat} (hp : p ≤ 16) : w.cell? ⟨b, p, none⟩ = some (.bool (A.has p)) := by
  simp [World.cell?, h.blk, ledgerCells_has A m p hp]
theorem LedgerAt.mapc {w : World} {b m : Nat} {A : Ledger} (h : LedgerAt w b m A) : w.cell? ⟨b, 17, none⟩ = some (.map (some m)) := by
  simp [World.cell?, h.blk, ledgerCells]
theorem LedgerAt.free {w : World} {b m : Nat} {A : Ledger} (h : LedgerAt w b m A) (o : Nat) : w.frozen? ⟨b, o, none⟩ = false := by
  simp [World.frozen?, h.blk]
theorem LedgerAt.chg {S : List Nat} {w w' : World} {b m : Nat} {A : Ledger} (h : LedgerAt w b m A) (hc : Chg S w w') (hb : b ∉ S) (hm : m ∉ S) : LedgerAt w' b m A :=
  ⟨(hc.block b h.lt hb).trans h.blk, h.map.chg hc hm, h.wf⟩
theorem LedgerAt.below {w w' : World} {b m : Nat} {A : Ledger} (h : LedgerAt w b m A) (hb : Below w.heap.size w w') : LedgerAt w' b m A := h.chg (S := []) (Chg.of_below hb) (by simp) (by simp)

theorem look_rule {m : Nat} {A : Ledger} (hA : A.WF) : ∀ W, MapAt W m A → ∀ a b c : Nat, (Instr.lookup 33 (.map (some m)) (.agg #[.int .u8 a, .int .u8 b, .int .u8 c]) false).run Try.prog W = .ok (.agg #[.int .i64 (A.lim a b c), .int .i64 (A.debt a b c)]) W :=
  fun _ h a b c => (run_lookup h hA a b c).1
theorem look_rule2 {m : Nat} {A : Ledger} (hA : A.WF) : ∀ W, MapAt W m A → ∀ a b c : Nat, (Instr.lookup 33 (.map (some m)) (.agg #[.int .u8 a, .int .u8 b, .int .u8 c]) true).run Try.prog W = .ok (.tuple #[.agg #[.int .i64 (A.lim a b c), .int .i64 (A.debt a b c)], .bool (decide (0 < A.lim a b c))]) W :=
  fun _ h a b c => (run_lookup h hA a b c).2

/-! ### there, may -/
theorem there_yes {w : World} {b m : Nat} (hc : w.cell? ⟨b, 17, none⟩ = some (.map (some m))) :
    Calls Try.prog 33 #[.pointer (some ⟨b, 0, none⟩)] w fun e w' => e = .returned (.bool true) ∧ w = w' := by
  go_enter Try.func33, Try.ntmps33
  go_wp2
  go_ret
  exact ⟨rfl, rfl⟩
/-- what is no ledger: nothing, or one that no call made -/
def NoLedger (w : World) (p : Option Addr) : Prop := p = none ∨ ∃ b, p = some ⟨b, 0, none⟩ ∧ w.cell? ⟨b, 17, none⟩ = some (.map none)
theorem there_no {w : World} {p : Option Addr} (h : NoLedger w p) :
    Calls Try.prog 33 #[.pointer p] w fun e w' => e = .returned (.bool false) ∧ w = w' := by
  rcases h with rfl | ⟨b, rfl, hc⟩
  all_goals
    go_enter Try.func33, Try.ntmps33
    go_wp2
    go_ret
    exact ⟨rfl, rfl⟩
theorem NoLedger.below {w w' : World} {p : Option Addr} (h : NoLedger w p) (hb : Below w.heap.size w w') : NoLedger w' p := by
  rcases h with rfl | ⟨b, rfl, hc⟩
  · exact .inl rfl
  · exact .inr ⟨b, rfl, (hb.cell (p := ⟨b, 17, none⟩) (lt_of_cell hc)).trans hc⟩

theorem ledgersMay (p : Nat) (hp : p < 256) (w : World) :
    Calls Try.prog 34 #[.int .u8 p] w fun e w' => e = .returned (.bool (decide (1 ≤ p ∧ p ≤ 16))) ∧ w = w' := by
  by_cases h1 : 1 ≤ p
  · go_enter Try.func34, Try.ntmps34
    go_wp2
    go_ret
    exact ⟨ret_bool (by rw [Bool.eq_iff_iff]; simp [h1] <;> omega), rfl⟩
  · go_enter Try.func34, Try.ntmps34
    go_wp2
    go_ret
    exact ⟨ret_bool (by simp <;> omega), rfl⟩

theorem endsMay_yes (a b c : Nat) (h : Ledger.mayEnds a b c) (w : World) :
    Calls Try.prog 46 #[.agg #[.int .u8 a, .int .u8 b, .int .u8 c]] w fun e w' => e = .returned (.bool true) ∧ Below w.heap.size w w' := by
  obtain ⟨h1, h2, h3, h4⟩ := h
  have e1 := Lib.hid (show (decide (1 ≤ a ∧ a ≤ 16)) = true by simpa using h1)
  have e2 := Lib.hid (show (decide (1 ≤ b ∧ b ≤ 16)) = true by simpa using h2)
  have h3' : ((a : Int) != b) = true := by simp; omega
  go_enter Try.func46, Try.ntmps46
  go_wp2_with (go_at_call 34; refine (ledgersMay _ (by omega) _).mono ?_; rintro e w' ⟨rfl, rfl⟩; first | rw [e1.out] | rw [e2.out])
  go_ret
  exact ⟨ret_bool (by simp; omega), (by repeat (first | with_reducible exact Below.refl _ _ | with_reducible assumption | refine Below.drew ?_ | refine Below.setCell ?_ (by first | exact Nat.le_refl _ | omega | (simp; done) | (simp; omega)) _ | refine Below.alloc ?_ (by first | exact Nat.le_refl _ | omega | (simp; done) | (simp; omega)) _ | refine Below.tr ?_ (Nat.le_refl _) (by assumption) | exact Below.refl _ _ | assumption))⟩

theorem endsMay_no (a b c : Nat) (ha : a < 256) (hb : b < 256) (hc : c < 256) (h : ¬ Ledger.mayEnds a b c) (w : World) :
    Calls Try.prog 46 #[.agg #[.int .u8 a, .int .u8 b, .int .u8 c]] w fun e w' => e = .returned (.bool false) ∧ Below w.heap.size w w' := by
  by_cases h1 : 1 ≤ a ∧ a ≤ 16
  · have e1 := Lib.hid (show (decide (1 ≤ a ∧ a ≤ 16)) = true by simpa using h1)
    by_cases h2 : 1 ≤ b ∧ b ≤ 16
    · have e2 := Lib.hid (show (decide (1 ≤ b ∧ b ≤ 16)) = true by simpa using h2)
      by_cases h3 : a = b
      · have h3' : ((a : Int) != b) = false := by simp; omega
        have h3'' := Lib.hid h3
        clear h3
        go_enter Try.func46, Try.ntmps46
        go_wp2_with (go_at_call 34; refine (ledgersMay _ (by omega) _).mono ?_; rintro e w' ⟨rfl, rfl⟩; first | rw [e1.out] | rw [e2.out])
        go_ret
        exact ⟨rfl, (by repeat (first | with_reducible exact Below.refl _ _ | with_reducible assumption | refine Below.drew ?_ | refine Below.setCell ?_ (by first | exact Nat.le_refl _ | omega | (simp; done) | (simp; omega)) _ | refine Below.alloc ?_ (by first | exact Nat.le_refl _ | omega | (simp; done) | (simp; omega)) _ | refine Below.tr ?_ (Nat.le_refl _) (by assumption) | exact Below.refl _ _ | assumption))⟩
      · have h3' : ((a : Int) != b) = true := by simp; omega
        have h4 : c < 1 ∨ 1 ≤ c ∧ 8 < c := by
          unfold Ledger.mayEnds at h; omega
        rcases h4 with h4 | ⟨h4, h5⟩
        all_goals
          go_enter Try.func46, Try.ntmps46
          go_wp2_with (go_at_call 34; refine (ledgersMay _ (by omega) _).mono ?_; rintro e w' ⟨rfl, rfl⟩; first | rw [e1.out] | rw [e2.out])
          go_ret
          exact ⟨ret_bool (by first | rfl | (simp; omega)), (by repeat (first | with_reducible exact Below.refl _ _ | with_reducible assumption | refine Below.drew ?_ | refine Below.setCell ?_ (by first | exact Nat.le_refl _ | omega | (simp; done) | (simp; omega)) _ | refine Below.alloc ?_ (by first | exact Nat.le_refl _ | omega | (simp; done) | (simp; omega)) _ | refine Below.tr ?_ (Nat.le_refl _) (by assumption) | exact Below.refl _ _ | assumption))⟩
    · have e2 := Lib.hid (show (decide (1 ≤ b ∧ b ≤ 16)) = false by simpa using h2)
      go_enter Try.func46, Try.ntmps46
      go_wp2_with (go_at_call 34; refine (ledgersMay _ (by omega) _).mono ?_; rintro e w' ⟨rfl, rfl⟩; first | rw [e1.out] | rw [e2.out])
      go_ret
      exact ⟨rfl, (by repeat (first | with_reducible exact Below.refl _ _ | with_reducible assumption | refine Below.drew ?_ | refine Below.setCell ?_ (by first | exact Nat.le_refl _ | omega | (simp; done) | (simp; omega)) _ | refine Below.alloc ?_ (by first | exact Nat.le_refl _ | omega | (simp; done) | (simp; omega)) _ | refine Below.tr ?_ (Nat.le_refl _) (by assumption) | exact Below.refl _ _ | assumption))⟩
  · have e1 := Lib.hid (show (decide (1 ≤ a ∧ a ≤ 16)) = false by simpa using h1)
    go_enter Try.func46, Try.ntmps46
    go_wp2_with (go_at_call 34; refine (ledgersMay _ (by omega) _).mono ?_; rintro e w' ⟨rfl, rfl⟩; first | rw [e1.out] | rw [e2.out])
    go_ret
    exact ⟨rfl, (by repeat (first | with_reducible exact Below.refl _ _ | with_reducible assumption | refine Below.drew ?_ | refine Below.setCell ?_ (by first | exact Nat.le_refl _ | omega | (simp; done) | (simp; omega)) _ | refine Below.alloc ?_ (by first | exact Nat.le_refl _ | omega | (simp; done) | (simp; omega)) _ | refine Below.tr ?_ (Nat.le_refl _) (by assumption) | exact Below.refl _ _ | assumption))⟩

/-! ### Has, Room -/
theorem has_any {w : World} {b m : Nat} {A : Ledger} (h : LedgerAt w b m A) (p : Nat) (hp : p < 256) :
    Calls Try.prog 13 #[.pointer (some ⟨b, 0, none⟩), .int .u8 p] w fun e w' => e = .returned (.bool (A.has p)) ∧ w = w' := by
  by_cases h1 : 1 ≤ p ∧ p ≤ 16
  · have e1 := Lib.hid (show (decide (1 ≤ p ∧ p ≤ 16)) = true by simpa using h1)
    have hc := h.has h1.2
    obtain ⟨v, hv⟩ : ∃ v, A.has p = v := ⟨_, rfl⟩
    rw [hv] at hc ⊢
    clear hv
    go_enter Try.func13, Try.ntmps13
    go_wp2_with (first | (go_at_call 33; refine (there_yes h.mapc).mono ?_; rintro e w' ⟨rfl, rfl⟩) | (go_at_call 34; refine (ledgersMay _ (by omega) _).mono ?_; rintro e w' ⟨rfl, rfl⟩; rw [e1.out]))
    go_ret
    exact ⟨rfl, rfl⟩
  · have e1 := Lib.hid (show (decide (1 ≤ p ∧ p ≤ 16)) = false by simpa using h1)
    have hf : A.has p = false := by
      cases hA : A.has p
      · rfl
      · exact absurd (h.wf.party p hA) h1
    rw [hf]
    go_enter Try.func13, Try.ntmps13
    go_wp2_with (first | (go_at_call 33; refine (there_yes h.mapc).mono ?_; rintro e w' ⟨rfl, rfl⟩) | (go_at_call 34; refine (ledgersMay _ (by omega) _).mono ?_; rintro e w' ⟨rfl, rfl⟩; rw [e1.out]))
    go_ret
    exact ⟨rfl, rfl⟩
theorem has_no {w : World} {q : Option Addr} (h : NoLedger w q) (p : Nat) :
    Calls Try.prog 13 #[.pointer q, .int .u8 p] w fun e w' => e = .returned (.bool false) ∧ w = w' := by
  go_enter Try.func13, Try.ntmps13
  go_wp2_with (first | (go_at_call 33; refine (there_no h).mono ?_; rintro e w' ⟨rfl, rfl⟩))
  go_ret
  exact ⟨rfl, rfl⟩

theorem room_any {w : World} {b m : Nat} {A : Ledger} (h : LedgerAt w b m A) (f t c : Nat) :
    Calls Try.prog 52 #[.pointer (some ⟨b, 0, none⟩), .int .u8 f, .int .u8 t, .int .u8 c] w fun e w' => e = .returned (.int .i64 (A.room f t c)) ∧ Below w.heap.size w w' := by
  have hlk := look_rule (m := m) h.wf
  have hM := h.map
  have hc := h.mapc
  have hb := h.lt
  have hm := h.map.lt
  have d1 := h.wf.debt f t c
  have d2 := h.wf.debt t f c
  have l1 := h.wf.lim_le f t c
  have l2 := h.wf.lim_le t f c
  have hr := Lib.hid (show A.room f t c = A.debt f t c + A.lim t f c - A.debt t f c from rfl)
  go_enter Try.func52, Try.ntmps52
  go_wp2_with (first | (go_at_call 33; refine (there_yes h.mapc).mono ?_; rintro e w' ⟨rfl, rfl⟩))
  go_region
  all_goals go_wp2
  all_goals go_ret
  all_goals exact ⟨ret_int (by rw [hr.out]), (by repeat (first | with_reducible exact Below.refl _ _ | with_reducible assumption | refine Below.drew ?_ | refine Below.setCell ?_ (by first | exact Nat.le_refl _ | omega | (simp; done) | (simp; omega)) _ | refine Below.alloc ?_ (by first | exact Nat.le_refl _ | omega | (simp; done) | (simp; omega)) _ | refine Below.tr ?_ (Nat.le_refl _) (by assumption) | exact Below.refl _ _ | assumption))⟩

/-! ### stores into the map -/
theorem wpl_mapUpdate {ops : Array Oper} {Q : Exit → Act → World → Prop} {rest : List Oper} {a : Act} {w : World} {m : Nat} {A : Ledger} {dst : Option Tmp} {t : TypeId} {pos : String} {after : Array Edge} {mp k v : Operand}
    (x y z : Nat) (l d : Int) (hm : a.eval mp = .map (some m)) (hk : a.eval k = .agg #[.int .u8 x, .int .u8 y, .int .u8 z]) (hv : a.eval v = .agg #[.int .i64 l, .int .i64 d]) (hM : MapAt w m A) (hl : 0 < l)
    (h : ∀ w', Chg [m] w w' → w'.heap.size = w.heap.size → MapAt w' m (A.setLine x y z l d) → wpList Try.prog ops Q rest (a.put dst undef) w') :
    wpList Try.prog ops Q ({ dst, op := .mapUpdate 33 mp k v, type := t, pos, after, guard := none } :: rest) a w := by
  obtain ⟨es', clk', hr, R⟩ := run_mapUpdate hM x y z l d hl
  have h' := h _ (Chg.putMap (S := [m]) w m es' clk' (by simp)) (putMap_size ..) (putMap_at hM.lt R)
  unfold wpList
  rw [if_pos (by simp [Region.wanted])]
  left
  unfold Oper.wp
  have hr' : (Instr.mapUpdate 33 (.map (some m)) (.agg #[.int .u8 x, .int .u8 y, .int .u8 z]) (.agg #[.int .i64 l, .int .i64 d])).run Try.prog w = .ok () (World.putMap w m es' clk') := hr
  simp only [execOp, hm, hk, hv, Sem.run_bind, hr', Result.andThen_ok]
  exact h'

theorem _root_.Go.Proofs.Ytelcdiceongfdaa.Ledger.WF.setDebt {A : Ledger} (h : A.WF) {a b c : Nat} {d : Int} (h0 : 0 ≤ d) (h1 : d ≤ A.lim a b c) : (A.setDebt a b c d).WF := by
  refine ⟨h.party, h.line, fun x y z => ?_, ?_⟩
  · by_cases e : x = a ∧ y = b ∧ z = c
    · obtain ⟨rfl, rfl, rfl⟩ := e
      simp only [Ledger.setDebt, Ledger.upd_same]; exact ⟨h0, h1⟩
    · simp only [Ledger.setDebt, Ledger.upd_other e]; exact h.debt x y z
  · rw [Ledger.count_congr (A := A.setDebt a b c d) (B := A) rfl]; exact h.full
theorem setLine_debt {A : Ledger} {a b c : Nat} {d : Int} : (A.setLine a b c (A.lim a b c) d).lim = (A.setDebt a b c d).lim := by
  funext x y z
  by_cases e : x = a ∧ y = b ∧ z = c
  · obtain ⟨rfl, rfl, rfl⟩ := e; simp [Ledger.setDebt, Ledger.setLine, Ledger.upd_same]
  · simp [Ledger.setDebt, Ledger.setLine, Ledger.upd_other e]
theorem MapAt.congr {w : World} {m : Nat} {A B : Ledger} (h : MapAt w m A) (hl : A.lim = B.lim) (hd : A.debt = B.debt) : MapAt w m B := by
  obtain ⟨es, clk, h, R⟩ := h
  exact ⟨es, clk, h, R.congr hl hd⟩

end Go.Proofs.Ytelcdiceongfdaa
end
section
namespace Go.Proofs.Ytelcdiceongfdaa
open Go.RowKit Go.BigFrame
set_option maxRecDepth 100000

@[go_sem] theorem field_owed1 (x y : Value) (w : World) : (Instr.field 89 (.agg #[x, y]) 1).run Try.prog w = .ok y w := by kernel_rfl

def AddPost (w : World) (b m : Nat) (A : Ledger) (e : Ending) (w' : World) : Prop := e = .returned (.tuple #[]) ∧ Chg [m] w w' ∧ LedgerAt w' b m A

theorem ledgerAt_of {w w' : World} {b m : Nat} {A B : Ledger} (h : LedgerAt w b m A) (hc : Chg [m] w w') (hM : MapAt w' m B) (hh : A.has = B.has) (wf : B.WF) : LedgerAt w' b m B := by
  refine ⟨?_, hM, wf⟩
  have := (hc.block b h.lt (by simp [h.ne])).trans h.blk
  rw [this]; unfold ledgerCells; rw [hh]

set_option maxHeartbeats 400000 in
theorem add_some {w : World} {b m : Nat} {A : Ledger} (h : LedgerAt w b m A) (x y c : Nat) (n : Int) (hn : (n != 0) = true) (hl : 0 < A.lim x y c) (h0 : 0 ≤ A.debt x y c + n) (h1 : A.debt x y c + n ≤ A.lim x y c) :
    Calls Try.prog 66 #[.pointer (some ⟨b, 0, none⟩), .agg #[.int .u8 x, .int .u8 y, .int .u8 c], .int .i64 n] w (AddPost w b m (A.setDebt x y c (A.debt x y c + n))) := by
  have hlk := look_rule (m := m) h.wf
  have hM := h.map
  have hc := h.mapc
  have hb := h.lt
  have hm := h.map.lt
  have d1 := h.wf.debt x y c
  have l1 := h.wf.lim_le x y c
  have lt0_b : b < w.heap.size + 1 := (by omega); have lt1_b : b ≤ w.heap.size := (by omega); have lt2_b : b < w.heap.size + 2 := (by omega); have lt3_b : b < w.heap.size + 3 := (by omega); have lt4_b : b < w.heap.size + 4 := (by omega); have lt5_b : b < w.heap.size + 5 := (by omega)
  have lt0_m : m < w.heap.size + 1 := (by omega); have lt1_m : m ≤ w.heap.size := (by omega); have lt2_m : m < w.heap.size + 2 := (by omega); have lt3_m : m < w.heap.size + 3 := (by omega); have lt4_m : m < w.heap.size + 4 := (by omega); have lt5_m : m < w.heap.size + 5 := (by omega)
  go_enter Try.func66, Try.ntmps66
  go_wp2
  go_region
  go_wp2
  refine wp_region_later_tail 6 (by kernel_rfl) (by kernel_rfl) (by kernel_rfl) ?_; simp only [List.take_succ_cons, List.take_zero, List.drop_succ_cons, List.drop_zero]; (repeat (go_big_quiet_step (fail))); refine wpQuiet_nil ?_; rintro _ ⟨W, rfl⟩
  have hW := W.b
  refine wpl_mapUpdate (A := A) (m := m) x y c (A.lim x y c) (A.debt x y c + n) rfl rfl rfl (by go_simp) hl ?_
  intro w1 hchg hsz hM1
  go_wp2
  go_end0
  have hB : Below w.heap.size w W.w := (by repeat (first | with_reducible exact Below.refl _ _ | with_reducible assumption | refine Below.drew ?_ | refine Below.setCell ?_ (by first | exact Nat.le_refl _ | omega | (simp; done) | (simp; omega)) _ | refine Below.alloc ?_ (by first | exact Nat.le_refl _ | omega | (simp; done) | (simp; omega)) _ | refine Below.tr ?_ (Nat.le_refl _) (by assumption) | exact Below.refl _ _ | assumption))
  have hC : Chg [m] w w1 := (Chg.of_below (S := [m]) hB).trans hchg (by simp)
  exact ⟨rfl, hC, ledgerAt_of h hC (hM1.congr setLine_debt rfl) rfl (h.wf.setDebt h0 h1)⟩

theorem add_none {w : World} {b m : Nat} {A : Ledger} (h : LedgerAt w b m A) (x y c : Nat) :
    Calls Try.prog 66 #[.pointer (some ⟨b, 0, none⟩), .agg #[.int .u8 x, .int .u8 y, .int .u8 c], .int .i64 0] w (AddPost w b m A) := by
  go_enter Try.func66, Try.ntmps66
  go_wp2
  go_end0
  have hB : Below w.heap.size w (w.alloc (.cells #[.int .u8 x, .int .u8 y, .int .u8 c] 87)) := (by repeat (first | with_reducible exact Below.refl _ _ | with_reducible assumption | refine Below.drew ?_ | refine Below.setCell ?_ (by first | exact Nat.le_refl _ | omega | (simp; done) | (simp; omega)) _ | refine Below.alloc ?_ (by first | exact Nat.le_refl _ | omega | (simp; done) | (simp; omega)) _ | refine Below.tr ?_ (Nat.le_refl _) (by assumption) | exact Below.refl _ _ | assumption))
  exact ⟨rfl, Chg.of_below hB, h.below hB⟩

theorem setDebt_self (A : Ledger) (x y c : Nat) : A.setDebt x y c (A.debt x y c) = A := by
  cases A with
  | mk has lim debt =>
    simp only [Ledger.setDebt, Ledger.mk.injEq, true_and]
    funext p q r
    by_cases e : p = x ∧ q = y ∧ r = c
    · obtain ⟨rfl, rfl, rfl⟩ := e; rw [Ledger.upd_same]
    · rw [Ledger.upd_other e]
theorem add_any {w : World} {b m : Nat} {A : Ledger} (h : LedgerAt w b m A) (x y c : Nat) (n : Int) (hl : n ≠ 0 → 0 < A.lim x y c) (h0 : 0 ≤ A.debt x y c + n) (h1 : A.debt x y c + n ≤ A.lim x y c) :
    Calls Try.prog 66 #[.pointer (some ⟨b, 0, none⟩), .agg #[.int .u8 x, .int .u8 y, .int .u8 c], .int .i64 n] w (AddPost w b m (A.setDebt x y c (A.debt x y c + n))) := by
  by_cases e : n = 0
  · subst e
    rw [Int.add_zero, setDebt_self]
    exact add_none h x y c
  · exact add_some h x y c n (by simpa using e) (hl e) h0 h1

def LPost (w : World) (b m : Nat) (r : Nat × Ledger) (e : Ending) (w' : World) : Prop := e = .returned (.int .i64 r.1) ∧ Chg [m] w w' ∧ LedgerAt w' b m r.2

set_option maxHeartbeats 800000 in
theorem push_ok {w : World} {b m : Nat} {A : Ledger} (h : LedgerAt w b m A) (f t c : Nat) (n : Int) (h1 : 1 ≤ n) (h2 : n ≤ A.room f t c) :
    Calls Try.prog 43 #[.pointer (some ⟨b, 0, none⟩), .int .u8 f, .int .u8 t, .int .u8 c, .int .i64 n] w (LPost w b m (0, A.shift f t c n)) := by
  have hlk := look_rule (m := m) h.wf
  have hM := h.map
  have hc := h.mapc
  have hb := h.lt
  have hm := h.map.lt
  have d1 := h.wf.debt f t c
  have d2 := h.wf.debt t f c
  have l1 := h.wf.lim_le f t c
  have l2 := h.wf.lim_le t f c
  have hft : f ≠ t := by
    rintro rfl
    have h0 : A.lim f f c = 0 := by
      by_cases e : A.lim f f c = 0
      · exact e
      · exact absurd rfl (h.wf.line f f c e).2.2.1
    unfold Ledger.room at h2; omega
  have hr : A.room f t c = A.debt f t c + A.lim t f c - A.debt t f c := rfl
  rw [hr] at h2
  have Hr := Lib.hid hr; clear hr
  have hnl : ¬ A.room f t c < n := by rw [Hr.out]; omega
  have hsh := Lib.hid (show A.shift f t c n = (A.setDebt f t c (A.debt f t c + -(min n (A.debt f t c)))).setDebt t f c ((A.setDebt f t c (A.debt f t c + -(min n (A.debt f t c)))).debt t f c + (n - min n (A.debt f t c))) from rfl)
  have hl0 : A.lim f t c ≠ 0 → 0 < A.lim f t c := fun e => h.wf.lim_pos e
  by_cases hk : n ≤ A.debt f t c
  · have hmin : min n (A.debt f t c) = n := by omega
    rw [hmin] at hsh
    have Hmin := Lib.hid hmin; clear hmin hl0
    go_enter Try.func43, Try.ntmps43
    go_wp2_with (first | (go_at_call 33; refine (there_yes h.mapc).mono ?_; rintro e w' ⟨rfl, rfl⟩) | (go_at_call 52; refine (room_any h f t c).mono ?_; rintro e w1 ⟨rfl, hb1⟩; have h' := h.below hb1; clear hc hb hm hM; have hc := h'.mapc; have hb := h'.lt; have hm := h'.map.lt; have hM := h'.map))
    have lt0_b : b < w1.heap.size + 1 := (by omega); have lt1_b : b ≤ w1.heap.size := (by omega); have lt2_b : b < w1.heap.size + 2 := (by omega); have lt3_b : b < w1.heap.size + 3 := (by omega); have lt4_b : b < w1.heap.size + 4 := (by omega); have lt5_b : b < w1.heap.size + 5 := (by omega)
    have lt0_m : m < w1.heap.size + 1 := (by omega); have lt1_m : m ≤ w1.heap.size := (by omega); have lt2_m : m < w1.heap.size + 2 := (by omega); have lt3_m : m < w1.heap.size + 3 := (by omega); have lt4_m : m < w1.heap.size + 4 := (by omega); have lt5_m : m < w1.heap.size + 5 := (by omega)
    refine wp_region_later (by kernel_rfl) (by kernel_rfl) ?_; (repeat (go_big_quiet_step (fail))); refine wpQuiet_nil ?_; rintro _ ⟨W, rfl⟩
    have hW := W.b
    have hB1 : Below w1.heap.size w1 W.w := (by repeat (first | with_reducible exact Below.refl _ _ | with_reducible assumption | refine Below.drew ?_ | refine Below.setCell ?_ (by first | exact Nat.le_refl _ | omega | (simp; done) | (simp; omega)) _ | refine Below.alloc ?_ (by first | exact Nat.le_refl _ | omega | (simp; done) | (simp; omega)) _ | refine Below.tr ?_ (Nat.le_refl _) (by assumption) | exact Below.refl _ _ | assumption))
    have hB2 : Below w.heap.size w W.w := (by repeat (first | with_reducible exact Below.refl _ _ | with_reducible assumption | refine Below.drew ?_ | refine Below.setCell ?_ (by first | exact Nat.le_refl _ | omega | (simp; done) | (simp; omega)) _ | refine Below.alloc ?_ (by first | exact Nat.le_refl _ | omega | (simp; done) | (simp; omega)) _ | refine Below.tr ?_ (Nat.le_refl _) (by assumption) | exact Below.refl _ _ | assumption))
    have hA := h'.below hB1
    go_wp2_with (fail)
    refine (add_any hA f t c (-n) (fun _ => by omega) (by omega) (by omega)).mono ?_
    rintro e w2 ⟨rfl, hC2, hL2⟩
    go_wp2_with (fail)
    refine (add_none hL2 t f c).mono ?_
    rintro e w3 ⟨rfl, hC3, hL3⟩
    go_wp2
    go_ret
    refine ⟨rfl, ((Chg.of_below (S := [m]) hB2).trans hC2 (by simp)).trans hC3 (by simp), ?_⟩
    rw [hsh.out, Int.sub_self, Int.add_zero, setDebt_self]
    exact hL3
  · have hmin : min n (A.debt f t c) = A.debt f t c := by omega
    rw [hmin] at hsh
    have hd0 := Lib.hid (show (A.setDebt f t c (A.debt f t c + -A.debt f t c)).debt t f c = A.debt t f c from Ledger.upd_other (by rintro ⟨rfl, _, _⟩; exact hft rfl))
    have Hmin := Lib.hid hmin; clear hmin
    go_enter Try.func43, Try.ntmps43
    go_wp2_with (first | (go_at_call 33; refine (there_yes h.mapc).mono ?_; rintro e w' ⟨rfl, rfl⟩) | (go_at_call 52; refine (room_any h f t c).mono ?_; rintro e w1 ⟨rfl, hb1⟩; have h' := h.below hb1; clear hc hb hm hM; have hc := h'.mapc; have hb := h'.lt; have hm := h'.map.lt; have hM := h'.map))
    have lt0_b : b < w1.heap.size + 1 := (by omega); have lt1_b : b ≤ w1.heap.size := (by omega); have lt2_b : b < w1.heap.size + 2 := (by omega); have lt3_b : b < w1.heap.size + 3 := (by omega); have lt4_b : b < w1.heap.size + 4 := (by omega); have lt5_b : b < w1.heap.size + 5 := (by omega)
    have lt0_m : m < w1.heap.size + 1 := (by omega); have lt1_m : m ≤ w1.heap.size := (by omega); have lt2_m : m < w1.heap.size + 2 := (by omega); have lt3_m : m < w1.heap.size + 3 := (by omega); have lt4_m : m < w1.heap.size + 4 := (by omega); have lt5_m : m < w1.heap.size + 5 := (by omega)
    refine wp_region_later (by kernel_rfl) (by kernel_rfl) ?_; (repeat (go_big_quiet_step (fail))); refine wpQuiet_nil ?_; rintro _ ⟨W, rfl⟩
    have hW := W.b
    have hB1 : Below w1.heap.size w1 W.w := (by repeat (first | with_reducible exact Below.refl _ _ | with_reducible assumption | refine Below.drew ?_ | refine Below.setCell ?_ (by first | exact Nat.le_refl _ | omega | (simp; done) | (simp; omega)) _ | refine Below.alloc ?_ (by first | exact Nat.le_refl _ | omega | (simp; done) | (simp; omega)) _ | refine Below.tr ?_ (Nat.le_refl _) (by assumption) | exact Below.refl _ _ | assumption))
    have hB2 : Below w.heap.size w W.w := (by repeat (first | with_reducible exact Below.refl _ _ | with_reducible assumption | refine Below.drew ?_ | refine Below.setCell ?_ (by first | exact Nat.le_refl _ | omega | (simp; done) | (simp; omega)) _ | refine Below.alloc ?_ (by first | exact Nat.le_refl _ | omega | (simp; done) | (simp; omega)) _ | refine Below.tr ?_ (Nat.le_refl _) (by assumption) | exact Below.refl _ _ | assumption))
    have hA := h'.below hB1
    go_wp2_with (fail)
    refine (add_any hA f t c (-A.debt f t c) (fun _ => by omega) (by omega) (by omega)).mono ?_
    rintro e w2 ⟨rfl, hC2, hL2⟩
    go_wp2_with (fail)
    refine (add_any hL2 t f c (n - A.debt f t c) (fun _ => by show 0 < A.lim t f c; omega) (by rw [hd0.out]; omega) (by rw [hd0.out]; show _ ≤ A.lim t f c; omega)).mono ?_
    rintro e w3 ⟨rfl, hC3, hL3⟩
    go_wp2
    go_ret
    refine ⟨rfl, ((Chg.of_below (S := [m]) hB2).trans hC2 (by simp)).trans hC3 (by simp), ?_⟩
    rw [hsh.out]
    exact hL3

theorem push_any {w : World} {b m : Nat} {A : Ledger} (h : LedgerAt w b m A) (f t c : Nat) (n : Int) :
    Calls Try.prog 43 #[.pointer (some ⟨b, 0, none⟩), .int .u8 f, .int .u8 t, .int .u8 c, .int .i64 n] w (LPost w b m (A.push f t c n)) := by
  by_cases h1 : n < 1
  · have e : A.push f t c n = (1, A) := by unfold Ledger.push; rw [if_pos h1]
    rw [e]
    go_enter Try.func43, Try.ntmps43
    go_wp2_with (first | (go_at_call 33; refine (there_yes h.mapc).mono ?_; rintro e w' ⟨rfl, rfl⟩))
    go_ret
    exact ⟨rfl, Chg.refl _ _, h⟩
  · by_cases h2 : A.room f t c < n
    · have e : A.push f t c n = (11, A) := by unfold Ledger.push; rw [if_neg h1, if_pos h2]
      rw [e]
      go_enter Try.func43, Try.ntmps43
      go_wp2_with (first | (go_at_call 33; refine (there_yes h.mapc).mono ?_; rintro e w' ⟨rfl, rfl⟩) | (go_at_call 52; refine (room_any h f t c).mono ?_; rintro e w1 ⟨rfl, hb1⟩))
      go_ret
      exact ⟨rfl, Chg.of_below hb1, h.below hb1⟩
    · have e : A.push f t c n = (0, A.shift f t c n) := by unfold Ledger.push; rw [if_neg h1, if_neg h2]
      rw [e]
      exact push_ok h f t c n (by omega) (by omega)

theorem push_no {w : World} {q : Option Addr} (h : NoLedger w q) (f t c : Nat) (n : Int) :
    Calls Try.prog 43 #[.pointer q, .int .u8 f, .int .u8 t, .int .u8 c, .int .i64 n] w fun e w' => e = .returned (.int .i64 2) ∧ w = w' := by
  go_enter Try.func43, Try.ntmps43
  go_wp2_with (first | (go_at_call 33; refine (there_no h).mono ?_; rintro e w' ⟨rfl, rfl⟩))
  go_ret
  exact ⟨rfl, rfl⟩

/-! ### Open -/
theorem ledgerCells_set (A : Ledger) (m p : Nat) (h : p ≤ 16) : (ledgerCells A m).setIfInBounds p (.bool true) = ledgerCells (A.addParty p) m := by
  have : p = 0 ∨ p = 1 ∨ p = 2 ∨ p = 3 ∨ p = 4 ∨ p = 5 ∨ p = 6 ∨ p = 7 ∨ p = 8 ∨ p = 9 ∨ p = 10 ∨ p = 11 ∨ p = 12 ∨ p = 13 ∨ p = 14 ∨ p = 15 ∨ p = 16 := by omega
  rcases this with rfl | rfl | rfl | rfl | rfl | rfl | rfl | rfl | rfl | rfl | rfl | rfl | rfl | rfl | rfl | rfl | rfl <;> simp [ledgerCells, Ledger.addParty]

theorem heap_setCell_same {w : World} {b o : Nat} {cs : Array Value} {t : TypeId} {f : Nat × Nat} (h : w.heap[b]? = some (.cells cs t f)) (v : Value) : (w.setCell ⟨b, o, none⟩ v).heap[b]? = some (.cells (cs.setIfInBounds o v) t f) := by
  have hlt := lt_of_block h
  have h' : w.heap[b] = .cells cs t f := by simpa [Array.getElem?_eq_getElem hlt] using h
  show (w.heap.modify b _)[b]? = _
  rw [Array.getElem?_eq_getElem (by simpa using hlt), Array.getElem_modify_self, h']
  rfl
theorem Chg.setCell {S : List Nat} (w : World) (b o : Nat) (v : Value) (hb : b ∈ S) : Chg S w (w.setCell ⟨b, o, none⟩ v) :=
  ⟨rfl, rfl, rfl, by simp [World.setCell], fun k _ hn => Below.heap_setCell _ _ _ _ (fun e => hn (by rw [e]; exact hb))⟩

def LPostB (w : World) (b m : Nat) (r : Nat × Ledger) (e : Ending) (w' : World) : Prop := e = .returned (.int .i64 r.1) ∧ Chg [b] w w' ∧ LedgerAt w' b m r.2

theorem open_any {w : World} {b m : Nat} {A : Ledger} (h : LedgerAt w b m A) (p : Nat) (hp : p < 256) :
    Calls Try.prog 27 #[.pointer (some ⟨b, 0, none⟩), .int .u8 p] w (LPostB w b m (A.openP p)) := by
  by_cases h1 : 1 ≤ p ∧ p ≤ 16
  · have e1 := Lib.hid (show (decide (1 ≤ p ∧ p ≤ 16)) = true by simpa using h1)
    have hc := h.has h1.2
    have hf := h.free p
    cases hA : A.has p
    · rw [hA] at hc
      have e : A.openP p = (0, A.addParty p) := by unfold Ledger.openP; rw [if_neg (by omega), if_neg (by simp [hA])]
      rw [e]
      clear hA
      go_enter Try.func27, Try.ntmps27
      go_wp2_with (first | (go_at_call 33; refine (there_yes h.mapc).mono ?_; rintro e w' ⟨rfl, rfl⟩) | (go_at_call 34; refine (ledgersMay _ (by omega) _).mono ?_; rintro e w' ⟨rfl, rfl⟩; rw [e1.out]))
      go_ret
      refine ⟨rfl, Chg.setCell _ _ _ _ (by simp), ?_, (h.map.setCell _ _).congr rfl rfl, h.wf.addParty h1⟩
      rw [heap_setCell_same h.blk, ledgerCells_set A m p h1.2]
    · rw [hA] at hc
      have e : A.openP p = (8, A) := by unfold Ledger.openP; rw [if_neg (by omega), if_pos hA]
      rw [e]
      clear hA
      go_enter Try.func27, Try.ntmps27
      go_wp2_with (first | (go_at_call 33; refine (there_yes h.mapc).mono ?_; rintro e w' ⟨rfl, rfl⟩) | (go_at_call 34; refine (ledgersMay _ (by omega) _).mono ?_; rintro e w' ⟨rfl, rfl⟩; rw [e1.out]))
      go_ret
      exact ⟨rfl, Chg.refl _ _, h⟩
  · have e1 := Lib.hid (show (decide (1 ≤ p ∧ p ≤ 16)) = false by simpa using h1)
    have e : A.openP p = (1, A) := by unfold Ledger.openP; rw [if_pos (by omega)]
    rw [e]
    go_enter Try.func27, Try.ntmps27
    go_wp2_with (first | (go_at_call 33; refine (there_yes h.mapc).mono ?_; rintro e w' ⟨rfl, rfl⟩) | (go_at_call 34; refine (ledgersMay _ (by omega) _).mono ?_; rintro e w' ⟨rfl, rfl⟩; rw [e1.out]))
    go_ret
    exact ⟨rfl, Chg.refl _ _, h⟩

end Go.Proofs.Ytelcdiceongfdaa
end
section
namespace Go.Proofs.Ytelcdiceongfdaa
open Go.RowKit Go.BigFrame
set_option maxRecDepth 100000

/-! ### how many lines there are -/
theorem length_le_of_subset {α : Type} [DecidableEq α] : ∀ (l l' : List α), l.Nodup → (∀ x, x ∈ l → x ∈ l') → l.length ≤ l'.length
  | [], _, _, _ => Nat.zero_le _
  | x :: l, l', hn, h => by
    rw [List.nodup_cons] at hn
    have hx := h x List.mem_cons_self
    have := length_le_of_subset l (l'.erase x) hn.2 fun y hy => (List.mem_erase_of_ne (fun e => hn.1 (by subst e; exact hy))).2 (h y (List.mem_cons_of_mem _ hy))
    rw [List.length_erase_of_mem hx] at this
    have := List.length_pos_of_mem hx
    simp; omega

def kv3 (e : Nat × Nat × Nat) : Value := kv e.2.1 e.2.2 e.1
theorem kv3_inj {e e' : Nat × Nat × Nat} (h : kv3 e = kv3 e') : e = e' := by
  obtain ⟨a, b, c⟩ := e
  obtain ⟨a', b', c'⟩ := e'
  have := kv_inj.1 h
  simp only at this
  simp; omega

theorem keys_list : ∀ (es : List MapEntry) (A : Ledger), (∀ e ∈ es, ∃ a b c, e.key = kv a b c ∧ e.val = vv (A.lim a b c) (A.debt a b c) ∧ 0 < A.lim a b c) →
    ∃ ks : List (Nat × Nat × Nat), es.map (fun e => (e.key, e.val)) = ks.map (fun k => (kv3 k, vv (A.lim k.2.1 k.2.2 k.1) (A.debt k.2.1 k.2.2 k.1))) ∧ ∀ k ∈ ks, 0 < A.lim k.2.1 k.2.2 k.1
  | [], _, _ => ⟨[], rfl, by simp⟩
  | e :: es, A, h => by
    obtain ⟨ks, h1, h2⟩ := keys_list es A fun e he => h e (List.mem_cons_of_mem _ he)
    obtain ⟨a, b, c, hk, hv, hp⟩ := h e List.mem_cons_self
    exact ⟨(c, a, b) :: ks, by simp [h1, hk, hv, kv3], fun k hk => by
      rcases List.mem_cons.1 hk with rfl | hk
      · exact hp
      · exact h2 k hk⟩

theorem MapRep.list {es : Array MapEntry} {clk : Nat} {A : Ledger} (R : MapRep es clk A) (hA : A.WF) :
    ∃ ks : List (Nat × Nat × Nat), es.toList.map (fun e => (e.key, e.val)) = ks.map (fun k => (kv3 k, vv (A.lim k.2.1 k.2.2 k.1) (A.debt k.2.1 k.2.2 k.1))) ∧ ks.Nodup ∧ (∀ k, k ∈ ks ↔ k ∈ Ledger.ends.filter A.there) := by
  obtain ⟨ks, h1, h2⟩ := keys_list es.toList A R.ent
  have hk1 : es.toList.map (·.key) = ks.map kv3 := by
    have := congrArg (List.map Prod.fst) h1
    simp only [List.map_map] at this
    exact this
  refine ⟨ks, h1, ?_, fun k => ?_⟩
  · have := R.keys
    have h3 : (es.toList.map (·.key)).Pairwise (· ≠ ·) := by rw [List.pairwise_map]; exact this
    rw [hk1, List.pairwise_map] at h3
    exact h3.imp fun {a b} hab e => hab (by rw [e])
  · obtain ⟨c, a, b⟩ := k
    rw [List.mem_filter]
    constructor
    · intro hk
      have hp := h2 _ hk
      simp only at hp
      have hl := hA.line a b c (by omega)
      have ha := hA.party a hl.1
      have hb := hA.party b hl.2.1
      exact ⟨Ledger.mem_ends.2 ⟨⟨hl.2.2.2.1, hl.2.2.2.2.1⟩, ha, hb⟩, by simpa [Ledger.there] using hp⟩
    · rintro ⟨_, hp⟩
      have hp' : 0 < A.lim a b c := by simpa [Ledger.there] using hp
      obtain ⟨e, he, hk⟩ := R.all a b c hp'
      have : kv3 (c, a, b) ∈ ks.map kv3 := by rw [← hk1]; exact List.mem_map.2 ⟨e, he, hk⟩
      obtain ⟨k', hk', e'⟩ := List.mem_map.1 this
      rw [← kv3_inj e']; exact hk'

theorem MapRep.size_eq {es : Array MapEntry} {clk : Nat} {A : Ledger} (R : MapRep es clk A) (hA : A.WF) : es.size = A.count := by
  obtain ⟨ks, h1, hn, hm⟩ := R.list hA
  have hl : es.size = ks.length := by
    have := congrArg List.length h1
    simpa using this
  have h2 := length_le_of_subset ks _ hn fun x hx => (hm x).1 hx
  have h3 := length_le_of_subset (Ledger.ends.filter A.there) ks (Ledger.ends_nodup.filter _) fun x hx => (hm x).2 hx
  unfold Ledger.count
  omega

theorem len_rule {m : Nat} {A : Ledger} (hA : A.WF) : ∀ W, MapAt W m A → ∀ ty, (Builtin.len_ #[33] ty #[.map (some m)]).run Try.prog W = .ok (.int .i64 A.count) W := by
  intro W h ty
  obtain ⟨es, clk, hm, R⟩ := h
  rw [← R.size_eq hA]
  have hu := und_map
  simp only [Builtin.len_, List.getElem?_toArray, List.getElem?_cons_zero, Sem.run_bind, run_underlying hu, Result.andThen_ok, run_getObj_map hm]
  rfl

theorem wpl_delete {ops : Array Oper} {Q : Exit → Act → World → Prop} {rest : List Oper} {a : Act} {w : World} {m : Nat} {A : Ledger} {dst : Option Tmp} {t : TypeId} {pos : String} {after : Array Edge} {mp k : Operand}
    (x y z : Nat) (hm : a.eval mp = .map (some m)) (hk : a.eval k = .agg #[.int .u8 x, .int .u8 y, .int .u8 z]) (hM : MapAt w m A) (hA : A.WF)
    (h : ∀ w', Chg [m] w w' → w'.heap.size = w.heap.size → MapAt w' m (A.setLim x y z 0) → wpList Try.prog ops Q rest (a.put dst (.tuple #[])) w') :
    wpList Try.prog ops Q ({ dst, op := .call { callee := .builtin .delete, args := #[mp, k], argTypes := #[33, 87] }, type := t, pos, after, guard := none } :: rest) a w := by
  obtain ⟨es', clk', hr, R⟩ := run_mapDelete hM hA x y z t
  have h' := h _ (Chg.putMap (S := [m]) w m es' clk' (by simp)) (putMap_size ..) (putMap_at hM.lt R)
  unfold wpList
  rw [if_pos (by simp [Region.wanted])]
  left
  unfold Oper.wp
  have hr' : (Builtin.delete_ #[33, 87] t #[.map (some m), .agg #[.int .u8 x, .int .u8 y, .int .u8 z]]).run Try.prog w = .ok (.tuple #[]) (World.putMap w m es' clk') := hr
  have hx : (execOp a.eval { dst, op := .call { callee := .builtin .delete, args := #[mp, k], argTypes := #[33, 87] }, type := t, pos, after, guard := none }).run Try.prog w = .ok (.value (.tuple #[])) (World.putMap w m es' clk') := by
    generalize a.eval = ρ at hm hk ⊢
    simp [hm, hk, go_sem, hr']
  rw [hx]
  exact h'

/-! ### Trust -/
theorem setLine_lim (A : Ledger) (a b c : Nat) (n : Int) : (A.setLine a b c n (A.debt a b c)).debt = (A.setLim a b c n).debt := by
  funext x y z
  by_cases e : x = a ∧ y = b ∧ z = c
  · obtain ⟨rfl, rfl, rfl⟩ := e; simp [Ledger.setLim, Ledger.setLine, Ledger.upd_same]
  · simp [Ledger.setLim, Ledger.setLine, Ledger.upd_other e]

theorem trust_bad {w : World} {b m : Nat} {A : Ledger} (h : LedgerAt w b m A) (x y c : Nat) (hx : x < 256) (hy : y < 256) (hc : c < 256) (n : Int) (hb : ¬ Ledger.mayEnds x y c ∨ n < 0 ∨ 1099511627776 < n) :
    Calls Try.prog 28 #[.pointer (some ⟨b, 0, none⟩), .int .u8 x, .int .u8 y, .int .u8 c, .int .i64 n] w (LPost w b m (1, A)) := by
  by_cases hm : Ledger.mayEnds x y c
  · have hn : n < 0 ∨ 0 ≤ n ∧ 1099511627776 < n := by
      rcases hb with hb | hb | hb
      · exact absurd hm hb
      · exact .inl hb
      · omega
    rcases hn with hn | ⟨hn, hn'⟩
    all_goals
      go_enter Try.func28, Try.ntmps28
      go_wp2_with (first | (go_at_call 33; refine (there_yes (h.below (by repeat (first | with_reducible exact Below.refl _ _ | with_reducible assumption | refine Below.drew ?_ | refine Below.setCell ?_ (by first | exact Nat.le_refl _ | omega | (simp; done) | (simp; omega)) _ | refine Below.alloc ?_ (by first | exact Nat.le_refl _ | omega | (simp; done) | (simp; omega)) _ | refine Below.tr ?_ (Nat.le_refl _) (by assumption) | exact Below.refl _ _ | assumption))).mapc).mono ?_; rintro e w' ⟨rfl, rfl⟩) | (go_at_call 46; refine (endsMay_yes x y c hm _).mono ?_; rintro e w1 ⟨rfl, hb1⟩))
      go_ret
      have hB : Below w.heap.size w w1 := (by repeat (first | with_reducible exact Below.refl _ _ | with_reducible assumption | refine Below.drew ?_ | refine Below.setCell ?_ (by first | exact Nat.le_refl _ | omega | (simp; done) | (simp; omega)) _ | refine Below.alloc ?_ (by first | exact Nat.le_refl _ | omega | (simp; done) | (simp; omega)) _ | refine Below.tr ?_ (Nat.le_refl _) (by assumption) | exact Below.refl _ _ | assumption))
      exact ⟨rfl, Chg.of_below hB, h.below hB⟩
  · go_enter Try.func28, Try.ntmps28
    go_wp2_with (first | (go_at_call 33; refine (there_yes (h.below (by repeat (first | with_reducible exact Below.refl _ _ | with_reducible assumption | refine Below.drew ?_ | refine Below.setCell ?_ (by first | exact Nat.le_refl _ | omega | (simp; done) | (simp; omega)) _ | refine Below.alloc ?_ (by first | exact Nat.le_refl _ | omega | (simp; done) | (simp; omega)) _ | refine Below.tr ?_ (Nat.le_refl _) (by assumption) | exact Below.refl _ _ | assumption))).mapc).mono ?_; rintro e w' ⟨rfl, rfl⟩) | (go_at_call 46; refine (endsMay_no x y c hx hy hc hm _).mono ?_; rintro e w1 ⟨rfl, hb1⟩))
    go_ret
    have hB : Below w.heap.size w w1 := (by repeat (first | with_reducible exact Below.refl _ _ | with_reducible assumption | refine Below.drew ?_ | refine Below.setCell ?_ (by first | exact Nat.le_refl _ | omega | (simp; done) | (simp; omega)) _ | refine Below.alloc ?_ (by first | exact Nat.le_refl _ | omega | (simp; done) | (simp; omega)) _ | refine Below.tr ?_ (Nat.le_refl _) (by assumption) | exact Below.refl _ _ | assumption))
    exact ⟨rfl, Chg.of_below hB, h.below hB⟩

theorem trust_none {w : World} {b m : Nat} {A : Ledger} (h : LedgerAt w b m A) (x y c : Nat) (n : Int) (hm : Ledger.mayEnds x y c) (hn : 0 ≤ n) (hn' : n ≤ 1099511627776) (hh : A.has x = false ∨ A.has x = true ∧ A.has y = false) :
    Calls Try.prog 28 #[.pointer (some ⟨b, 0, none⟩), .int .u8 x, .int .u8 y, .int .u8 c, .int .i64 n] w (LPost w b m (7, A)) := by
  obtain ⟨vy, hvy⟩ : ∃ v, A.has y = v := ⟨_, rfl⟩
  have hmx := hm.1
  have hmy := hm.2.1
  rcases hh with hh | ⟨hh, hh'⟩
  · have Hx := Lib.hid hh; have Hy := Lib.hid hvy; clear hh hvy
    go_enter Try.func28, Try.ntmps28
    go_wp2_with (first | (go_at_call 33; refine (there_yes (h.below (by repeat (first | with_reducible exact Below.refl _ _ | with_reducible assumption | refine Below.drew ?_ | refine Below.setCell ?_ (by first | exact Nat.le_refl _ | omega | (simp; done) | (simp; omega)) _ | refine Below.alloc ?_ (by first | exact Nat.le_refl _ | omega | (simp; done) | (simp; omega)) _ | refine Below.tr ?_ (Nat.le_refl _) (by assumption) | exact Below.refl _ _ | assumption))).mapc).mono ?_; rintro e w' ⟨rfl, rfl⟩) | (go_at_call 46; refine (endsMay_yes x y c hm _).mono ?_; rintro e w1 ⟨rfl, hb1⟩; have hB : Below w.heap.size w w1 := (by repeat (first | with_reducible exact Below.refl _ _ | with_reducible assumption | refine Below.drew ?_ | refine Below.setCell ?_ (by first | exact Nat.le_refl _ | omega | (simp; done) | (simp; omega)) _ | refine Below.alloc ?_ (by first | exact Nat.le_refl _ | omega | (simp; done) | (simp; omega)) _ | refine Below.tr ?_ (Nat.le_refl _) (by assumption) | exact Below.refl _ _ | assumption)); have h' := h.below hB; have hcx := h'.has hm.1.2; have hcy := h'.has hm.2.1.2; have hc17 := h'.mapc; have hM := h'.map; have hb := h'.lt; have hml := h'.map.lt; obtain ⟨hcc, hff⟩ := bcell hb1; have hz1 : w.heap.size < w1.heap.size := (by have := hb1.size; simp at this; omega); have hz2 : w.heap.size < w1.heap.size + 1 := (by omega); have hz3 : w.heap.size < w1.heap.size + 2 := (by omega); rw [Hx.out] at hcx; rw [Hy.out] at hcy))
    go_ret
    exact ⟨rfl, Chg.of_below hB, h'⟩
  · rw [hvy] at hh'; subst hh'
    have Hx := Lib.hid hh; have Hy := Lib.hid hvy; clear hh hvy
    go_enter Try.func28, Try.ntmps28
    go_wp2_with (first | (go_at_call 33; refine (there_yes (h.below (by repeat (first | with_reducible exact Below.refl _ _ | with_reducible assumption | refine Below.drew ?_ | refine Below.setCell ?_ (by first | exact Nat.le_refl _ | omega | (simp; done) | (simp; omega)) _ | refine Below.alloc ?_ (by first | exact Nat.le_refl _ | omega | (simp; done) | (simp; omega)) _ | refine Below.tr ?_ (Nat.le_refl _) (by assumption) | exact Below.refl _ _ | assumption))).mapc).mono ?_; rintro e w' ⟨rfl, rfl⟩) | (go_at_call 46; refine (endsMay_yes x y c hm _).mono ?_; rintro e w1 ⟨rfl, hb1⟩; have hB : Below w.heap.size w w1 := (by repeat (first | with_reducible exact Below.refl _ _ | with_reducible assumption | refine Below.drew ?_ | refine Below.setCell ?_ (by first | exact Nat.le_refl _ | omega | (simp; done) | (simp; omega)) _ | refine Below.alloc ?_ (by first | exact Nat.le_refl _ | omega | (simp; done) | (simp; omega)) _ | refine Below.tr ?_ (Nat.le_refl _) (by assumption) | exact Below.refl _ _ | assumption)); have h' := h.below hB; have hcx := h'.has hm.1.2; have hcy := h'.has hm.2.1.2; have hc17 := h'.mapc; have hM := h'.map; have hb := h'.lt; have hml := h'.map.lt; obtain ⟨hcc, hff⟩ := bcell hb1; have hz1 : w.heap.size < w1.heap.size := (by have := hb1.size; simp at this; omega); have hz2 : w.heap.size < w1.heap.size + 1 := (by omega); have hz3 : w.heap.size < w1.heap.size + 2 := (by omega); rw [Hx.out] at hcx; rw [Hy.out] at hcy))
    go_ret
    exact ⟨rfl, Chg.of_below hB, h'⟩

def TPost (w : World) (b m : Nat) (A : Ledger) (x y c : Nat) (n : Int) (e : Ending) (w' : World) : Prop := LPost w b m (A.trust x y c n) e w'

set_option maxHeartbeats 1000000 in
theorem trust_ok {w : World} {b m : Nat} {A : Ledger} (h : LedgerAt w b m A) (x y c : Nat) (n : Int) (hm : Ledger.mayEnds x y c) (hn : 0 ≤ n) (hn' : n ≤ 1099511627776) (hhx : A.has x = true) (hhy : A.has y = true) :
    Calls Try.prog 28 #[.pointer (some ⟨b, 0, none⟩), .int .u8 x, .int .u8 y, .int .u8 c, .int .i64 n] w (TPost w b m A x y c n) := by
  have hmx := hm.1
  have hmy := hm.2.1
  have d1 := h.wf.debt x y c
  have l1 := h.wf.lim_le x y c
  have hwf := h.wf
  have hT : A.trust x y c n = (if n < A.debt x y c then (14, A) else if A.lim x y c = 0 ∧ 0 < n ∧ 64 ≤ A.count then (9, A) else (0, A.setLim x y c n)) := by
    unfold Ledger.trust
    rw [if_neg (by rintro (h | h | h); exact h hm; omega; omega), if_neg (by simp [hhx, hhy])]
  have HT := Lib.hid hT; clear hT
  have Hx := Lib.hid hhx; have Hy := Lib.hid hhy; clear hhx hhy
  have hlk := look_rule2 (m := m) h.wf
  have hln := len_rule (m := m) h.wf
  by_cases hd : n < A.debt x y c
  ·
    go_enter Try.func28, Try.ntmps28
    go_wp2_with (first | (go_at_call 33; refine (there_yes (h.below (by repeat (first | with_reducible exact Below.refl _ _ | with_reducible assumption | refine Below.drew ?_ | refine Below.setCell ?_ (by first | exact Nat.le_refl _ | omega | (simp; done) | (simp; omega)) _ | refine Below.alloc ?_ (by first | exact Nat.le_refl _ | omega | (simp; done) | (simp; omega)) _ | refine Below.tr ?_ (Nat.le_refl _) (by assumption) | exact Below.refl _ _ | assumption))).mapc).mono ?_; rintro e w' ⟨rfl, rfl⟩) | (go_at_call 46; refine (endsMay_yes x y c hm _).mono ?_; rintro e w1 ⟨rfl, hb1⟩; have hB : Below w.heap.size w w1 := (by repeat (first | with_reducible exact Below.refl _ _ | with_reducible assumption | refine Below.drew ?_ | refine Below.setCell ?_ (by first | exact Nat.le_refl _ | omega | (simp; done) | (simp; omega)) _ | refine Below.alloc ?_ (by first | exact Nat.le_refl _ | omega | (simp; done) | (simp; omega)) _ | refine Below.tr ?_ (Nat.le_refl _) (by assumption) | exact Below.refl _ _ | assumption)); have h' := h.below hB; have hcx := h'.has hm.1.2; have hcy := h'.has hm.2.1.2; have hc17 := h'.mapc; have hM := h'.map; have hb := h'.lt; have hml := h'.map.lt; obtain ⟨hcc, hff⟩ := bcell hb1; have hz1 : w.heap.size < w1.heap.size := (by have := hb1.size; simp at this; omega); have hz2 : w.heap.size < w1.heap.size + 1 := (by omega); have hz3 : w.heap.size < w1.heap.size + 2 := (by omega); rw [Hx.out] at hcx; rw [Hy.out] at hcy))
    have lt0_b : b < w1.heap.size + 1 := (by omega); have lt1_b : b ≤ w1.heap.size := (by omega); have lt2_b : b < w1.heap.size + 2 := (by omega); have lt3_b : b < w1.heap.size + 3 := (by omega); have lt4_b : b < w1.heap.size + 4 := (by omega); have lt5_b : b < w1.heap.size + 5 := (by omega)
    have lt0_m : m < w1.heap.size + 1 := (by omega); have lt1_m : m ≤ w1.heap.size := (by omega); have lt2_m : m < w1.heap.size + 2 := (by omega); have lt3_m : m < w1.heap.size + 3 := (by omega); have lt4_m : m < w1.heap.size + 4 := (by omega); have lt5_m : m < w1.heap.size + 5 := (by omega)
    go_region
    go_wp2
    go_ret
    have hB2 : Below w.heap.size w ((w1.alloc (.cells #[.int .i64 (A.lim x y c), .int .i64 (A.debt x y c)] 89)).drew) := (by repeat (first | with_reducible exact Below.refl _ _ | with_reducible assumption | refine Below.drew ?_ | refine Below.setCell ?_ (by first | exact Nat.le_refl _ | omega | (simp; done) | (simp; omega)) _ | refine Below.alloc ?_ (by first | exact Nat.le_refl _ | omega | (simp; done) | (simp; omega)) _ | refine Below.tr ?_ (Nat.le_refl _) (by assumption) | exact Below.refl _ _ | assumption))
    refine ⟨by rw [HT.out]; simp [*], Chg.of_below hB2, ?_⟩
    have : (A.trust x y c n).2 = A := by rw [HT.out]; simp [*]
    rw [this]
    exact h.below hB2
  by_cases hp : 0 < A.lim x y c
  · have hl0 : ¬ A.lim x y c = 0 := by omega
    by_cases hn0 : n = 0
    · subst hn0
      go_enter Try.func28, Try.ntmps28
      go_wp2_with (first | (go_at_call 33; refine (there_yes (h.below (by repeat (first | with_reducible exact Below.refl _ _ | with_reducible assumption | refine Below.drew ?_ | refine Below.setCell ?_ (by first | exact Nat.le_refl _ | omega | (simp; done) | (simp; omega)) _ | refine Below.alloc ?_ (by first | exact Nat.le_refl _ | omega | (simp; done) | (simp; omega)) _ | refine Below.tr ?_ (Nat.le_refl _) (by assumption) | exact Below.refl _ _ | assumption))).mapc).mono ?_; rintro e w' ⟨rfl, rfl⟩) | (go_at_call 46; refine (endsMay_yes x y c hm _).mono ?_; rintro e w1 ⟨rfl, hb1⟩; have hB : Below w.heap.size w w1 := (by repeat (first | with_reducible exact Below.refl _ _ | with_reducible assumption | refine Below.drew ?_ | refine Below.setCell ?_ (by first | exact Nat.le_refl _ | omega | (simp; done) | (simp; omega)) _ | refine Below.alloc ?_ (by first | exact Nat.le_refl _ | omega | (simp; done) | (simp; omega)) _ | refine Below.tr ?_ (Nat.le_refl _) (by assumption) | exact Below.refl _ _ | assumption)); have h' := h.below hB; have hcx := h'.has hm.1.2; have hcy := h'.has hm.2.1.2; have hc17 := h'.mapc; have hM := h'.map; have hb := h'.lt; have hml := h'.map.lt; obtain ⟨hcc, hff⟩ := bcell hb1; have hz1 : w.heap.size < w1.heap.size := (by have := hb1.size; simp at this; omega); have hz2 : w.heap.size < w1.heap.size + 1 := (by omega); have hz3 : w.heap.size < w1.heap.size + 2 := (by omega); rw [Hx.out] at hcx; rw [Hy.out] at hcy))
      have lt0_b : b < w1.heap.size + 1 := (by omega); have lt1_b : b ≤ w1.heap.size := (by omega); have lt2_b : b < w1.heap.size + 2 := (by omega); have lt3_b : b < w1.heap.size + 3 := (by omega); have lt4_b : b < w1.heap.size + 4 := (by omega); have lt5_b : b < w1.heap.size + 5 := (by omega)
      have lt0_m : m < w1.heap.size + 1 := (by omega); have lt1_m : m ≤ w1.heap.size := (by omega); have lt2_m : m < w1.heap.size + 2 := (by omega); have lt3_m : m < w1.heap.size + 3 := (by omega); have lt4_m : m < w1.heap.size + 4 := (by omega); have lt5_m : m < w1.heap.size + 5 := (by omega)
      go_region
      go_wp2
      refine wp_region_later_tail 5 (by kernel_rfl) (by kernel_rfl) (by kernel_rfl) ?_; simp only [List.take_succ_cons, List.take_zero, List.drop_succ_cons, List.drop_zero]; (repeat (go_big_quiet_step (fail))); refine wpQuiet_nil ?_; rintro _ ⟨W, rfl⟩
      have hW := W.b
      have hB2 : Below w.heap.size w W.w := (by repeat (first | with_reducible exact Below.refl _ _ | with_reducible assumption | refine Below.drew ?_ | refine Below.setCell ?_ (by first | exact Nat.le_refl _ | omega | (simp; done) | (simp; omega)) _ | refine Below.alloc ?_ (by first | exact Nat.le_refl _ | omega | (simp; done) | (simp; omega)) _ | refine Below.tr ?_ (Nat.le_refl _) (by assumption) | exact Below.refl _ _ | assumption))
      refine wpl_delete (A := A) (m := m) x y c rfl rfl (h.below hB2).map hwf ?_
      intro w2 hchg hsz hM2
      go_wp2
      go_ret
      have hC : Chg [m] w w2 := (Chg.of_below (S := [m]) hB2).trans hchg (by simp)
      have hT2 : A.trust x y c 0 = (0, A.setLim x y c 0) := by rw [HT.out, if_neg (by omega), if_neg (by omega)]
      refine ⟨by rw [hT2]; rfl, hC, ?_⟩
      rw [hT2]
      exact ledgerAt_of h hC hM2 rfl (by have := hwf.trust x y c 0; rw [hT2] at this; exact this)
    · have hn1 : ((n == 0) = false) := by simpa using hn0
      go_enter Try.func28, Try.ntmps28
      go_wp2_with (first | (go_at_call 33; refine (there_yes (h.below (by repeat (first | with_reducible exact Below.refl _ _ | with_reducible assumption | refine Below.drew ?_ | refine Below.setCell ?_ (by first | exact Nat.le_refl _ | omega | (simp; done) | (simp; omega)) _ | refine Below.alloc ?_ (by first | exact Nat.le_refl _ | omega | (simp; done) | (simp; omega)) _ | refine Below.tr ?_ (Nat.le_refl _) (by assumption) | exact Below.refl _ _ | assumption))).mapc).mono ?_; rintro e w' ⟨rfl, rfl⟩) | (go_at_call 46; refine (endsMay_yes x y c hm _).mono ?_; rintro e w1 ⟨rfl, hb1⟩; have hB : Below w.heap.size w w1 := (by repeat (first | with_reducible exact Below.refl _ _ | with_reducible assumption | refine Below.drew ?_ | refine Below.setCell ?_ (by first | exact Nat.le_refl _ | omega | (simp; done) | (simp; omega)) _ | refine Below.alloc ?_ (by first | exact Nat.le_refl _ | omega | (simp; done) | (simp; omega)) _ | refine Below.tr ?_ (Nat.le_refl _) (by assumption) | exact Below.refl _ _ | assumption)); have h' := h.below hB; have hcx := h'.has hm.1.2; have hcy := h'.has hm.2.1.2; have hc17 := h'.mapc; have hM := h'.map; have hb := h'.lt; have hml := h'.map.lt; obtain ⟨hcc, hff⟩ := bcell hb1; have hz1 : w.heap.size < w1.heap.size := (by have := hb1.size; simp at this; omega); have hz2 : w.heap.size < w1.heap.size + 1 := (by omega); have hz3 : w.heap.size < w1.heap.size + 2 := (by omega); rw [Hx.out] at hcx; rw [Hy.out] at hcy))
      have lt0_b : b < w1.heap.size + 1 := (by omega); have lt1_b : b ≤ w1.heap.size := (by omega); have lt2_b : b < w1.heap.size + 2 := (by omega); have lt3_b : b < w1.heap.size + 3 := (by omega); have lt4_b : b < w1.heap.size + 4 := (by omega); have lt5_b : b < w1.heap.size + 5 := (by omega)
      have lt0_m : m < w1.heap.size + 1 := (by omega); have lt1_m : m ≤ w1.heap.size := (by omega); have lt2_m : m < w1.heap.size + 2 := (by omega); have lt3_m : m < w1.heap.size + 3 := (by omega); have lt4_m : m < w1.heap.size + 4 := (by omega); have lt5_m : m < w1.heap.size + 5 := (by omega)
      go_region
      go_wp2
      refine wp_region_later_tail 9 (by kernel_rfl) (by kernel_rfl) (by kernel_rfl) ?_; simp only [List.take_succ_cons, List.take_zero, List.drop_succ_cons, List.drop_zero]; (repeat (go_big_quiet_step (fail))); refine wpQuiet_nil ?_; rintro _ ⟨W, rfl⟩
      have hW := W.b
      have hB2 : Below w.heap.size w W.w := (by repeat (first | with_reducible exact Below.refl _ _ | with_reducible assumption | refine Below.drew ?_ | refine Below.setCell ?_ (by first | exact Nat.le_refl _ | omega | (simp; done) | (simp; omega)) _ | refine Below.alloc ?_ (by first | exact Nat.le_refl _ | omega | (simp; done) | (simp; omega)) _ | refine Below.tr ?_ (Nat.le_refl _) (by assumption) | exact Below.refl _ _ | assumption))
      refine wpl_mapUpdate (A := A) (m := m) x y c n (A.debt x y c) rfl rfl rfl (h.below hB2).map (by omega) ?_
      intro w2 hchg hsz hM2
      go_wp2
      go_ret
      have hC : Chg [m] w w2 := (Chg.of_below (S := [m]) hB2).trans hchg (by simp)
      have hT2 : A.trust x y c n = (0, A.setLim x y c n) := by rw [HT.out, if_neg (by omega), if_neg (by omega)]
      refine ⟨by rw [hT2]; rfl, hC, ?_⟩
      rw [hT2]
      exact ledgerAt_of h hC (hM2.congr rfl (setLine_lim A x y c n)) rfl (by have := hwf.trust x y c n; rw [hT2] at this; exact this)
  · have hl0 : A.lim x y c = 0 := by omega
    have Hl0 := Lib.hid hl0; clear hl0
    by_cases hn0 : n = 0
    · subst hn0
      go_enter Try.func28, Try.ntmps28
      go_wp2_with (first | (go_at_call 33; refine (there_yes (h.below (by repeat (first | with_reducible exact Below.refl _ _ | with_reducible assumption | refine Below.drew ?_ | refine Below.setCell ?_ (by first | exact Nat.le_refl _ | omega | (simp; done) | (simp; omega)) _ | refine Below.alloc ?_ (by first | exact Nat.le_refl _ | omega | (simp; done) | (simp; omega)) _ | refine Below.tr ?_ (Nat.le_refl _) (by assumption) | exact Below.refl _ _ | assumption))).mapc).mono ?_; rintro e w' ⟨rfl, rfl⟩) | (go_at_call 46; refine (endsMay_yes x y c hm _).mono ?_; rintro e w1 ⟨rfl, hb1⟩; have hB : Below w.heap.size w w1 := (by repeat (first | with_reducible exact Below.refl _ _ | with_reducible assumption | refine Below.drew ?_ | refine Below.setCell ?_ (by first | exact Nat.le_refl _ | omega | (simp; done) | (simp; omega)) _ | refine Below.alloc ?_ (by first | exact Nat.le_refl _ | omega | (simp; done) | (simp; omega)) _ | refine Below.tr ?_ (Nat.le_refl _) (by assumption) | exact Below.refl _ _ | assumption)); have h' := h.below hB; have hcx := h'.has hm.1.2; have hcy := h'.has hm.2.1.2; have hc17 := h'.mapc; have hM := h'.map; have hb := h'.lt; have hml := h'.map.lt; obtain ⟨hcc, hff⟩ := bcell hb1; have hz1 : w.heap.size < w1.heap.size := (by have := hb1.size; simp at this; omega); have hz2 : w.heap.size < w1.heap.size + 1 := (by omega); have hz3 : w.heap.size < w1.heap.size + 2 := (by omega); rw [Hx.out] at hcx; rw [Hy.out] at hcy))
      have lt0_b : b < w1.heap.size + 1 := (by omega); have lt1_b : b ≤ w1.heap.size := (by omega); have lt2_b : b < w1.heap.size + 2 := (by omega); have lt3_b : b < w1.heap.size + 3 := (by omega); have lt4_b : b < w1.heap.size + 4 := (by omega); have lt5_b : b < w1.heap.size + 5 := (by omega)
      have lt0_m : m < w1.heap.size + 1 := (by omega); have lt1_m : m ≤ w1.heap.size := (by omega); have lt2_m : m < w1.heap.size + 2 := (by omega); have lt3_m : m < w1.heap.size + 3 := (by omega); have lt4_m : m < w1.heap.size + 4 := (by omega); have lt5_m : m < w1.heap.size + 5 := (by omega)
      go_region
      go_wp2
      refine wp_region_later_tail 5 (by kernel_rfl) (by kernel_rfl) (by kernel_rfl) ?_; simp only [List.take_succ_cons, List.take_zero, List.drop_succ_cons, List.drop_zero]; (repeat (go_big_quiet_step (fail))); refine wpQuiet_nil ?_; rintro _ ⟨W, rfl⟩
      have hW := W.b
      have hB2 : Below w.heap.size w W.w := (by repeat (first | with_reducible exact Below.refl _ _ | with_reducible assumption | refine Below.drew ?_ | refine Below.setCell ?_ (by first | exact Nat.le_refl _ | omega | (simp; done) | (simp; omega)) _ | refine Below.alloc ?_ (by first | exact Nat.le_refl _ | omega | (simp; done) | (simp; omega)) _ | refine Below.tr ?_ (Nat.le_refl _) (by assumption) | exact Below.refl _ _ | assumption))
      refine wpl_delete (A := A) (m := m) x y c rfl rfl (h.below hB2).map hwf ?_
      intro w2 hchg hsz hM2
      go_wp2
      go_ret
      have hC : Chg [m] w w2 := (Chg.of_below (S := [m]) hB2).trans hchg (by simp)
      have hT2 : A.trust x y c 0 = (0, A.setLim x y c 0) := by rw [HT.out, if_neg (by omega), if_neg (by omega)]
      refine ⟨by rw [hT2]; rfl, hC, ?_⟩
      rw [hT2]
      exact ledgerAt_of h hC hM2 rfl (by have := hwf.trust x y c 0; rw [hT2] at this; exact this)
    · have hn1 : ((n == 0) = false) := by simpa using hn0
      have hn2 : 0 < n := by omega
      by_cases hf : 64 ≤ A.count
      · have hfi : (64 : Int) ≤ (A.count : Int) := by omega
        have hpb : decide (0 < A.lim x y c) = false := by simpa using hp
        go_enter Try.func28, Try.ntmps28
        go_wp2_with (first | (go_at_call 33; refine (there_yes (h.below (by repeat (first | with_reducible exact Below.refl _ _ | with_reducible assumption | refine Below.drew ?_ | refine Below.setCell ?_ (by first | exact Nat.le_refl _ | omega | (simp; done) | (simp; omega)) _ | refine Below.alloc ?_ (by first | exact Nat.le_refl _ | omega | (simp; done) | (simp; omega)) _ | refine Below.tr ?_ (Nat.le_refl _) (by assumption) | exact Below.refl _ _ | assumption))).mapc).mono ?_; rintro e w' ⟨rfl, rfl⟩) | (go_at_call 46; refine (endsMay_yes x y c hm _).mono ?_; rintro e w1 ⟨rfl, hb1⟩; have hB : Below w.heap.size w w1 := (by repeat (first | with_reducible exact Below.refl _ _ | with_reducible assumption | refine Below.drew ?_ | refine Below.setCell ?_ (by first | exact Nat.le_refl _ | omega | (simp; done) | (simp; omega)) _ | refine Below.alloc ?_ (by first | exact Nat.le_refl _ | omega | (simp; done) | (simp; omega)) _ | refine Below.tr ?_ (Nat.le_refl _) (by assumption) | exact Below.refl _ _ | assumption)); have h' := h.below hB; have hcx := h'.has hm.1.2; have hcy := h'.has hm.2.1.2; have hc17 := h'.mapc; have hM := h'.map; have hb := h'.lt; have hml := h'.map.lt; obtain ⟨hcc, hff⟩ := bcell hb1; have hz1 : w.heap.size < w1.heap.size := (by have := hb1.size; simp at this; omega); have hz2 : w.heap.size < w1.heap.size + 1 := (by omega); have hz3 : w.heap.size < w1.heap.size + 2 := (by omega); rw [Hx.out] at hcx; rw [Hy.out] at hcy))
        have lt0_b : b < w1.heap.size + 1 := (by omega); have lt1_b : b ≤ w1.heap.size := (by omega); have lt2_b : b < w1.heap.size + 2 := (by omega); have lt3_b : b < w1.heap.size + 3 := (by omega); have lt4_b : b < w1.heap.size + 4 := (by omega); have lt5_b : b < w1.heap.size + 5 := (by omega)
        have lt0_m : m < w1.heap.size + 1 := (by omega); have lt1_m : m ≤ w1.heap.size := (by omega); have lt2_m : m < w1.heap.size + 2 := (by omega); have lt3_m : m < w1.heap.size + 3 := (by omega); have lt4_m : m < w1.heap.size + 4 := (by omega); have lt5_m : m < w1.heap.size + 5 := (by omega)
        go_region
        go_wp2
        go_ret
        have hB2 : Below w.heap.size w ((w1.alloc (.cells #[.int .i64 (A.lim x y c), .int .i64 (A.debt x y c)] 89)).drew) := (by repeat (first | with_reducible exact Below.refl _ _ | with_reducible assumption | refine Below.drew ?_ | refine Below.setCell ?_ (by first | exact Nat.le_refl _ | omega | (simp; done) | (simp; omega)) _ | refine Below.alloc ?_ (by first | exact Nat.le_refl _ | omega | (simp; done) | (simp; omega)) _ | refine Below.tr ?_ (Nat.le_refl _) (by assumption) | exact Below.refl _ _ | assumption))
        have hT2 : A.trust x y c n = (9, A) := by rw [HT.out, if_neg (by omega), if_pos ⟨Hl0.out, hn2, hf⟩]
        refine ⟨by rw [hT2]; rfl, Chg.of_below hB2, ?_⟩
        rw [hT2]
        exact h.below hB2
      ·
        go_enter Try.func28, Try.ntmps28
        go_wp2_with (first | (go_at_call 33; refine (there_yes (h.below (by repeat (first | with_reducible exact Below.refl _ _ | with_reducible assumption | refine Below.drew ?_ | refine Below.setCell ?_ (by first | exact Nat.le_refl _ | omega | (simp; done) | (simp; omega)) _ | refine Below.alloc ?_ (by first | exact Nat.le_refl _ | omega | (simp; done) | (simp; omega)) _ | refine Below.tr ?_ (Nat.le_refl _) (by assumption) | exact Below.refl _ _ | assumption))).mapc).mono ?_; rintro e w' ⟨rfl, rfl⟩) | (go_at_call 46; refine (endsMay_yes x y c hm _).mono ?_; rintro e w1 ⟨rfl, hb1⟩; have hB : Below w.heap.size w w1 := (by repeat (first | with_reducible exact Below.refl _ _ | with_reducible assumption | refine Below.drew ?_ | refine Below.setCell ?_ (by first | exact Nat.le_refl _ | omega | (simp; done) | (simp; omega)) _ | refine Below.alloc ?_ (by first | exact Nat.le_refl _ | omega | (simp; done) | (simp; omega)) _ | refine Below.tr ?_ (Nat.le_refl _) (by assumption) | exact Below.refl _ _ | assumption)); have h' := h.below hB; have hcx := h'.has hm.1.2; have hcy := h'.has hm.2.1.2; have hc17 := h'.mapc; have hM := h'.map; have hb := h'.lt; have hml := h'.map.lt; obtain ⟨hcc, hff⟩ := bcell hb1; have hz1 : w.heap.size < w1.heap.size := (by have := hb1.size; simp at this; omega); have hz2 : w.heap.size < w1.heap.size + 1 := (by omega); have hz3 : w.heap.size < w1.heap.size + 2 := (by omega); rw [Hx.out] at hcx; rw [Hy.out] at hcy))
        have lt0_b : b < w1.heap.size + 1 := (by omega); have lt1_b : b ≤ w1.heap.size := (by omega); have lt2_b : b < w1.heap.size + 2 := (by omega); have lt3_b : b < w1.heap.size + 3 := (by omega); have lt4_b : b < w1.heap.size + 4 := (by omega); have lt5_b : b < w1.heap.size + 5 := (by omega)
        have lt0_m : m < w1.heap.size + 1 := (by omega); have lt1_m : m ≤ w1.heap.size := (by omega); have lt2_m : m < w1.heap.size + 2 := (by omega); have lt3_m : m < w1.heap.size + 3 := (by omega); have lt4_m : m < w1.heap.size + 4 := (by omega); have lt5_m : m < w1.heap.size + 5 := (by omega)
        go_region
        go_wp2
        refine wp_region_later_tail 9 (by kernel_rfl) (by kernel_rfl) (by kernel_rfl) ?_; simp only [List.take_succ_cons, List.take_zero, List.drop_succ_cons, List.drop_zero]; (repeat (go_big_quiet_step (fail))); refine wpQuiet_nil ?_; rintro _ ⟨W, rfl⟩
        have hW := W.b
        have hB2 : Below w.heap.size w W.w := (by repeat (first | with_reducible exact Below.refl _ _ | with_reducible assumption | refine Below.drew ?_ | refine Below.setCell ?_ (by first | exact Nat.le_refl _ | omega | (simp; done) | (simp; omega)) _ | refine Below.alloc ?_ (by first | exact Nat.le_refl _ | omega | (simp; done) | (simp; omega)) _ | refine Below.tr ?_ (Nat.le_refl _) (by assumption) | exact Below.refl _ _ | assumption))
        refine wpl_mapUpdate (A := A) (m := m) x y c n (A.debt x y c) rfl rfl rfl (h.below hB2).map (by omega) ?_
        intro w2 hchg hsz hM2
        go_wp2
        go_ret
        have hC : Chg [m] w w2 := (Chg.of_below (S := [m]) hB2).trans hchg (by simp)
        have hT2 : A.trust x y c n = (0, A.setLim x y c n) := by rw [HT.out, if_neg (by omega), if_neg (by omega)]
        refine ⟨by rw [hT2]; rfl, hC, ?_⟩
        rw [hT2]
        exact ledgerAt_of h hC (hM2.congr rfl (setLine_lim A x y c n)) rfl (by have := hwf.trust x y c n; rw [hT2] at this; exact this)

theorem trust_any {w : World} {b m : Nat} {A : Ledger} (h : LedgerAt w b m A) (x y c : Nat) (hx : x < 256) (hy : y < 256) (hc : c < 256) (n : Int) :
    Calls Try.prog 28 #[.pointer (some ⟨b, 0, none⟩), .int .u8 x, .int .u8 y, .int .u8 c, .int .i64 n] w (TPost w b m A x y c n) := by
  by_cases h1 : ¬ Ledger.mayEnds x y c ∨ n < 0 ∨ 1099511627776 < n
  · have e : A.trust x y c n = (1, A) := by unfold Ledger.trust; rw [if_pos h1]
    unfold TPost; rw [e]
    exact trust_bad h x y c hx hy hc n h1
  · have hm : Ledger.mayEnds x y c := by
      by_cases hm : Ledger.mayEnds x y c
      · exact hm
      · exact absurd (.inl hm) h1
    by_cases h2 : A.has x = false ∨ A.has y = false
    · have e : A.trust x y c n = (7, A) := by unfold Ledger.trust; rw [if_neg h1, if_pos h2]
      unfold TPost; rw [e]
      exact trust_none h x y c n hm (by omega) (by omega) (by cases hx : A.has x <;> cases hy : A.has y <;> simp_all)
    · exact trust_ok h x y c n hm (by omega) (by omega) (by cases hx : A.has x <;> simp_all) (by cases hx : A.has y <;> simp_all)

end Go.Proofs.Ytelcdiceongfdaa
end
