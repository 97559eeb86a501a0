/- A region that draws its order, whose first n operations give one value in every world of a class and whose other operations wait for them, one behind the other: it may be walked in the order of the text. No conditions but those that are computed from the region. -/
import Derived.Test.YtelcdiceongfdaaBase
import Derived.StillTail
namespace Go.Proofs.Ytelcdiceongfdaa
open Go.RowKit

def edgesBack (l : List Oper) (n : Nat) : Bool := (List.range n).all fun i => match l[i]? with | some o => o.after.all fun e => decide (e.on < i) | none => true
def headListed (n m : Nat) : Array Bool := Array.replicate n true ++ Array.replicate m false
def tailOK (l : List Oper) (n : Nat) : Bool :=
  decide (n < l.length) && Region.lexB .any (l.take n).toArray && edgesBack l n && Region.sinkB .any l.toArray n && Region.chainB .any l.toArray n && Region.seqB .any l.toArray (l.length - n) n (headListed n (l.length - n))

def unlisted (n : Nat) (listed : Array Bool) : Nat := ((List.range n).filter fun i => !listed.getD i true).length

theorem unlisted_zero {n : Nat} {listed : Array Bool} (h : unlisted n listed = 0) {i : Nat} (hi : i < n) : listed.getD i true = true := by
  unfold unlisted at h
  rw [List.length_eq_zero_iff, List.filter_eq_nil_iff] at h
  have := h i (List.mem_range.2 hi)
  simpa using this

theorem filter_set_length (n i : Nat) (p q : Nat → Bool) (hi : i < n) (hp : p i = true) (hq : q i = false) (h : ∀ j, j ≠ i → q j = p j) :
    ((List.range n).filter q).length + 1 = ((List.range n).filter p).length := by
  induction n with
  | zero => omega
  | succ n ih =>
    rw [List.range_succ, List.filter_append, List.filter_append, List.length_append, List.length_append]
    by_cases e : i = n
    · subst e
      have : (List.range i).filter q = (List.range i).filter p := List.filter_congr fun j hj => h j (by have := List.mem_range.1 hj; omega)
      simp [this, hp, hq]
    · have := ih (by omega)
      have h2 := h n (fun e' => e e'.symm)
      by_cases h3 : p n = true <;> simp [h2, h3] <;> omega

theorem ready_head {l : List Oper} {n : Nat} {listed listed' : Array Bool} (hE : edgesBack l n = true) (hL : ∀ i, i < n → ∀ d, listed'.getD i d = listed.getD i d) (i : Nat) (hi : i < n) :
    i ∈ Region.ready .any l.toArray listed ↔ i ∈ Region.ready .any (l.take n).toArray listed' := by
  rw [mem_ready, mem_ready, hL i hi]
  have hg : (l.take n).toArray[i]? = l.toArray[i]? := by simp [hi]
  rw [hg]
  refine and_congr_right fun _ => ?_
  constructor
  · rintro ⟨o, ho, h⟩
    refine ⟨o, ho, fun e he hb => ?_⟩
    have := List.all_eq_true.1 hE i (List.mem_range.2 hi)
    have ho' : l[i]? = some o := by simpa using ho
    rw [ho'] at this
    have := Array.all_eq_true_iff_forall_mem.1 this e he
    rw [hL _ (by simp at this; omega)]
    exact h e he hb
  · rintro ⟨o, ho, h⟩
    refine ⟨o, ho, fun e he hb => ?_⟩
    have := List.all_eq_true.1 hE i (List.mem_range.2 hi)
    have ho' : l[i]? = some o := by simpa using ho
    rw [ho'] at this
    have := Array.all_eq_true_iff_forall_mem.1 this e he
    rw [← hL _ (by simp at this; omega)]
    exact h e he hb

theorem yielded_take (l : List Oper) (n j : Nat) (hj : j < n) (t : Array Value) : yielded (l.take n).toArray t j = yielded l.toArray t j := by
  simp [yielded, hj]

/-- a head operation's guard looks back -/
def guardsBack (l : List Oper) (n : Nat) : Bool := (List.range n).all fun i => match l[i]? with | some o => (match o.guard with | some (j, _) => decide (j < n) | none => true) | none => true

theorem wanted_take {l : List Oper} {n i : Nat} {o : Oper} (hG : guardsBack l n = true) (hi : i < n) (ho : l[i]? = some o) (t : Array Value) :
    Region.wanted o (yielded (l.take n).toArray t) = Region.wanted o (yielded l.toArray t) := by
  have h1 := List.all_eq_true.1 hG i (List.mem_range.2 hi)
  rw [ho] at h1
  unfold Region.wanted
  cases hg : o.guard with
  | none => rfl
  | some p =>
    obtain ⟨j, b⟩ := p
    dsimp only at h1
    rw [hg] at h1
    simp only [decide_eq_true_eq] at h1
    simp only [yielded_take l n j h1]

theorem qOp_take {P : Program} {C : World → Prop} {l : List Oper} {n i : Nat} (hG : guardsBack l n = true) (hi : i < n) {K : Act → Prop} {a : Act}
    (h : qOp P (l.take n).toArray C i K a) : qOp P l.toArray C i K a := by
  unfold qOp at *
  have hg : (l.take n).toArray[i]? = l.toArray[i]? := by simp [hi]
  rw [hg] at h
  cases ho : l.toArray[i]? with
  | none => rw [ho] at h; exact h
  | some o =>
    rw [ho] at h
    have ho' : l[i]? = some o := by simpa using ho
    dsimp only at h ⊢
    rw [wanted_take hG hi ho'] at h
    exact h

theorem wpAny_quiet_tail {P : Program} {C : World → Prop} {Q : Exit → Act → World → Prop} {l : List Oper} {n : Nat} (hB : tailOK l n = true) (hG : guardsBack l n = true) :
    ∀ (f : Nat) (listed listed' : Array Bool) (a : Act) (w : World), HeadInv .any l.toArray n listed → listed'.size = n → (∀ i, i < n → ∀ d, listed'.getD i d = listed.getD i d) → unlisted n listed = f →
      wpAnyQ P .any (l.take n).toArray C (fun a' => ∀ w', C w' → wpList P l.toArray Q (l.drop n) a' w') f listed' a → C w →
      wpAny P .any l.toArray Q (f + (l.length - n)) listed a w := by
  simp only [tailOK, Bool.and_eq_true, decide_eq_true_eq] at hB
  obtain ⟨⟨⟨⟨⟨hn, _⟩, hE⟩, hs⟩, hc⟩, hseq⟩ := hB
  have hn' : n < l.toArray.size := by simpa using hn
  intro f
  induction f with
  | zero =>
    intro listed listed' a w inv hs' hL hu hq hC
    have hall : listed = headListed n (l.length - n) := by
      apply Array.ext
      · rw [inv.size]; simp [headListed]; omega
      · intro i h1 h2
        have e1 : listed.getD i true = listed[i] := by simp [h1]
        rcases Nat.lt_or_ge i n with hi | hi
        · have := unlisted_zero hu hi
          rw [← e1, this]; simp [headListed, hi]
        · have := inv.tail i hi (by rw [← inv.size]; exact h1)
          rw [← e1, this]
          simp [headListed, hi]
    rw [hall, Nat.zero_add]
    have := wpAny_of_seq (md := .any) (Q' := Q) (P := P) (ops := l.toArray) (l.drop n) n (headListed n (l.length - n)) a w (fun j => by simp [List.getElem?_drop]) (by simpa using hseq) (hq.2 w hC)
    simpa using this
  | succ f ih =>
    intro listed listed' a w inv hs' hL hu hq hC
    obtain ⟨i0, hi0, hu0⟩ : ∃ i, i < n ∧ listed.getD i true = false := by
      by_cases h : ∃ i, i < n ∧ listed.getD i true = false
      · exact h
      · exfalso
        have : (List.range n).filter (fun i => !listed.getD i true) = [] := by
          rw [List.filter_eq_nil_iff]
          intro i hi hh
          exact h ⟨i, List.mem_range.1 hi, by simpa using hh⟩
        rw [unlisted, this] at hu
        simp at hu
    have htail := tail_waits hs hc hn' inv _ i0 rfl hi0 hu0
    -- the least that is not listed is ready
    have hne : Region.ready .any l.toArray listed ≠ [] := by
      have key : ∀ k i, i ≤ k → i < n → listed.getD i true = false → Region.ready .any l.toArray listed ≠ [] := by
        intro k
        induction k with
        | zero =>
          intro i hik hin hui hr
          obtain rfl : i = 0 := by omega
          have : (0 : Nat) ∈ Region.ready .any l.toArray listed := by
            rw [mem_ready]
            refine ⟨hui, l[0], by simp, fun e he _ => ?_⟩
            have h1 := List.all_eq_true.1 hE 0 (List.mem_range.2 hin)
            rw [List.getElem?_eq_getElem (by omega)] at h1
            have := Array.all_eq_true_iff_forall_mem.1 h1 e he
            simp at this
          rw [hr] at this; cases this
        | succ k ihk =>
          intro i hik hin hui hr
          by_cases hex : ∃ j, j < i ∧ listed.getD j true = false
          · obtain ⟨j, hj, huj⟩ := hex
            exact ihk j (by omega) (by omega) huj hr
          · have : i ∈ Region.ready .any l.toArray listed := by
              rw [mem_ready]
              refine ⟨hui, l[i], by simp, fun e he _ => ?_⟩
              have h1 := List.all_eq_true.1 hE i (List.mem_range.2 hin)
              rw [List.getElem?_eq_getElem (by omega)] at h1
              have := Array.all_eq_true_iff_forall_mem.1 h1 e he
              simp only [decide_eq_true_eq] at this
              have h2 : ¬ listed.getD e.on true = false := fun h => hex ⟨e.on, this, h⟩
              have hsz : e.on < listed.size := by rw [inv.size]; omega
              simp [hsz] at h2 ⊢
              exact h2
            rw [hr] at this; cases this
      exact key i0 i0 (Nat.le_refl _) hi0 hu0
    rw [show f + 1 + (l.length - n) = (f + (l.length - n)) + 1 by omega]
    refine ⟨fun h => absurd h hne, fun i hi => ?_⟩
    have hin : i < n := by
      rcases Nat.lt_or_ge i n with h | h
      · exact h
      · exact absurd hi (htail i h)
    have hi' := (ready_head hE hL i hin).1 hi
    have hqi := qOp_take (P := P) (C := C) hG hin (hq.2 i hi')
    have hui := (mem_ready.1 hi).1
    refine wpOp_of_qOp hC (fun a' w' hC' hK => ?_) hqi
    refine ih (listed.setIfInBounds i true) (listed'.setIfInBounds i true) a' w' (inv.set hi hin) (by simpa using hs') (fun j hj d => ?_) ?_ hK hC'
    · by_cases e : i = j
      · subst e
        have h1 : i < listed.size := by rw [inv.size]; omega
        have h2 : i < listed'.size := by omega
        simp [h1, h2]
      · rw [getD_set_ne d e, getD_set_ne d e]; exact hL j hj d
    · have h1 : i < listed.size := by rw [inv.size]; omega
      have := filter_set_length n i (fun i => !listed.getD i true) (fun j => !(listed.setIfInBounds i true).getD j true) hin (by simpa using hui) (by simp [h1]) (fun j hj => by rw [getD_set_ne true (Ne.symm hj)])
      unfold unlisted at hu ⊢
      omega

/-- A REGION WALKED IN THE ORDER OF THE TEXT: a head that is quiet in the class of later worlds, and a tail that waits for it. -/
theorem wpAny_later_tail {P : Program} {Q : Exit → Act → World → Prop} {a : Act} {w : World} {l : List Oper} (n : Nat) (hB : tailOK l n = true) (hG : guardsBack l n = true)
    (h : wpQuiet P (l.take n).toArray (fun w' => ∃ x : Later w, w' = x.w) (fun a' => ∀ w', (∃ x : Later w, w' = x.w) → wpList P l.toArray Q (l.drop n) a' w') (l.take n) a) : wpAny P .any l.toArray Q l.toArray.size (Array.replicate l.toArray.size false) a { w with drawn := w.drawn + 1 } := by
  have hB' := hB
  simp only [tailOK, Bool.and_eq_true, decide_eq_true_eq] at hB'
  obtain ⟨⟨⟨⟨⟨hn, hlex⟩, hE⟩, hs⟩, hc⟩, hseq⟩ := hB'
  simp only [Region.lexB, Bool.and_eq_true] at hlex
  have htl : (l.take n).length = n := by simp; omega
  have H := wpAnyQ_lex (P := P) (C := fun w' => ∃ x : Later w, w' = x.w) (md := .any) hlex.1 (l.take n) 0 (Array.replicate (l.take n).toArray.size false) a (by simp) (by simpa using hlex.2) h
  have hsz : n + (l.length - n) = l.toArray.size := by simp; omega
  have key := wpAny_quiet_tail (P := P) (Q := Q) (C := fun w' => ∃ x : Later w, w' = x.w) hB hG n (Array.replicate l.toArray.size false) (Array.replicate (l.take n).toArray.size false) a { w with drawn := w.drawn + 1 } ⟨by simp, fun j oj _ hl => (by rw [getD_replicate_false] at hl; cases hl), fun t _ ht => getD_in (by simpa using ht) (getD_replicate_false _ _)⟩ (by simp; omega) (fun i hi d => ?_) ?_ (by rw [htl] at H; exact H) ⟨⟨w.drew, (Below.refl _ w).drew⟩, rfl⟩
  · rw [hsz] at key; exact key
  · have h2 : i < l.length := by omega
    have h3 : i < min n l.length := by omega
    simp [h2, h3]
  · unfold unlisted
    rw [List.filter_eq_self.2]
    · simp
    · intro i hi
      have := List.mem_range.1 hi
      have h2 : i < l.length := by omega
      simp [h2]

theorem wp_region_later_tail {P : Program} {id : Nat} {Q : Exit → Act → World → Prop} {a : Act} {w : World} {l : List Oper} (n : Nat) (hm : P.follows .mixedOrders = true) (hB : tailOK l n = true) (hG : guardsBack l n = true)
    (h : wpQuiet P (l.take n).toArray (fun w' => ∃ x : Later w, w' = x.w) (fun a' => ∀ w', (∃ x : Later w, w' = x.w) → wpList P l.toArray Q (l.drop n) a' w') (l.take n) a) : (Code.region id l.toArray true).wp P Q a w :=
  wp_region_any hm (wpAny_later_tail n hB hG h)

end Go.Proofs.Ytelcdiceongfdaa
