/- The plain law of the layer flows: a push along a shortest way, what it leaves, and a number that every such push lowers. No program in sight. -/
import Derived.Test.YtelcdiceongfdaaLeast
namespace Go.Proofs.Ytelcdiceongfdaa

structure Flow where
  f : Nat
  t : Nat
  n : Int
deriving Inhabited, DecidableEq

/-- pushes along the first k edges of a way -/
def pushTo (G : Caps) (l : List Nat) (n : Int) : Nat → Caps
  | 0 => G
  | k + 1 => (gpush (pushTo G l n k) (l.getD k 0) (l.getD (k + 1) 0) n).2
def flowsTo (l : List Nat) (n : Int) (k : Nat) : List Flow := (List.range k).map fun i => ⟨l.getD i 0, l.getD (i + 1) 0, n⟩
theorem flowsTo_succ (l : List Nat) (n : Int) (k : Nat) : flowsTo l n (k + 1) = flowsTo l n k ++ [⟨l.getD k 0, l.getD (k + 1) 0, n⟩] := by
  simp [flowsTo, List.range_succ]
theorem flowsTo_len (l : List Nat) (n : Int) (k : Nat) : (flowsTo l n k).length = k := by simp [flowsTo]

/-- what a shortest way is: hop by hop nearer -/
structure IsWay (G : Caps) (t : Nat) (l : List Nat) : Prop where
  edge : ∀ i, i + 1 < l.length → adj G (l.getD i 0) (l.getD (i + 1) 0) = true ∧ dist G t (l.getD i 0) = dist G t (l.getD (i + 1) 0) + 1
  near : ∀ p ∈ l, 1 ≤ p ∧ p ≤ 16
  len : 2 ≤ l.length
  len2 : l.length ≤ 16

theorem getD_cons_succ (x : Nat) (l : List Nat) (i : Nat) : (x :: l).getD (i + 1) 0 = l.getD i 0 := by simp
theorem wayFrom_edges {G : Caps} {t : Nat} : ∀ (d c : Nat), dist G t c = d → d < 16 → ∀ i, i < d → adj G ((wayFrom G t d c).getD i 0) ((wayFrom G t d c).getD (i + 1) 0) = true ∧ dist G t ((wayFrom G t d c).getD i 0) = dist G t ((wayFrom G t d c).getD (i + 1) 0) + 1
  | 0, _, _, _, i, hi => absurd hi (Nat.not_lt_zero _)
  | d + 1, c, hc, hd, i, hi => by
    have hn := next_spec (G := G) (to := t) (c := c) (d := d) hc (by omega)
    have h0 : (wayFrom G t d (next G t c)).getD 0 0 = next G t c := by cases d <;> rfl
    cases i with
    | zero =>
      show adj G c ((wayFrom G t d (next G t c)).getD 0 0) = true ∧ dist G t c = dist G t ((wayFrom G t d (next G t c)).getD 0 0) + 1
      rw [h0]
      exact ⟨hn.2.1, by omega⟩
    | succ i =>
      have := wayFrom_edges d (next G t c) hn.1 (by omega) i (by omega)
      simpa [wayFrom] using this
theorem wayFrom_near {G : Caps} {t : Nat} : ∀ (d c : Nat), dist G t c = d → d < 16 → 1 ≤ c ∧ c ≤ 16 → ∀ p ∈ wayFrom G t d c, 1 ≤ p ∧ p ≤ 16
  | 0, c, _, _, hc, p, hp => by obtain rfl := List.mem_singleton.1 hp; exact hc
  | d + 1, c, h, hd, hc, p, hp => by
    have hn := next_spec (G := G) (to := t) (c := c) (d := d) h (by omega)
    rcases List.mem_cons.1 hp with rfl | hp
    · exact hc
    · exact wayFrom_near d _ hn.1 (by omega) hn.2.2.1 p hp
theorem short_isWay {G : Caps} {f t : Nat} (h : short G f t ≠ []) : IsWay G t (short G f t) ∧ (1 ≤ f ∧ f ≤ 16) ∧ (1 ≤ t ∧ t ≤ 16) ∧ f ≠ t ∧ dist G t f ≠ 17 ∧ short G f t = wayFrom G t (dist G t f) f := by
  unfold short at h ⊢
  by_cases h1 : (1 ≤ f ∧ f ≤ 16) ∧ (1 ≤ t ∧ t ≤ 16) ∧ f ≠ t
  · rw [if_pos h1] at h ⊢
    by_cases h2 : dist G t f = 17
    · rw [if_pos h2] at h; exact absurd rfl h
    · rw [if_neg h2]
      have hlt := (isDist_dist h2).lt h1.1
      have hd0 : dist G t f ≠ 0 := fun h0 => h1.2.2 (dist_zero.1 h0)
      refine ⟨⟨fun i hi => ?_, fun p hp => wayFrom_near _ _ rfl hlt h1.1 p hp, ?_, ?_⟩, h1.1, h1.2.1, h1.2.2, h2, rfl⟩
      · rw [wayFrom_len] at hi
        exact wayFrom_edges _ _ rfl hlt i (by omega)
      · rw [wayFrom_len]; omega
      · rw [wayFrom_len]; omega
  · rw [if_neg h1] at h; exact absurd rfl h

/-- capacities that may be -/
def GB (G : Caps) : Prop := ∀ x y, 0 ≤ G x y ∧ G x y + G y x ≤ 2305843009213693952
theorem gpush_GB {G : Caps} (h : GB G) (x y : Nat) (n : Int) : GB (gpush G x y n).2 := by
  unfold gpush
  split; · exact h
  split; · exact h
  rename_i h1 h2
  have hc : n ≤ G x y := by
    unfold capOf at h2
    split at h2 <;> omega
  intro p q
  have a1 := h p q
  have a2 := h x y
  show 0 ≤ pushG G x y n p q ∧ pushG G x y n p q + pushG G x y n q p ≤ _
  unfold pushG setG
  by_cases e1 : p = x ∧ q = y
  · obtain ⟨rfl, rfl⟩ := e1
    by_cases e2 : p = q
    · subst e2; simp; omega
    · have : ¬ (q = p) := fun h => e2 h.symm
      simp [e2, this]; omega
  · by_cases e2 : p = y ∧ q = x
    · obtain ⟨rfl, rfl⟩ := e2
      by_cases e3 : p = q
      · subst e3; exact absurd ⟨rfl, rfl⟩ e1
      · have : ¬ (q = p) := fun h => e3 h.symm
        simp [e3, this]; omega
    · have e3 : ¬ (q = x ∧ p = y) := fun h => e2 ⟨h.2, h.1⟩
      have e4 : ¬ (q = y ∧ p = x) := fun h => e1 ⟨h.2, h.1⟩
      simp [e1, e2, e3, e4]
      exact a1
theorem pushTo_GB {G : Caps} (h : GB G) (l : List Nat) (n : Int) : ∀ k, GB (pushTo G l n k)
  | 0 => h
  | k + 1 => gpush_GB (pushTo_GB h l n k) _ _ _

theorem leastTo_le (G : Caps) (l : List Nat) (want : Int) : ∀ k, leastTo G l want k ≤ want ∧ ∀ i, i < k → leastTo G l want k ≤ capOf G (l.getD i 0) (l.getD (i + 1) 0)
  | 0 => ⟨Int.le_refl _, fun i hi => absurd hi (Nat.not_lt_zero _)⟩
  | k + 1 => by
    obtain ⟨h1, h2⟩ := leastTo_le G l want k
    refine ⟨by unfold leastTo; omega, fun i hi => ?_⟩
    by_cases e : i = k
    · subst e; unfold leastTo; omega
    · have := h2 i (by omega); unfold leastTo; omega
theorem leastTo_pos {G : Caps} {l : List Nat} {want : Int} (hw : 1 ≤ want) : ∀ k, (∀ i, i < k → 0 < capOf G (l.getD i 0) (l.getD (i + 1) 0)) → 1 ≤ leastTo G l want k
  | 0, _ => hw
  | k + 1, h => by
    have h1 := leastTo_pos hw k fun i hi => h i (by omega)
    have h2 := h k (by omega)
    unfold leastTo; omega
/-- it is what was wanted, or some capacity -/
theorem leastTo_eq (G : Caps) (l : List Nat) (want : Int) : ∀ k, leastTo G l want k = want ∨ ∃ i, i < k ∧ leastTo G l want k = capOf G (l.getD i 0) (l.getD (i + 1) 0)
  | 0 => .inl rfl
  | k + 1 => by
    unfold leastTo
    by_cases h : leastTo G l want k ≤ capOf G (l.getD k 0) (l.getD (k + 1) 0)
    · rw [Int.min_eq_left h]
      rcases leastTo_eq G l want k with h1 | ⟨i, hi, h1⟩
      · exact .inl h1
      · exact .inr ⟨i, by omega, h1⟩
    · rw [Int.min_eq_right (by omega)]
      exact .inr ⟨k, by omega, rfl⟩

/-! ### what pushes along a way leave -/
theorem adj_cap {G : Caps} {x y : Nat} (h : adj G x y = true) : capOf G x y = G x y ∧ 0 < G x y := by
  have h1 := adj_range h
  have h2 : 0 < capOf G x y := of_decide_eq_true h
  unfold capOf at h2 ⊢
  rw [if_pos h1] at h2 ⊢
  exact ⟨rfl, h2⟩
theorem capOf_in {G : Caps} {x y : Nat} (h : (1 ≤ x ∧ x ≤ 16) ∧ (1 ≤ y ∧ y ≤ 16)) : capOf G x y = G x y := if_pos h
/-- is it one of the first k edges? -/
def onWay (l : List Nat) (k x y : Nat) : Prop := ∃ i, i < k ∧ x = l.getD i 0 ∧ y = l.getD (i + 1) 0
theorem IsWay.apart {G : Caps} {t : Nat} {l : List Nat} (h : IsWay G t l) : ∀ (j i : Nat), i < j → j < l.length → dist G t (l.getD j 0) < dist G t (l.getD i 0) := by
  intro j
  induction j with
  | zero => intro i hi; omega
  | succ j ih =>
    intro i hi hj
    have h1 := (h.edge j hj).2
    by_cases e : i = j
    · subst e; omega
    · have := ih i (by omega) (by omega); omega
theorem IsWay.inj {G : Caps} {t : Nat} {l : List Nat} (h : IsWay G t l) {i j : Nat} (hi : i < l.length) (hj : j < l.length) (e : l.getD i 0 = l.getD j 0) : i = j := by
  rcases Nat.lt_trichotomy i j with hl | hl | hl
  · have := h.apart j i hl hj; rw [e] at this; omega
  · exact hl
  · have := h.apart i j hl hi; rw [e] at this; omega
open Classical in
theorem pushTo_eq {G : Caps} {t : Nat} {l : List Nat} (h : IsWay G t l) {n : Int} (hn : 1 ≤ n) (hc : ∀ i, i + 1 < l.length → n ≤ capOf G (l.getD i 0) (l.getD (i + 1) 0)) : ∀ k, k + 1 ≤ l.length →
    ∀ x y, pushTo G l n k x y = if onWay l k x y then G x y - n else if onWay l k y x then G x y + n else G x y
  | 0, _, x, y => by
    have h0 : ∀ x y, ¬ onWay l 0 x y := fun x y ⟨i, hi, _⟩ => absurd hi (Nat.not_lt_zero _)
    rw [if_neg (h0 x y), if_neg (h0 y x)]; rfl
  | k + 1, hk, x, y => by
    have ih := pushTo_eq h hn hc k (by omega)
    obtain ⟨a, ha⟩ : ∃ a, l.getD k 0 = a := ⟨_, rfl⟩
    obtain ⟨b, hb⟩ : ∃ b, l.getD (k + 1) 0 = b := ⟨_, rfl⟩
    have he := h.edge k (by omega)
    have hck := hc k (by omega)
    rw [ha, hb] at he hck
    have hr := adj_range he.1
    have hne : a ≠ b := by rintro rfl; omega
    have n1 : ¬ onWay l k a b := fun ⟨i, hi, h1, h2⟩ => by
      have := h.inj (i := i) (j := k) (by omega) (by omega) (by rw [← h1, ha]); omega
    have n2 : ¬ onWay l k b a := fun ⟨i, hi, h1, h2⟩ => by
      have := h.inj (i := i) (j := k + 1) (by omega) (by omega) (by rw [← h1, hb]); omega
    have eab : pushTo G l n k a b = G a b := by rw [ih a b, if_neg n1, if_neg n2]
    have eba : pushTo G l n k b a = G b a := by rw [ih b a, if_neg n2, if_neg n1]
    have hcap : capOf (pushTo G l n k) a b = G a b := by rw [capOf_in hr, eab]
    have hGab : n ≤ G a b := by rw [capOf_in hr] at hck; exact hck
    have hstep : pushTo G l n (k + 1) = pushG (pushTo G l n k) a b n := by
      show (gpush (pushTo G l n k) (l.getD k 0) (l.getD (k + 1) 0) n).2 = _
      rw [ha, hb]
      unfold gpush
      rw [if_neg (by omega), if_neg (by rw [hcap]; omega)]
    have hon : ∀ x y, onWay l (k + 1) x y ↔ onWay l k x y ∨ (x = a ∧ y = b) := fun x y => by
      constructor
      · rintro ⟨i, hi, h1, h2⟩
        by_cases e : i = k
        · subst e; exact .inr ⟨by rw [h1, ha], by rw [h2, hb]⟩
        · exact .inl ⟨i, by omega, h1, h2⟩
      · rintro (⟨i, hi, h1, h2⟩ | ⟨h1, h2⟩)
        · exact ⟨i, by omega, h1, h2⟩
        · exact ⟨k, by omega, by rw [h1, ha], by rw [h2, hb]⟩
    rw [hstep]
    unfold pushG setG
    by_cases e1 : x = b ∧ y = a
    · obtain ⟨rfl, rfl⟩ := e1
      have m1 : ¬ onWay l (k + 1) x y := fun hm => by
        rcases (hon _ _).1 hm with hm | ⟨hm, _⟩
        · exact n2 hm
        · exact hne hm.symm
      rw [if_pos ⟨rfl, rfl⟩, if_neg (fun hh => hne hh.2), eba, if_neg m1, if_pos ((hon _ _).2 (.inr ⟨rfl, rfl⟩))]
    · rw [if_neg e1]
      by_cases e2 : x = a ∧ y = b
      · obtain ⟨rfl, rfl⟩ := e2
        rw [if_pos ⟨rfl, rfl⟩, eab, if_pos ((hon _ _).2 (.inr ⟨rfl, rfl⟩))]
      · rw [if_neg e2, ih x y]
        have q1 : onWay l (k + 1) x y ↔ onWay l k x y := by rw [hon]; exact ⟨fun hh => hh.resolve_right e2, .inl⟩
        have q2 : onWay l (k + 1) y x ↔ onWay l k y x := by rw [hon]; exact ⟨fun hh => hh.resolve_right (fun hh => e1 ⟨hh.2, hh.1⟩), .inl⟩
        simp only [q1, q2]

/-! ### a number that every push along a shortest way lowers -/
def tight (G : Caps) (t x y : Nat) : Bool := adj G x y && decide (dist G t x = dist G t y + 1)
def farSum (G : Caps) (t : Nat) : Nat := ((List.range 17).map fun x => 17 - dist G t x).sum
def tights (G : Caps) (t : Nat) : Nat := (List.range 289).countP fun i => tight G t (i / 17) (i % 17)
def phi (G : Caps) (t : Nat) : Nat := 300 * farSum G t + tights G t
theorem tights_le (G : Caps) (t : Nat) : tights G t ≤ 289 := by
  have := List.countP_le_length (p := fun i => tight G t (i / 17) (i % 17)) (l := List.range 289)
  simpa [tights] using this
theorem sum_mono : ∀ (l : List Nat) (p q : Nat → Nat), (∀ x ∈ l, p x ≤ q x) → (l.map p).sum ≤ (l.map q).sum ∧ ((l.map p).sum = (l.map q).sum → ∀ x ∈ l, p x = q x)
  | [], _, _, _ => ⟨Nat.le_refl _, fun _ x hx => by cases hx⟩
  | a :: l, p, q, h => by
    have ih := sum_mono l p q fun x hx => h x (List.mem_cons_of_mem _ hx)
    have h0 := h a List.mem_cons_self
    simp only [List.map_cons, List.sum_cons]
    refine ⟨by omega, fun e x hx => ?_⟩
    rcases List.mem_cons.1 hx with rfl | hx
    · omega
    · exact ih.2 (by omega) x hx
theorem farSum_le (G : Caps) (t : Nat) : farSum G t ≤ 289 := by
  have := (sum_mono (List.range 17) (fun x => 17 - dist G t x) (fun _ => 17) fun x _ => by omega).1
  have e : ((List.range 17).map fun _ => 17).sum = 289 := by decide
  unfold farSum; omega
theorem phi_le (G : Caps) (t : Nat) : phi G t ≤ 87000 := by
  have h1 := farSum_le G t
  have h2 := tights_le G t
  unfold phi; omega
theorem countP_lt_of {l : List Nat} {p q : Nat → Bool} (h : ∀ x ∈ l, p x = true → q x = true) {x : Nat} (hx : x ∈ l) (hp : p x = false) (hq : q x = true) : l.countP p < l.countP q := by
  induction l with
  | nil => cases hx
  | cons a l ih =>
    have hmono : l.countP p ≤ l.countP q := List.countP_mono_left fun y hy => h y (List.mem_cons_of_mem _ hy)
    rw [List.countP_cons, List.countP_cons]
    rcases List.mem_cons.1 hx with rfl | hx
    · simp [hp, hq]; omega
    · have := ih (fun y hy => h y (List.mem_cons_of_mem _ hy)) hx
      have ha := h a List.mem_cons_self
      by_cases hpa : p a = true
      · simp [hpa, ha hpa]; exact this
      · simp [hpa]; split <;> omega

theorem dist_lower {G G' : Caps} {t : Nat} (h : ∀ x y, adj G' x y = true → adj G x y = true ∨ dist G t x + 1 = dist G t y) : ∀ (k x : Nat), reach G' t k x = true → dist G t x ≤ k
  | 0, x, hr => by
    obtain rfl : x = t := by simpa [reach] using hr
    rw [dist_zero.2 rfl]; omega
  | k + 1, x, hr => by
    rcases reach_succ.1 hr with hr | ⟨q, hq, hr⟩
    · have := dist_lower h k x hr; omega
    · have h1 := dist_lower h k q hr
      rcases h x q hq with h2 | h2
      · by_cases hk : k < 17
        · by_cases h17 : dist G t q = 17
          · omega
          · have hD := isDist_dist h17
            obtain ⟨e, he, hE⟩ := isDist_of_reach (G := G) (to := t) (p := x) (dist G t q + 1) (reach_succ.2 (.inr ⟨q, h2, hD.1⟩))
            have := hE.lt (adj_range h2).1
            rw [dist_of hE (by omega)]; omega
        · have := dist_le G t x; omega
      · omega
theorem dist_mono {G G' : Caps} {t : Nat} (h : ∀ x y, adj G' x y = true → adj G x y = true ∨ dist G t x + 1 = dist G t y) (x : Nat) : dist G t x ≤ dist G' t x := by
  by_cases h17 : dist G' t x = 17
  · rw [h17]; exact dist_le G t x
  · exact dist_lower h _ x (isDist_dist h17).1

open Classical in
theorem phi_lt {G : Caps} {t : Nat} {l : List Nat} (h : IsWay G t l) {want n : Int} (hw : 1 ≤ want) (hn : n = leastTo G l want (l.length - 1)) (hne : n ≠ want) : phi (pushTo G l n (l.length - 1)) t < phi G t := by
  have hpos : ∀ i, i < l.length - 1 → 0 < capOf G (l.getD i 0) (l.getD (i + 1) 0) := fun i hi => of_decide_eq_true (h.edge i (by omega)).1
  have hn1 : 1 ≤ n := by rw [hn]; exact leastTo_pos hw _ hpos
  have hle := leastTo_le G l want (l.length - 1)
  rw [← hn] at hle
  have heq := pushTo_eq h hn1 (fun i hi => hle.2 i (by omega)) (l.length - 1) (by have := h.len; omega)
  obtain ⟨G', hG'⟩ : ∃ G', pushTo G l n (l.length - 1) = G' := ⟨_, rfl⟩
  rw [hG'] at heq ⊢
  have hnew : ∀ x y, adj G' x y = true → adj G x y = true ∨ dist G t x + 1 = dist G t y := fun x y ha => by
    have hr := adj_range ha
    have hc := (adj_cap ha).2
    rw [heq x y] at hc
    by_cases o1 : onWay l (l.length - 1) x y
    · obtain ⟨i, hi, rfl, rfl⟩ := o1
      exact .inl (h.edge i (by omega)).1
    · rw [if_neg o1] at hc
      by_cases o2 : onWay l (l.length - 1) y x
      · obtain ⟨i, hi, rfl, rfl⟩ := o2
        have := (h.edge i (by omega)).2
        right; omega
      · rw [if_neg o2] at hc
        left
        exact decide_eq_true (by rw [capOf_in hr]; exact hc)
  have hd := dist_mono hnew
  have hs := sum_mono (List.range 17) (fun x => 17 - dist G' t x) (fun x => 17 - dist G t x) fun x _ => by have := hd x; omega
  have h1 := tights_le G' t
  have h2 := tights_le G t
  by_cases he : farSum G' t = farSum G t
  · have hx : ∀ x, x < 17 → dist G' t x = dist G t x := fun x hx => by
      have := hs.2 he x (List.mem_range.2 hx)
      have a1 := dist_le G t x
      have a2 := dist_le G' t x
      omega
    obtain ⟨i, hi, hsat⟩ : ∃ i, i < l.length - 1 ∧ n = capOf G (l.getD i 0) (l.getD (i + 1) 0) := by
      rcases leastTo_eq G l want (l.length - 1) with e | ⟨i, hi, e⟩
      · exact absurd (hn.trans e) hne
      · exact ⟨i, hi, hn.trans e⟩
    obtain ⟨a, ha⟩ : ∃ a, l.getD i 0 = a := ⟨_, rfl⟩
    obtain ⟨b, hb⟩ : ∃ b, l.getD (i + 1) 0 = b := ⟨_, rfl⟩
    have hE := h.edge i (by omega)
    rw [ha, hb] at hE hsat
    have hr := adj_range hE.1
    have hon : onWay l (l.length - 1) a b := ⟨i, hi, ha.symm, hb.symm⟩
    have hz : G' a b = 0 := by rw [heq a b, if_pos hon, hsat, capOf_in hr]; omega
    have : tights G' t < tights G t := by
      refine countP_lt_of (x := a * 17 + b) (fun j hj hp => ?_) (List.mem_range.2 (by omega)) ?_ ?_
      · simp only [tight, Bool.and_eq_true, decide_eq_true_eq] at hp ⊢
        have hrr := adj_range hp.1
        have d1 := hx (j / 17) (by omega)
        have d2 := hx (j % 17) (by omega)
        rcases hnew _ _ hp.1 with h3 | h3
        · exact ⟨h3, by omega⟩
        · omega
      · rw [show (a * 17 + b) / 17 = a by omega, show (a * 17 + b) % 17 = b by omega]
        simp [tight, adj, capOf_in hr, hz]
      · rw [show (a * 17 + b) / 17 = a by omega, show (a * 17 + b) % 17 = b by omega]
        simp [tight, hE.1, hE.2]
    unfold phi; omega
  · have := hs.1
    have h3 : farSum G' t < farSum G t := by
      have : farSum G' t ≤ farSum G t := hs.1
      omega
    unfold phi; omega
end Go.Proofs.Ytelcdiceongfdaa
