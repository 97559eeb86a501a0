/-
  The abstract ledger, its steps and what keeps it sound: plain Lean, no program in sight.
-/
namespace Go.Proofs.Ytelcdiceongfdaa

/-- parties by their numbers; of creditor, debtor, currency: the limit (0: no line) and the debt -/
structure Ledger where
  has : Nat → Bool
  lim : Nat → Nat → Nat → Int
  debt : Nat → Nat → Nat → Int

namespace Ledger

def empty : Ledger := ⟨fun _ => false, fun _ _ _ => 0, fun _ _ _ => 0⟩

/-- all ends (currency, creditor, debtor), in the order of lines -/
def ends : List (Nat × Nat × Nat) :=
  (List.range 8).flatMap fun c => (List.range 16).flatMap fun a => (List.range 16).map fun b => (c + 1, a + 1, b + 1)

def there (A : Ledger) (e : Nat × Nat × Nat) : Bool := decide (0 < A.lim e.2.1 e.2.2 e.1)
def count (A : Ledger) : Nat := (ends.filter A.there).length

theorem mem_ends {c a b : Nat} : (c, a, b) ∈ ends ↔ (1 ≤ c ∧ c ≤ 8) ∧ (1 ≤ a ∧ a ≤ 16) ∧ (1 ≤ b ∧ b ≤ 16) := by
  simp only [ends, List.mem_flatMap, List.mem_map, List.mem_range, Prod.mk.injEq]
  constructor
  · rintro ⟨c', hc, a', ha, b', hb, rfl, rfl, rfl⟩; omega
  · rintro ⟨h1, h2, h3⟩; exact ⟨c - 1, by omega, a - 1, by omega, b - 1, by omega, by omega, by omega, by omega⟩

structure WF (A : Ledger) : Prop where
  party : ∀ p, A.has p = true → 1 ≤ p ∧ p ≤ 16
  line : ∀ a b c, A.lim a b c ≠ 0 → A.has a = true ∧ A.has b = true ∧ a ≠ b ∧ 1 ≤ c ∧ c ≤ 8 ∧ A.lim a b c ≤ 1099511627776
  debt : ∀ a b c, 0 ≤ A.debt a b c ∧ A.debt a b c ≤ A.lim a b c
  full : A.count ≤ 64

theorem empty_wf : empty.WF :=
  ⟨fun p h => absurd h (by simp [empty]), fun a b c h => absurd rfl h, fun a b c => ⟨Int.le_refl _, Int.le_refl _⟩, by
    have : (ends.filter empty.there) = [] := by
      rw [List.filter_eq_nil_iff]; intro e _; simp [there, empty]
    simp [count, this]⟩

theorem WF.lim_nonneg {A : Ledger} (h : A.WF) (a b c : Nat) : 0 ≤ A.lim a b c := Int.le_trans (h.debt a b c).1 (h.debt a b c).2
theorem WF.lim_pos {A : Ledger} (h : A.WF) {a b c : Nat} (hn : A.lim a b c ≠ 0) : 0 < A.lim a b c := by have := h.lim_nonneg a b c; omega
theorem WF.lim_le {A : Ledger} (h : A.WF) (a b c : Nat) : A.lim a b c ≤ 1099511627776 := by
  by_cases hn : A.lim a b c = 0
  · omega
  · exact (h.line a b c hn).2.2.2.2.2

/-- may there be such ends? -/
def mayEnds (a b c : Nat) : Prop := (1 ≤ a ∧ a ≤ 16) ∧ (1 ≤ b ∧ b ≤ 16) ∧ a ≠ b ∧ 1 ≤ c ∧ c ≤ 8
instance (a b c : Nat) : Decidable (mayEnds a b c) := inferInstanceAs (Decidable (_ ∧ _))

def upd (f : Nat → Nat → Nat → Int) (a b c : Nat) (n : Int) : Nat → Nat → Nat → Int := fun x y z => if x = a ∧ y = b ∧ z = c then n else f x y z
theorem upd_same (f : Nat → Nat → Nat → Int) (a b c : Nat) (n : Int) : upd f a b c n a b c = n := by simp [upd]
theorem upd_other {f : Nat → Nat → Nat → Int} {a b c : Nat} {n : Int} {x y z : Nat} (h : ¬ (x = a ∧ y = b ∧ z = c)) : upd f a b c n x y z = f x y z := by simp only [upd, if_neg h]

def addParty (A : Ledger) (p : Nat) : Ledger := { A with has := fun q => if q = p then true else A.has q }
def setLim (A : Ledger) (a b c : Nat) (n : Int) : Ledger := { A with lim := upd A.lim a b c n }
def setDebt (A : Ledger) (a b c : Nat) (n : Int) : Ledger := { A with debt := upd A.debt a b c n }

/-- Open: the error, and the ledger behind it -/
def openP (A : Ledger) (p : Nat) : Nat × Ledger :=
  if ¬ (1 ≤ p ∧ p ≤ 16) then (1, A) else if A.has p = true then (8, A) else (0, A.addParty p)

def trust (A : Ledger) (a b c : Nat) (n : Int) : Nat × Ledger :=
  if ¬ mayEnds a b c ∨ n < 0 ∨ 1099511627776 < n then (1, A)
  else if A.has a = false ∨ A.has b = false then (7, A)
  else if n < A.debt a b c then (14, A)
  else if A.lim a b c = 0 ∧ 0 < n ∧ 64 ≤ A.count then (9, A)
  else (0, A.setLim a b c n)

def room (A : Ledger) (f t c : Nat) : Int := A.debt f t c + A.lim t f c - A.debt t f c

/-- so much less on the one line, so much more on the other one -/
def shift (A : Ledger) (f t c : Nat) (n : Int) : Ledger :=
  let k := min n (A.debt f t c)
  { A with debt := upd (upd A.debt f t c (A.debt f t c - k)) t f c (upd A.debt f t c (A.debt f t c - k) t f c + (n - k)) }

def push (A : Ledger) (f t c : Nat) (n : Int) : Nat × Ledger :=
  if n < 1 then (1, A) else if A.room f t c < n then (11, A) else (0, A.shift f t c n)

def forgive (A : Ledger) (a b c : Nat) (n : Int) : Nat × Ledger :=
  if n < 1 then (1, A) else if A.lim a b c = 0 then (7, A) else if A.debt a b c < n then (14, A) else (0, A.setDebt a b c (A.debt a b c - n))

theorem WF.addParty {A : Ledger} (h : A.WF) {p : Nat} (hp : 1 ≤ p ∧ p ≤ 16) : (A.addParty p).WF := by
  refine ⟨fun q hq => ?_, fun a b c hn => ?_, h.debt, h.full⟩
  · simp only [Ledger.addParty] at hq
    split at hq
    · omega
    · exact h.party q hq
  · have := h.line a b c hn
    refine ⟨?_, ?_, this.2.2⟩
    · simp only [Ledger.addParty]; split <;> simp [this.1]
    · simp only [Ledger.addParty]; split <;> simp [this.2.1]

theorem filter_le_of_imp {α : Type} (p q : α → Bool) (l : List α) (h : ∀ x, x ∈ l → p x = true → q x = true) : (l.filter p).length ≤ (l.filter q).length := by
  induction l with
  | nil => simp
  | cons x l ih =>
    have ih := ih fun y hy => h y (List.mem_cons_of_mem _ hy)
    by_cases hp : p x = true
    · simp [hp, h x List.mem_cons_self hp]; omega
    · by_cases hq : q x = true <;> simp [hp, hq] <;> omega

theorem ends_nodup : ends.Nodup := by
  have hr : ∀ n, (List.range n).Pairwise (· ≠ ·) := fun n => List.nodup_range
  unfold ends List.Nodup
  rw [List.pairwise_flatMap]
  refine ⟨fun c _ => ?_, ?_⟩
  · rw [List.pairwise_flatMap]
    refine ⟨fun a _ => ?_, ?_⟩
    · rw [List.pairwise_map]
      exact (hr 16).imp fun {x y} hxy h => hxy (by simpa using h)
    · refine (hr 16).imp fun {x y} hxy => ?_
      intro e h1 e' h2 h
      subst h
      simp only [List.mem_map] at h1 h2
      obtain ⟨b, _, rfl⟩ := h1
      obtain ⟨b', _, h⟩ := h2
      simp at h; omega
  · refine (hr 8).imp fun {x y} hxy => ?_
    intro e h1 e' h2 h
    subst h
    simp only [List.mem_flatMap, List.mem_map] at h1 h2
    obtain ⟨a, _, b, _, rfl⟩ := h1
    obtain ⟨a', _, b', _, h⟩ := h2
    simp at h; omega

/-- one end turned: at most one more -/
theorem filter_one {α : Type} [DecidableEq α] (p q : α → Bool) (x : α) (l : List α) (hl : l.Nodup) (h : ∀ y, y ∈ l → y ≠ x → q y = p y) : (l.filter q).length ≤ (l.filter p).length + 1 := by
  induction l with
  | nil => simp
  | cons y l ih =>
    rw [List.nodup_cons] at hl
    by_cases e : y = x
    · subst e
      have : l.filter q = l.filter p := List.filter_congr fun z hz => h z (List.mem_cons_of_mem _ hz) (fun e => hl.1 (e ▸ hz))
      by_cases hq : q y = true <;> by_cases hp : p y = true <;> simp [hq, hp, this] <;> omega
    · have := ih hl.2 fun z hz => h z (List.mem_cons_of_mem _ hz)
      have hy := h y List.mem_cons_self e
      by_cases hp : p y = true <;> simp [hy, hp] <;> omega

theorem WF.trust {A : Ledger} (h : A.WF) (a b c : Nat) (n : Int) : (A.trust a b c n).2.WF := by
  unfold Ledger.trust
  split; · exact h
  split; · exact h
  split; · exact h
  split; · exact h
  rename_i h1 h2 h3 h4
  have hm : mayEnds a b c ∧ 0 ≤ n ∧ n ≤ 1099511627776 := by
    refine ⟨?_, by omega, by omega⟩
    by_cases hm : mayEnds a b c
    · exact hm
    · exact absurd (.inl hm) h1
  have ha : A.has a = true ∧ A.has b = true := by cases ha : A.has a <;> cases hb : A.has b <;> simp_all
  refine ⟨h.party, fun x y z hn => ?_, fun x y z => ?_, ?_⟩
  · by_cases e : x = a ∧ y = b ∧ z = c
    · obtain ⟨rfl, rfl, rfl⟩ := e
      simp only [setLim, upd_same]
      exact ⟨ha.1, ha.2, hm.1.2.2.1, hm.1.2.2.2.1, hm.1.2.2.2.2, hm.2.2⟩
    · simp only [setLim, upd_other e] at hn ⊢
      exact h.line x y z hn
  · by_cases e : x = a ∧ y = b ∧ z = c
    · obtain ⟨rfl, rfl, rfl⟩ := e
      simp only [setLim, upd_same]
      exact ⟨(h.debt _ _ _).1, by omega⟩
    · simp only [setLim, upd_other e]
      exact h.debt x y z
  · by_cases hz : A.lim a b c = 0 ∧ 0 < n
    · have hlt : A.count < 64 := by omega
      have := filter_one A.there (A.setLim a b c n).there (c, a, b) ends ends_nodup (fun y _ hy => by
        obtain ⟨z, x, y⟩ := y
        have e : ¬ (x = a ∧ y = b ∧ z = c) := by rintro ⟨rfl, rfl, rfl⟩; exact hy rfl
        simp only [there, setLim, upd_other e])
      have hc : A.count = (ends.filter A.there).length := rfl
      show (ends.filter (A.setLim a b c n).there).length ≤ 64
      omega
    · have := filter_le_of_imp (A.setLim a b c n).there A.there ends (fun e _ he => by
        obtain ⟨z, x, y⟩ := e
        by_cases e : x = a ∧ y = b ∧ z = c
        · obtain ⟨rfl, rfl, rfl⟩ := e
          simp only [there, setLim, upd_same, decide_eq_true_eq] at he ⊢
          have := h.lim_nonneg x y z
          omega
        · simpa only [there, setLim, upd_other e] using he)
      exact Nat.le_trans this h.full

theorem count_congr {A B : Ledger} (h : A.lim = B.lim) : A.count = B.count := by
  unfold count; rw [show A.there = B.there from by funext e; simp [there, h]]

theorem shift_debt (A : Ledger) (h : A.WF) (f t c : Nat) (n : Int) (hn : 0 ≤ n) (hr : n ≤ A.room f t c) (hft : f ≠ t ∨ n = 0) (x y z : Nat) :
    (A.shift f t c n).debt x y z = if x = f ∧ y = t ∧ z = c then A.debt f t c - min n (A.debt f t c) else if x = t ∧ y = f ∧ z = c then A.debt t f c + (n - min n (A.debt f t c)) else A.debt x y z := by
  have hd := (h.debt f t c).1
  unfold shift
  simp only [upd]
  by_cases e1 : x = f ∧ y = t ∧ z = c
  · obtain ⟨rfl, rfl, rfl⟩ := e1
    by_cases e2 : x = y
    · subst e2
      rcases hft with hft | rfl
      · exact absurd rfl hft
      · simp; omega
    · have : ¬ (x = y ∧ y = x ∧ z = z) := fun h => e2 h.1
      simp [e2]
  · by_cases e2 : x = t ∧ y = f ∧ z = c
    · obtain ⟨rfl, rfl, rfl⟩ := e2
      by_cases e3 : x = y
      · subst e3; exact absurd ⟨rfl, rfl, rfl⟩ e1
      · have : ¬ y = x := fun h => e3 h.symm
        simp [e3]
    · simp only [if_neg e1, if_neg e2]

theorem WF.push {A : Ledger} (h : A.WF) (f t c : Nat) (n : Int) : (A.push f t c n).2.WF := by
  unfold Ledger.push
  split; · exact h
  split; · exact h
  rename_i h1 h2
  have hft : f ≠ t := by
    rintro rfl
    have h0 : A.lim f f c = 0 := by
      by_cases e : A.lim f f c = 0
      · exact e
      · exact absurd rfl (h.line f f c e).2.2.1
    have := h.debt f f c
    unfold room at h2; omega
  have hd := h.debt f t c
  have hd' := h.debt t f c
  refine ⟨h.party, h.line, fun x y z => ?_, ?_⟩
  · rw [shift_debt A h f t c n (by omega) (by omega) (.inl hft)]
    show _ ∧ _ ≤ A.lim x y z
    unfold room at h2
    split
    · rename_i e; obtain ⟨rfl, rfl, rfl⟩ := e; omega
    · split
      · rename_i e; obtain ⟨rfl, rfl, rfl⟩ := e; omega
      · exact h.debt x y z
  · rw [count_congr (A := A.shift f t c n) (B := A) rfl]; exact h.full

theorem WF.forgive {A : Ledger} (h : A.WF) (a b c : Nat) (n : Int) : (A.forgive a b c n).2.WF := by
  unfold Ledger.forgive
  split; · exact h
  split; · exact h
  split; · exact h
  refine ⟨h.party, h.line, fun x y z => ?_, ?_⟩
  · by_cases e : x = a ∧ y = b ∧ z = c
    · obtain ⟨rfl, rfl, rfl⟩ := e
      have := h.debt x y z
      simp only [setDebt, upd_same]; omega
    · simp only [setDebt, upd_other e]; exact h.debt x y z
  · rw [count_congr (A := A.setDebt a b c _) (B := A) rfl]; exact h.full

theorem WF.openP {A : Ledger} (h : A.WF) (p : Nat) : (A.openP p).2.WF := by
  unfold Ledger.openP
  split; · exact h
  split; · exact h
  rename_i h1 _
  exact h.addParty (by omega)

end Ledger
end Go.Proofs.Ytelcdiceongfdaa
