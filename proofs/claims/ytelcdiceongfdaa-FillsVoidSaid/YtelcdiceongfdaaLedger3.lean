/- Walks of the layer ledgers, third part: a line, its limit, what is forgiven; a new ledger, and another one with the same. -/
import Derived.Test.YtelcdiceongfdaaLedger2
namespace Go.Proofs.Ytelcdiceongfdaa
open Go.RowKit Go.BigFrame
set_option maxRecDepth 100000

/-! ### how many lines there are -/
theorem length_le_of_subset {α : Type} [DecidableEq α] : ∀ (l l' : List α), l.Nodup → (∀ x, x ∈ l → x ∈ l') → l.length ≤ l'.length
  | [], _, _, _ => Nat.zero_le _
  | x :: l, l', hn, h => by
    rw [List.nodup_cons] at hn
    have hx := h x List.mem_cons_self
    have := length_le_of_subset l (l'.erase x) hn.2 fun y hy => (List.mem_erase_of_ne (fun e => hn.1 (by subst e; exact hy))).2 (h y (List.mem_cons_of_mem _ hy))
    rw [List.length_erase_of_mem hx] at this
    have := List.length_pos_of_mem hx
    simp; omega

def kv3 (e : Nat × Nat × Nat) : Value := kv e.2.1 e.2.2 e.1
theorem kv3_inj {e e' : Nat × Nat × Nat} (h : kv3 e = kv3 e') : e = e' := by
  obtain ⟨a, b, c⟩ := e
  obtain ⟨a', b', c'⟩ := e'
  have := kv_inj.1 h
  simp only at this
  simp; omega

theorem keys_list : ∀ (es : List MapEntry) (A : Ledger), (∀ e ∈ es, ∃ a b c, e.key = kv a b c ∧ e.val = vv (A.lim a b c) (A.debt a b c) ∧ 0 < A.lim a b c) →
    ∃ ks : List (Nat × Nat × Nat), es.map (fun e => (e.key, e.val)) = ks.map (fun k => (kv3 k, vv (A.lim k.2.1 k.2.2 k.1) (A.debt k.2.1 k.2.2 k.1))) ∧ ∀ k ∈ ks, 0 < A.lim k.2.1 k.2.2 k.1
  | [], _, _ => ⟨[], rfl, by simp⟩
  | e :: es, A, h => by
    obtain ⟨ks, h1, h2⟩ := keys_list es A fun e he => h e (List.mem_cons_of_mem _ he)
    obtain ⟨a, b, c, hk, hv, hp⟩ := h e List.mem_cons_self
    exact ⟨(c, a, b) :: ks, by simp [h1, hk, hv, kv3], fun k hk => by
      rcases List.mem_cons.1 hk with rfl | hk
      · exact hp
      · exact h2 k hk⟩

theorem MapRep.list {es : Array MapEntry} {clk : Nat} {A : Ledger} (R : MapRep es clk A) (hA : A.WF) :
    ∃ ks : List (Nat × Nat × Nat), es.toList.map (fun e => (e.key, e.val)) = ks.map (fun k => (kv3 k, vv (A.lim k.2.1 k.2.2 k.1) (A.debt k.2.1 k.2.2 k.1))) ∧ ks.Nodup ∧ (∀ k, k ∈ ks ↔ k ∈ Ledger.ends.filter A.there) := by
  obtain ⟨ks, h1, h2⟩ := keys_list es.toList A R.ent
  have hk1 : es.toList.map (·.key) = ks.map kv3 := by
    have := congrArg (List.map Prod.fst) h1
    simp only [List.map_map] at this
    exact this
  refine ⟨ks, h1, ?_, fun k => ?_⟩
  · have := R.keys
    have h3 : (es.toList.map (·.key)).Pairwise (· ≠ ·) := by rw [List.pairwise_map]; exact this
    rw [hk1, List.pairwise_map] at h3
    exact h3.imp fun {a b} hab e => hab (by rw [e])
  · obtain ⟨c, a, b⟩ := k
    rw [List.mem_filter]
    constructor
    · intro hk
      have hp := h2 _ hk
      simp only at hp
      have hl := hA.line a b c (by omega)
      have ha := hA.party a hl.1
      have hb := hA.party b hl.2.1
      exact ⟨Ledger.mem_ends.2 ⟨⟨hl.2.2.2.1, hl.2.2.2.2.1⟩, ha, hb⟩, by simpa [Ledger.there] using hp⟩
    · rintro ⟨_, hp⟩
      have hp' : 0 < A.lim a b c := by simpa [Ledger.there] using hp
      obtain ⟨e, he, hk⟩ := R.all a b c hp'
      have : kv3 (c, a, b) ∈ ks.map kv3 := by rw [← hk1]; exact List.mem_map.2 ⟨e, he, hk⟩
      obtain ⟨k', hk', e'⟩ := List.mem_map.1 this
      rw [← kv3_inj e']; exact hk'

theorem MapRep.size_eq {es : Array MapEntry} {clk : Nat} {A : Ledger} (R : MapRep es clk A) (hA : A.WF) : es.size = A.count := by
  obtain ⟨ks, h1, hn, hm⟩ := R.list hA
  have hl : es.size = ks.length := by
    have := congrArg List.length h1
    simpa using this
  have h2 := length_le_of_subset ks _ hn fun x hx => (hm x).1 hx
  have h3 := length_le_of_subset (Ledger.ends.filter A.there) ks (Ledger.ends_nodup.filter _) fun x hx => (hm x).2 hx
  unfold Ledger.count
  omega

theorem len_rule {m : Nat} {A : Ledger} (hA : A.WF) : ∀ W, MapAt W m A → ∀ ty, (Builtin.len_ #[33] ty #[.map (some m)]).run Try.prog W = .ok (.int .i64 A.count) W := by
  intro W h ty
  obtain ⟨es, clk, hm, R⟩ := h
  rw [← R.size_eq hA]
  have hu := und_map
  simp only [Builtin.len_, List.getElem?_toArray, List.getElem?_cons_zero, Sem.run_bind, run_underlying hu, Result.andThen_ok, run_getObj_map hm]
  rfl

theorem wpl_delete {ops : Array Oper} {Q : Exit → Act → World → Prop} {rest : List Oper} {a : Act} {w : World} {m : Nat} {A : Ledger} {dst : Option Tmp} {t : TypeId} {pos : String} {after : Array Edge} {mp k : Operand}
    (x y z : Nat) (hm : a.eval mp = .map (some m)) (hk : a.eval k = .agg #[.int .u8 x, .int .u8 y, .int .u8 z]) (hM : MapAt w m A) (hA : A.WF)
    (h : ∀ w', Chg [m] w w' → w'.heap.size = w.heap.size → MapAt w' m (A.setLim x y z 0) → wpList Try.prog ops Q rest (a.put dst (.tuple #[])) w') :
    wpList Try.prog ops Q ({ dst, op := .call { callee := .builtin .delete, args := #[mp, k], argTypes := #[33, 87] }, type := t, pos, after, guard := none } :: rest) a w := by
  obtain ⟨es', clk', hr, R⟩ := run_mapDelete hM hA x y z t
  have h' := h _ (Chg.putMap (S := [m]) w m es' clk' (by simp)) (putMap_size ..) (putMap_at hM.lt R)
  unfold wpList
  rw [if_pos (by simp [Region.wanted])]
  left
  unfold Oper.wp
  have hr' : (Builtin.delete_ #[33, 87] t #[.map (some m), .agg #[.int .u8 x, .int .u8 y, .int .u8 z]]).run Try.prog w = .ok (.tuple #[]) (World.putMap w m es' clk') := hr
  have hx : (execOp a.eval { dst, op := .call { callee := .builtin .delete, args := #[mp, k], argTypes := #[33, 87] }, type := t, pos, after, guard := none }).run Try.prog w = .ok (.value (.tuple #[])) (World.putMap w m es' clk') := by
    generalize a.eval = ρ at hm hk ⊢
    simp [hm, hk, go_sem, hr']
  rw [hx]
  exact h'

/-! ### Trust -/
theorem setLine_lim (A : Ledger) (a b c : Nat) (n : Int) : (A.setLine a b c n (A.debt a b c)).debt = (A.setLim a b c n).debt := by
  funext x y z
  by_cases e : x = a ∧ y = b ∧ z = c
  · obtain ⟨rfl, rfl, rfl⟩ := e; simp [Ledger.setLim, Ledger.setLine, Ledger.upd_same]
  · simp [Ledger.setLim, Ledger.setLine, Ledger.upd_other e]

theorem trust_bad {w : World} {b m : Nat} {A : Ledger} (h : LedgerAt w b m A) (x y c : Nat) (hx : x < 256) (hy : y < 256) (hc : c < 256) (n : Int) (hb : ¬ Ledger.mayEnds x y c ∨ n < 0 ∨ 1099511627776 < n) :
    Calls Try.prog 28 #[.pointer (some ⟨b, 0, none⟩), .int .u8 x, .int .u8 y, .int .u8 c, .int .i64 n] w (LPost w b m (1, A)) := by
  by_cases hm : Ledger.mayEnds x y c
  · have hn : n < 0 ∨ 0 ≤ n ∧ 1099511627776 < n := by
      rcases hb with hb | hb | hb
      · exact absurd hm hb
      · exact .inl hb
      · omega
    rcases hn with hn | ⟨hn, hn'⟩
    all_goals
      go_enter Try.func28, Try.ntmps28
      go_wp2_with (first | (go_at_call 33; refine (there_yes (h.below (by repeat (first | with_reducible exact Below.refl _ _ | with_reducible assumption | refine Below.drew ?_ | refine Below.setCell ?_ (by first | exact Nat.le_refl _ | omega | (simp; done) | (simp; omega)) _ | refine Below.alloc ?_ (by first | exact Nat.le_refl _ | omega | (simp; done) | (simp; omega)) _ | refine Below.tr ?_ (Nat.le_refl _) (by assumption) | exact Below.refl _ _ | assumption))).mapc).mono ?_; rintro e w' ⟨rfl, rfl⟩) | (go_at_call 46; refine (endsMay_yes x y c hm _).mono ?_; rintro e w1 ⟨rfl, hb1⟩))
      go_ret
      have hB : Below w.heap.size w w1 := (by repeat (first | with_reducible exact Below.refl _ _ | with_reducible assumption | refine Below.drew ?_ | refine Below.setCell ?_ (by first | exact Nat.le_refl _ | omega | (simp; done) | (simp; omega)) _ | refine Below.alloc ?_ (by first | exact Nat.le_refl _ | omega | (simp; done) | (simp; omega)) _ | refine Below.tr ?_ (Nat.le_refl _) (by assumption) | exact Below.refl _ _ | assumption))
      exact ⟨rfl, Chg.of_below hB, h.below hB⟩
  · go_enter Try.func28, Try.ntmps28
    go_wp2_with (first | (go_at_call 33; refine (there_yes (h.below (by repeat (first | with_reducible exact Below.refl _ _ | with_reducible assumption | refine Below.drew ?_ | refine Below.setCell ?_ (by first | exact Nat.le_refl _ | omega | (simp; done) | (simp; omega)) _ | refine Below.alloc ?_ (by first | exact Nat.le_refl _ | omega | (simp; done) | (simp; omega)) _ | refine Below.tr ?_ (Nat.le_refl _) (by assumption) | exact Below.refl _ _ | assumption))).mapc).mono ?_; rintro e w' ⟨rfl, rfl⟩) | (go_at_call 46; refine (endsMay_no x y c hx hy hc hm _).mono ?_; rintro e w1 ⟨rfl, hb1⟩))
    go_ret
    have hB : Below w.heap.size w w1 := (by repeat (first | with_reducible exact Below.refl _ _ | with_reducible assumption | refine Below.drew ?_ | refine Below.setCell ?_ (by first | exact Nat.le_refl _ | omega | (simp; done) | (simp; omega)) _ | refine Below.alloc ?_ (by first | exact Nat.le_refl _ | omega | (simp; done) | (simp; omega)) _ | refine Below.tr ?_ (Nat.le_refl _) (by assumption) | exact Below.refl _ _ | assumption))
    exact ⟨rfl, Chg.of_below hB, h.below hB⟩

theorem trust_none {w : World} {b m : Nat} {A : Ledger} (h : LedgerAt w b m A) (x y c : Nat) (n : Int) (hm : Ledger.mayEnds x y c) (hn : 0 ≤ n) (hn' : n ≤ 1099511627776) (hh : A.has x = false ∨ A.has x = true ∧ A.has y = false) :
    Calls Try.prog 28 #[.pointer (some ⟨b, 0, none⟩), .int .u8 x, .int .u8 y, .int .u8 c, .int .i64 n] w (LPost w b m (7, A)) := by
  obtain ⟨vy, hvy⟩ : ∃ v, A.has y = v := ⟨_, rfl⟩
  have hmx := hm.1
  have hmy := hm.2.1
  rcases hh with hh | ⟨hh, hh'⟩
  · have Hx := Lib.hid hh; have Hy := Lib.hid hvy; clear hh hvy
    go_enter Try.func28, Try.ntmps28
    go_wp2_with (first | (go_at_call 33; refine (there_yes (h.below (by repeat (first | with_reducible exact Below.refl _ _ | with_reducible assumption | refine Below.drew ?_ | refine Below.setCell ?_ (by first | exact Nat.le_refl _ | omega | (simp; done) | (simp; omega)) _ | refine Below.alloc ?_ (by first | exact Nat.le_refl _ | omega | (simp; done) | (simp; omega)) _ | refine Below.tr ?_ (Nat.le_refl _) (by assumption) | exact Below.refl _ _ | assumption))).mapc).mono ?_; rintro e w' ⟨rfl, rfl⟩) | (go_at_call 46; refine (endsMay_yes x y c hm _).mono ?_; rintro e w1 ⟨rfl, hb1⟩; have hB : Below w.heap.size w w1 := (by repeat (first | with_reducible exact Below.refl _ _ | with_reducible assumption | refine Below.drew ?_ | refine Below.setCell ?_ (by first | exact Nat.le_refl _ | omega | (simp; done) | (simp; omega)) _ | refine Below.alloc ?_ (by first | exact Nat.le_refl _ | omega | (simp; done) | (simp; omega)) _ | refine Below.tr ?_ (Nat.le_refl _) (by assumption) | exact Below.refl _ _ | assumption)); have h' := h.below hB; have hcx := h'.has hm.1.2; have hcy := h'.has hm.2.1.2; have hc17 := h'.mapc; have hM := h'.map; have hb := h'.lt; have hml := h'.map.lt; obtain ⟨hcc, hff⟩ := bcell hb1; have hz1 : w.heap.size < w1.heap.size := (by have := hb1.size; simp at this; omega); have hz2 : w.heap.size < w1.heap.size + 1 := (by omega); have hz3 : w.heap.size < w1.heap.size + 2 := (by omega); rw [Hx.out] at hcx; rw [Hy.out] at hcy))
    go_ret
    exact ⟨rfl, Chg.of_below hB, h'⟩
  · rw [hvy] at hh'; subst hh'
    have Hx := Lib.hid hh; have Hy := Lib.hid hvy; clear hh hvy
    go_enter Try.func28, Try.ntmps28
    go_wp2_with (first | (go_at_call 33; refine (there_yes (h.below (by repeat (first | with_reducible exact Below.refl _ _ | with_reducible assumption | refine Below.drew ?_ | refine Below.setCell ?_ (by first | exact Nat.le_refl _ | omega | (simp; done) | (simp; omega)) _ | refine Below.alloc ?_ (by first | exact Nat.le_refl _ | omega | (simp; done) | (simp; omega)) _ | refine Below.tr ?_ (Nat.le_refl _) (by assumption) | exact Below.refl _ _ | assumption))).mapc).mono ?_; rintro e w' ⟨rfl, rfl⟩) | (go_at_call 46; refine (endsMay_yes x y c hm _).mono ?_; rintro e w1 ⟨rfl, hb1⟩; have hB : Below w.heap.size w w1 := (by repeat (first | with_reducible exact Below.refl _ _ | with_reducible assumption | refine Below.drew ?_ | refine Below.setCell ?_ (by first | exact Nat.le_refl _ | omega | (simp; done) | (simp; omega)) _ | refine Below.alloc ?_ (by first | exact Nat.le_refl _ | omega | (simp; done) | (simp; omega)) _ | refine Below.tr ?_ (Nat.le_refl _) (by assumption) | exact Below.refl _ _ | assumption)); have h' := h.below hB; have hcx := h'.has hm.1.2; have hcy := h'.has hm.2.1.2; have hc17 := h'.mapc; have hM := h'.map; have hb := h'.lt; have hml := h'.map.lt; obtain ⟨hcc, hff⟩ := bcell hb1; have hz1 : w.heap.size < w1.heap.size := (by have := hb1.size; simp at this; omega); have hz2 : w.heap.size < w1.heap.size + 1 := (by omega); have hz3 : w.heap.size < w1.heap.size + 2 := (by omega); rw [Hx.out] at hcx; rw [Hy.out] at hcy))
    go_ret
    exact ⟨rfl, Chg.of_below hB, h'⟩

def TPost (w : World) (b m : Nat) (A : Ledger) (x y c : Nat) (n : Int) (e : Ending) (w' : World) : Prop := LPost w b m (A.trust x y c n) e w'

set_option maxHeartbeats 1000000 in
theorem trust_ok {w : World} {b m : Nat} {A : Ledger} (h : LedgerAt w b m A) (x y c : Nat) (n : Int) (hm : Ledger.mayEnds x y c) (hn : 0 ≤ n) (hn' : n ≤ 1099511627776) (hhx : A.has x = true) (hhy : A.has y = true) :
    Calls Try.prog 28 #[.pointer (some ⟨b, 0, none⟩), .int .u8 x, .int .u8 y, .int .u8 c, .int .i64 n] w (TPost w b m A x y c n) := by
  have hmx := hm.1
  have hmy := hm.2.1
  have d1 := h.wf.debt x y c
  have l1 := h.wf.lim_le x y c
  have hwf := h.wf
  have hT : A.trust x y c n = (if n < A.debt x y c then (14, A) else if A.lim x y c = 0 ∧ 0 < n ∧ 64 ≤ A.count then (9, A) else (0, A.setLim x y c n)) := by
    unfold Ledger.trust
    rw [if_neg (by rintro (h | h | h); exact h hm; omega; omega), if_neg (by simp [hhx, hhy])]
  have HT := Lib.hid hT; clear hT
  have Hx := Lib.hid hhx; have Hy := Lib.hid hhy; clear hhx hhy
  have hlk := look_rule2 (m := m) h.wf
  have hln := len_rule (m := m) h.wf
  by_cases hd : n < A.debt x y c
  ·
    go_enter Try.func28, Try.ntmps28
    go_wp2_with (first | (go_at_call 33; refine (there_yes (h.below (by repeat (first | with_reducible exact Below.refl _ _ | with_reducible assumption | refine Below.drew ?_ | refine Below.setCell ?_ (by first | exact Nat.le_refl _ | omega | (simp; done) | (simp; omega)) _ | refine Below.alloc ?_ (by first | exact Nat.le_refl _ | omega | (simp; done) | (simp; omega)) _ | refine Below.tr ?_ (Nat.le_refl _) (by assumption) | exact Below.refl _ _ | assumption))).mapc).mono ?_; rintro e w' ⟨rfl, rfl⟩) | (go_at_call 46; refine (endsMay_yes x y c hm _).mono ?_; rintro e w1 ⟨rfl, hb1⟩; have hB : Below w.heap.size w w1 := (by repeat (first | with_reducible exact Below.refl _ _ | with_reducible assumption | refine Below.drew ?_ | refine Below.setCell ?_ (by first | exact Nat.le_refl _ | omega | (simp; done) | (simp; omega)) _ | refine Below.alloc ?_ (by first | exact Nat.le_refl _ | omega | (simp; done) | (simp; omega)) _ | refine Below.tr ?_ (Nat.le_refl _) (by assumption) | exact Below.refl _ _ | assumption)); have h' := h.below hB; have hcx := h'.has hm.1.2; have hcy := h'.has hm.2.1.2; have hc17 := h'.mapc; have hM := h'.map; have hb := h'.lt; have hml := h'.map.lt; obtain ⟨hcc, hff⟩ := bcell hb1; have hz1 : w.heap.size < w1.heap.size := (by have := hb1.size; simp at this; omega); have hz2 : w.heap.size < w1.heap.size + 1 := (by omega); have hz3 : w.heap.size < w1.heap.size + 2 := (by omega); rw [Hx.out] at hcx; rw [Hy.out] at hcy))
    have lt0_b : b < w1.heap.size + 1 := (by omega); have lt1_b : b ≤ w1.heap.size := (by omega); have lt2_b : b < w1.heap.size + 2 := (by omega); have lt3_b : b < w1.heap.size + 3 := (by omega); have lt4_b : b < w1.heap.size + 4 := (by omega); have lt5_b : b < w1.heap.size + 5 := (by omega)
    have lt0_m : m < w1.heap.size + 1 := (by omega); have lt1_m : m ≤ w1.heap.size := (by omega); have lt2_m : m < w1.heap.size + 2 := (by omega); have lt3_m : m < w1.heap.size + 3 := (by omega); have lt4_m : m < w1.heap.size + 4 := (by omega); have lt5_m : m < w1.heap.size + 5 := (by omega)
    go_region
    go_wp2
    go_ret
    have hB2 : Below w.heap.size w ((w1.alloc (.cells #[.int .i64 (A.lim x y c), .int .i64 (A.debt x y c)] 89)).drew) := (by repeat (first | with_reducible exact Below.refl _ _ | with_reducible assumption | refine Below.drew ?_ | refine Below.setCell ?_ (by first | exact Nat.le_refl _ | omega | (simp; done) | (simp; omega)) _ | refine Below.alloc ?_ (by first | exact Nat.le_refl _ | omega | (simp; done) | (simp; omega)) _ | refine Below.tr ?_ (Nat.le_refl _) (by assumption) | exact Below.refl _ _ | assumption))
    refine ⟨by rw [HT.out]; simp [*], Chg.of_below hB2, ?_⟩
    have : (A.trust x y c n).2 = A := by rw [HT.out]; simp [*]
    rw [this]
    exact h.below hB2
  by_cases hp : 0 < A.lim x y c
  · have hl0 : ¬ A.lim x y c = 0 := by omega
    by_cases hn0 : n = 0
    · subst hn0
      go_enter Try.func28, Try.ntmps28
      go_wp2_with (first | (go_at_call 33; refine (there_yes (h.below (by repeat (first | with_reducible exact Below.refl _ _ | with_reducible assumption | refine Below.drew ?_ | refine Below.setCell ?_ (by first | exact Nat.le_refl _ | omega | (simp; done) | (simp; omega)) _ | refine Below.alloc ?_ (by first | exact Nat.le_refl _ | omega | (simp; done) | (simp; omega)) _ | refine Below.tr ?_ (Nat.le_refl _) (by assumption) | exact Below.refl _ _ | assumption))).mapc).mono ?_; rintro e w' ⟨rfl, rfl⟩) | (go_at_call 46; refine (endsMay_yes x y c hm _).mono ?_; rintro e w1 ⟨rfl, hb1⟩; have hB : Below w.heap.size w w1 := (by repeat (first | with_reducible exact Below.refl _ _ | with_reducible assumption | refine Below.drew ?_ | refine Below.setCell ?_ (by first | exact Nat.le_refl _ | omega | (simp; done) | (simp; omega)) _ | refine Below.alloc ?_ (by first | exact Nat.le_refl _ | omega | (simp; done) | (simp; omega)) _ | refine Below.tr ?_ (Nat.le_refl _) (by assumption) | exact Below.refl _ _ | assumption)); have h' := h.below hB; have hcx := h'.has hm.1.2; have hcy := h'.has hm.2.1.2; have hc17 := h'.mapc; have hM := h'.map; have hb := h'.lt; have hml := h'.map.lt; obtain ⟨hcc, hff⟩ := bcell hb1; have hz1 : w.heap.size < w1.heap.size := (by have := hb1.size; simp at this; omega); have hz2 : w.heap.size < w1.heap.size + 1 := (by omega); have hz3 : w.heap.size < w1.heap.size + 2 := (by omega); rw [Hx.out] at hcx; rw [Hy.out] at hcy))
      have lt0_b : b < w1.heap.size + 1 := (by omega); have lt1_b : b ≤ w1.heap.size := (by omega); have lt2_b : b < w1.heap.size + 2 := (by omega); have lt3_b : b < w1.heap.size + 3 := (by omega); have lt4_b : b < w1.heap.size + 4 := (by omega); have lt5_b : b < w1.heap.size + 5 := (by omega)
      have lt0_m : m < w1.heap.size + 1 := (by omega); have lt1_m : m ≤ w1.heap.size := (by omega); have lt2_m : m < w1.heap.size + 2 := (by omega); have lt3_m : m < w1.heap.size + 3 := (by omega); have lt4_m : m < w1.heap.size + 4 := (by omega); have lt5_m : m < w1.heap.size + 5 := (by omega)
      go_region
      go_wp2
      refine wp_region_later_tail 5 (by kernel_rfl) (by kernel_rfl) (by kernel_rfl) ?_; simp only [List.take_succ_cons, List.take_zero, List.drop_succ_cons, List.drop_zero]; (repeat (go_big_quiet_step (fail))); refine wpQuiet_nil ?_; rintro _ ⟨W, rfl⟩
      have hW := W.b
      have hB2 : Below w.heap.size w W.w := (by repeat (first | with_reducible exact Below.refl _ _ | with_reducible assumption | refine Below.drew ?_ | refine Below.setCell ?_ (by first | exact Nat.le_refl _ | omega | (simp; done) | (simp; omega)) _ | refine Below.alloc ?_ (by first | exact Nat.le_refl _ | omega | (simp; done) | (simp; omega)) _ | refine Below.tr ?_ (Nat.le_refl _) (by assumption) | exact Below.refl _ _ | assumption))
      refine wpl_delete (A := A) (m := m) x y c rfl rfl (h.below hB2).map hwf ?_
      intro w2 hchg hsz hM2
      go_wp2
      go_ret
      have hC : Chg [m] w w2 := (Chg.of_below (S := [m]) hB2).trans hchg (by simp)
      have hT2 : A.trust x y c 0 = (0, A.setLim x y c 0) := by rw [HT.out, if_neg (by omega), if_neg (by omega)]
      refine ⟨by rw [hT2]; rfl, hC, ?_⟩
      rw [hT2]
      exact ledgerAt_of h hC hM2 rfl (by have := hwf.trust x y c 0; rw [hT2] at this; exact this)
    · have hn1 : ((n == 0) = false) := by simpa using hn0
      go_enter Try.func28, Try.ntmps28
      go_wp2_with (first | (go_at_call 33; refine (there_yes (h.below (by repeat (first | with_reducible exact Below.refl _ _ | with_reducible assumption | refine Below.drew ?_ | refine Below.setCell ?_ (by first | exact Nat.le_refl _ | omega | (simp; done) | (simp; omega)) _ | refine Below.alloc ?_ (by first | exact Nat.le_refl _ | omega | (simp; done) | (simp; omega)) _ | refine Below.tr ?_ (Nat.le_refl _) (by assumption) | exact Below.refl _ _ | assumption))).mapc).mono ?_; rintro e w' ⟨rfl, rfl⟩) | (go_at_call 46; refine (endsMay_yes x y c hm _).mono ?_; rintro e w1 ⟨rfl, hb1⟩; have hB : Below w.heap.size w w1 := (by repeat (first | with_reducible exact Below.refl _ _ | with_reducible assumption | refine Below.drew ?_ | refine Below.setCell ?_ (by first | exact Nat.le_refl _ | omega | (simp; done) | (simp; omega)) _ | refine Below.alloc ?_ (by first | exact Nat.le_refl _ | omega | (simp; done) | (simp; omega)) _ | refine Below.tr ?_ (Nat.le_refl _) (by assumption) | exact Below.refl _ _ | assumption)); have h' := h.below hB; have hcx := h'.has hm.1.2; have hcy := h'.has hm.2.1.2; have hc17 := h'.mapc; have hM := h'.map; have hb := h'.lt; have hml := h'.map.lt; obtain ⟨hcc, hff⟩ := bcell hb1; have hz1 : w.heap.size < w1.heap.size := (by have := hb1.size; simp at this; omega); have hz2 : w.heap.size < w1.heap.size + 1 := (by omega); have hz3 : w.heap.size < w1.heap.size + 2 := (by omega); rw [Hx.out] at hcx; rw [Hy.out] at hcy))
      have lt0_b : b < w1.heap.size + 1 := (by omega); have lt1_b : b ≤ w1.heap.size := (by omega); have lt2_b : b < w1.heap.size + 2 := (by omega); have lt3_b : b < w1.heap.size + 3 := (by omega); have lt4_b : b < w1.heap.size + 4 := (by omega); have lt5_b : b < w1.heap.size + 5 := (by omega)
      have lt0_m : m < w1.heap.size + 1 := (by omega); have lt1_m : m ≤ w1.heap.size := (by omega); have lt2_m : m < w1.heap.size + 2 := (by omega); have lt3_m : m < w1.heap.size + 3 := (by omega); have lt4_m : m < w1.heap.size + 4 := (by omega); have lt5_m : m < w1.heap.size + 5 := (by omega)
      go_region
      go_wp2
      refine wp_region_later_tail 9 (by kernel_rfl) (by kernel_rfl) (by kernel_rfl) ?_; simp only [List.take_succ_cons, List.take_zero, List.drop_succ_cons, List.drop_zero]; (repeat (go_big_quiet_step (fail))); refine wpQuiet_nil ?_; rintro _ ⟨W, rfl⟩
      have hW := W.b
      have hB2 : Below w.heap.size w W.w := (by repeat (first | with_reducible exact Below.refl _ _ | with_reducible assumption | refine Below.drew ?_ | refine Below.setCell ?_ (by first | exact Nat.le_refl _ | omega | (simp; done) | (simp; omega)) _ | refine Below.alloc ?_ (by first | exact Nat.le_refl _ | omega | (simp; done) | (simp; omega)) _ | refine Below.tr ?_ (Nat.le_refl _) (by assumption) | exact Below.refl _ _ | assumption))
      refine wpl_mapUpdate (A := A) (m := m) x y c n (A.debt x y c) rfl rfl rfl (h.below hB2).map (by omega) ?_
      intro w2 hchg hsz hM2
      go_wp2
      go_ret
      have hC : Chg [m] w w2 := (Chg.of_below (S := [m]) hB2).trans hchg (by simp)
      have hT2 : A.trust x y c n = (0, A.setLim x y c n) := by rw [HT.out, if_neg (by omega), if_neg (by omega)]
      refine ⟨by rw [hT2]; rfl, hC, ?_⟩
      rw [hT2]
      exact ledgerAt_of h hC (hM2.congr rfl (setLine_lim A x y c n)) rfl (by have := hwf.trust x y c n; rw [hT2] at this; exact this)
  · have hl0 : A.lim x y c = 0 := by omega
    have Hl0 := Lib.hid hl0; clear hl0
    by_cases hn0 : n = 0
    · subst hn0
      go_enter Try.func28, Try.ntmps28
      go_wp2_with (first | (go_at_call 33; refine (there_yes (h.below (by repeat (first | with_reducible exact Below.refl _ _ | with_reducible assumption | refine Below.drew ?_ | refine Below.setCell ?_ (by first | exact Nat.le_refl _ | omega | (simp; done) | (simp; omega)) _ | refine Below.alloc ?_ (by first | exact Nat.le_refl _ | omega | (simp; done) | (simp; omega)) _ | refine Below.tr ?_ (Nat.le_refl _) (by assumption) | exact Below.refl _ _ | assumption))).mapc).mono ?_; rintro e w' ⟨rfl, rfl⟩) | (go_at_call 46; refine (endsMay_yes x y c hm _).mono ?_; rintro e w1 ⟨rfl, hb1⟩; have hB : Below w.heap.size w w1 := (by repeat (first | with_reducible exact Below.refl _ _ | with_reducible assumption | refine Below.drew ?_ | refine Below.setCell ?_ (by first | exact Nat.le_refl _ | omega | (simp; done) | (simp; omega)) _ | refine Below.alloc ?_ (by first | exact Nat.le_refl _ | omega | (simp; done) | (simp; omega)) _ | refine Below.tr ?_ (Nat.le_refl _) (by assumption) | exact Below.refl _ _ | assumption)); have h' := h.below hB; have hcx := h'.has hm.1.2; have hcy := h'.has hm.2.1.2; have hc17 := h'.mapc; have hM := h'.map; have hb := h'.lt; have hml := h'.map.lt; obtain ⟨hcc, hff⟩ := bcell hb1; have hz1 : w.heap.size < w1.heap.size := (by have := hb1.size; simp at this; omega); have hz2 : w.heap.size < w1.heap.size + 1 := (by omega); have hz3 : w.heap.size < w1.heap.size + 2 := (by omega); rw [Hx.out] at hcx; rw [Hy.out] at hcy))
      have lt0_b : b < w1.heap.size + 1 := (by omega); have lt1_b : b ≤ w1.heap.size := (by omega); have lt2_b : b < w1.heap.size + 2 := (by omega); have lt3_b : b < w1.heap.size + 3 := (by omega); have lt4_b : b < w1.heap.size + 4 := (by omega); have lt5_b : b < w1.heap.size + 5 := (by omega)
      have lt0_m : m < w1.heap.size + 1 := (by omega); have lt1_m : m ≤ w1.heap.size := (by omega); have lt2_m : m < w1.heap.size + 2 := (by omega); have lt3_m : m < w1.heap.size + 3 := (by omega); have lt4_m : m < w1.heap.size + 4 := (by omega); have lt5_m : m < w1.heap.size + 5 := (by omega)
      go_region
      go_wp2
      refine wp_region_later_tail 5 (by kernel_rfl) (by kernel_rfl) (by kernel_rfl) ?_; simp only [List.take_succ_cons, List.take_zero, List.drop_succ_cons, List.drop_zero]; (repeat (go_big_quiet_step (fail))); refine wpQuiet_nil ?_; rintro _ ⟨W, rfl⟩
      have hW := W.b
      have hB2 : Below w.heap.size w W.w := (by repeat (first | with_reducible exact Below.refl _ _ | with_reducible assumption | refine Below.drew ?_ | refine Below.setCell ?_ (by first | exact Nat.le_refl _ | omega | (simp; done) | (simp; omega)) _ | refine Below.alloc ?_ (by first | exact Nat.le_refl _ | omega | (simp; done) | (simp; omega)) _ | refine Below.tr ?_ (Nat.le_refl _) (by assumption) | exact Below.refl _ _ | assumption))
      refine wpl_delete (A := A) (m := m) x y c rfl rfl (h.below hB2).map hwf ?_
      intro w2 hchg hsz hM2
      go_wp2
      go_ret
      have hC : Chg [m] w w2 := (Chg.of_below (S := [m]) hB2).trans hchg (by simp)
      have hT2 : A.trust x y c 0 = (0, A.setLim x y c 0) := by rw [HT.out, if_neg (by omega), if_neg (by omega)]
      refine ⟨by rw [hT2]; rfl, hC, ?_⟩
      rw [hT2]
      exact ledgerAt_of h hC hM2 rfl (by have := hwf.trust x y c 0; rw [hT2] at this; exact this)
    · have hn1 : ((n == 0) = false) := by simpa using hn0
      have hn2 : 0 < n := by omega
      by_cases hf : 64 ≤ A.count
      · have hfi : (64 : Int) ≤ (A.count : Int) := by omega
        have hpb : decide (0 < A.lim x y c) = false := by simpa using hp
        go_enter Try.func28, Try.ntmps28
        go_wp2_with (first | (go_at_call 33; refine (there_yes (h.below (by repeat (first | with_reducible exact Below.refl _ _ | with_reducible assumption | refine Below.drew ?_ | refine Below.setCell ?_ (by first | exact Nat.le_refl _ | omega | (simp; done) | (simp; omega)) _ | refine Below.alloc ?_ (by first | exact Nat.le_refl _ | omega | (simp; done) | (simp; omega)) _ | refine Below.tr ?_ (Nat.le_refl _) (by assumption) | exact Below.refl _ _ | assumption))).mapc).mono ?_; rintro e w' ⟨rfl, rfl⟩) | (go_at_call 46; refine (endsMay_yes x y c hm _).mono ?_; rintro e w1 ⟨rfl, hb1⟩; have hB : Below w.heap.size w w1 := (by repeat (first | with_reducible exact Below.refl _ _ | with_reducible assumption | refine Below.drew ?_ | refine Below.setCell ?_ (by first | exact Nat.le_refl _ | omega | (simp; done) | (simp; omega)) _ | refine Below.alloc ?_ (by first | exact Nat.le_refl _ | omega | (simp; done) | (simp; omega)) _ | refine Below.tr ?_ (Nat.le_refl _) (by assumption) | exact Below.refl _ _ | assumption)); have h' := h.below hB; have hcx := h'.has hm.1.2; have hcy := h'.has hm.2.1.2; have hc17 := h'.mapc; have hM := h'.map; have hb := h'.lt; have hml := h'.map.lt; obtain ⟨hcc, hff⟩ := bcell hb1; have hz1 : w.heap.size < w1.heap.size := (by have := hb1.size; simp at this; omega); have hz2 : w.heap.size < w1.heap.size + 1 := (by omega); have hz3 : w.heap.size < w1.heap.size + 2 := (by omega); rw [Hx.out] at hcx; rw [Hy.out] at hcy))
        have lt0_b : b < w1.heap.size + 1 := (by omega); have lt1_b : b ≤ w1.heap.size := (by omega); have lt2_b : b < w1.heap.size + 2 := (by omega); have lt3_b : b < w1.heap.size + 3 := (by omega); have lt4_b : b < w1.heap.size + 4 := (by omega); have lt5_b : b < w1.heap.size + 5 := (by omega)
        have lt0_m : m < w1.heap.size + 1 := (by omega); have lt1_m : m ≤ w1.heap.size := (by omega); have lt2_m : m < w1.heap.size + 2 := (by omega); have lt3_m : m < w1.heap.size + 3 := (by omega); have lt4_m : m < w1.heap.size + 4 := (by omega); have lt5_m : m < w1.heap.size + 5 := (by omega)
        go_region
        go_wp2
        go_ret
        have hB2 : Below w.heap.size w ((w1.alloc (.cells #[.int .i64 (A.lim x y c), .int .i64 (A.debt x y c)] 89)).drew) := (by repeat (first | with_reducible exact Below.refl _ _ | with_reducible assumption | refine Below.drew ?_ | refine Below.setCell ?_ (by first | exact Nat.le_refl _ | omega | (simp; done) | (simp; omega)) _ | refine Below.alloc ?_ (by first | exact Nat.le_refl _ | omega | (simp; done) | (simp; omega)) _ | refine Below.tr ?_ (Nat.le_refl _) (by assumption) | exact Below.refl _ _ | assumption))
        have hT2 : A.trust x y c n = (9, A) := by rw [HT.out, if_neg (by omega), if_pos ⟨Hl0.out, hn2, hf⟩]
        refine ⟨by rw [hT2]; rfl, Chg.of_below hB2, ?_⟩
        rw [hT2]
        exact h.below hB2
      ·
        go_enter Try.func28, Try.ntmps28
        go_wp2_with (first | (go_at_call 33; refine (there_yes (h.below (by repeat (first | with_reducible exact Below.refl _ _ | with_reducible assumption | refine Below.drew ?_ | refine Below.setCell ?_ (by first | exact Nat.le_refl _ | omega | (simp; done) | (simp; omega)) _ | refine Below.alloc ?_ (by first | exact Nat.le_refl _ | omega | (simp; done) | (simp; omega)) _ | refine Below.tr ?_ (Nat.le_refl _) (by assumption) | exact Below.refl _ _ | assumption))).mapc).mono ?_; rintro e w' ⟨rfl, rfl⟩) | (go_at_call 46; refine (endsMay_yes x y c hm _).mono ?_; rintro e w1 ⟨rfl, hb1⟩; have hB : Below w.heap.size w w1 := (by repeat (first | with_reducible exact Below.refl _ _ | with_reducible assumption | refine Below.drew ?_ | refine Below.setCell ?_ (by first | exact Nat.le_refl _ | omega | (simp; done) | (simp; omega)) _ | refine Below.alloc ?_ (by first | exact Nat.le_refl _ | omega | (simp; done) | (simp; omega)) _ | refine Below.tr ?_ (Nat.le_refl _) (by assumption) | exact Below.refl _ _ | assumption)); have h' := h.below hB; have hcx := h'.has hm.1.2; have hcy := h'.has hm.2.1.2; have hc17 := h'.mapc; have hM := h'.map; have hb := h'.lt; have hml := h'.map.lt; obtain ⟨hcc, hff⟩ := bcell hb1; have hz1 : w.heap.size < w1.heap.size := (by have := hb1.size; simp at this; omega); have hz2 : w.heap.size < w1.heap.size + 1 := (by omega); have hz3 : w.heap.size < w1.heap.size + 2 := (by omega); rw [Hx.out] at hcx; rw [Hy.out] at hcy))
        have lt0_b : b < w1.heap.size + 1 := (by omega); have lt1_b : b ≤ w1.heap.size := (by omega); have lt2_b : b < w1.heap.size + 2 := (by omega); have lt3_b : b < w1.heap.size + 3 := (by omega); have lt4_b : b < w1.heap.size + 4 := (by omega); have lt5_b : b < w1.heap.size + 5 := (by omega)
        have lt0_m : m < w1.heap.size + 1 := (by omega); have lt1_m : m ≤ w1.heap.size := (by omega); have lt2_m : m < w1.heap.size + 2 := (by omega); have lt3_m : m < w1.heap.size + 3 := (by omega); have lt4_m : m < w1.heap.size + 4 := (by omega); have lt5_m : m < w1.heap.size + 5 := (by omega)
        go_region
        go_wp2
        refine wp_region_later_tail 9 (by kernel_rfl) (by kernel_rfl) (by kernel_rfl) ?_; simp only [List.take_succ_cons, List.take_zero, List.drop_succ_cons, List.drop_zero]; (repeat (go_big_quiet_step (fail))); refine wpQuiet_nil ?_; rintro _ ⟨W, rfl⟩
        have hW := W.b
        have hB2 : Below w.heap.size w W.w := (by repeat (first | with_reducible exact Below.refl _ _ | with_reducible assumption | refine Below.drew ?_ | refine Below.setCell ?_ (by first | exact Nat.le_refl _ | omega | (simp; done) | (simp; omega)) _ | refine Below.alloc ?_ (by first | exact Nat.le_refl _ | omega | (simp; done) | (simp; omega)) _ | refine Below.tr ?_ (Nat.le_refl _) (by assumption) | exact Below.refl _ _ | assumption))
        refine wpl_mapUpdate (A := A) (m := m) x y c n (A.debt x y c) rfl rfl rfl (h.below hB2).map (by omega) ?_
        intro w2 hchg hsz hM2
        go_wp2
        go_ret
        have hC : Chg [m] w w2 := (Chg.of_below (S := [m]) hB2).trans hchg (by simp)
        have hT2 : A.trust x y c n = (0, A.setLim x y c n) := by rw [HT.out, if_neg (by omega), if_neg (by omega)]
        refine ⟨by rw [hT2]; rfl, hC, ?_⟩
        rw [hT2]
        exact ledgerAt_of h hC (hM2.congr rfl (setLine_lim A x y c n)) rfl (by have := hwf.trust x y c n; rw [hT2] at this; exact this)

theorem trust_any {w : World} {b m : Nat} {A : Ledger} (h : LedgerAt w b m A) (x y c : Nat) (hx : x < 256) (hy : y < 256) (hc : c < 256) (n : Int) :
    Calls Try.prog 28 #[.pointer (some ⟨b, 0, none⟩), .int .u8 x, .int .u8 y, .int .u8 c, .int .i64 n] w (TPost w b m A x y c n) := by
  by_cases h1 : ¬ Ledger.mayEnds x y c ∨ n < 0 ∨ 1099511627776 < n
  · have e : A.trust x y c n = (1, A) := by unfold Ledger.trust; rw [if_pos h1]
    unfold TPost; rw [e]
    exact trust_bad h x y c hx hy hc n h1
  · have hm : Ledger.mayEnds x y c := by
      by_cases hm : Ledger.mayEnds x y c
      · exact hm
      · exact absurd (.inl hm) h1
    by_cases h2 : A.has x = false ∨ A.has y = false
    · have e : A.trust x y c n = (7, A) := by unfold Ledger.trust; rw [if_neg h1, if_pos h2]
      unfold TPost; rw [e]
      exact trust_none h x y c n hm (by omega) (by omega) (by cases hx : A.has x <;> cases hy : A.has y <;> simp_all)
    · exact trust_ok h x y c n hm (by omega) (by omega) (by cases hx : A.has x <;> simp_all) (by cases hx : A.has y <;> simp_all)

end Go.Proofs.Ytelcdiceongfdaa
