/-
  Walks of the layer graphs, second part: a push, another graph with the same.
  The plain law of the layer paths: hops found breadth first are the least numbers of hops; the shortest way. No program in sight.
-/
import Derived.Test.YtelcdiceongfdaaMoP4
import Derived.Deep.WholeRow
section
namespace Go.Proofs.Ytelcdiceongfdaa
open Go.RowKit Go.BigFrame
set_option maxRecDepth 100000

def setG (G : Caps) (x y : Nat) (n : Int) : Caps := fun p q => if p = x ∧ q = y then n else G p q
def pushG (G : Caps) (f t : Nat) (n : Int) : Caps := setG (setG G f t (G f t - n)) t f (setG G f t (G f t - n) t f + n)
/-- a push: the error, and the graph behind it -/
def gpush (G : Caps) (f t : Nat) (n : Int) : Nat × Caps := if n < 1 then (1, G) else if capOf G f t < n then (11, G) else (0, pushG G f t n)

theorem graphList_set (G : Caps) {x y : Nat} (hx : x ≤ 16) (hy : y ≤ 16) (n : Int) : (graphList G).set (x * 17 + y) (.int .i64 n) = graphList (setG G x y n) := by
  unfold graphList
  rw [List.set_append_left _ _ (by simp; omega)]
  congr 1
  apply List.ext_getElem
  · simp
  · intro i h1 h2
    have hi : i < 289 := by simpa using h2
    rw [List.getElem_set]
    simp only [List.getElem_map, List.getElem_range, setG]
    by_cases e : x * 17 + y = i
    · subst e
      rw [if_pos rfl, if_pos ⟨by omega, by omega⟩]
    · rw [if_neg e, if_neg (by omega)]
theorem GraphAt.set {w : World} {b : Nat} {G : Caps} (h : GraphAt w b G) {x y : Nat} (hx : x ≤ 16) (hy : y ≤ 16) (n : Int) : GraphAt (w.setCell ⟨b, x * 17 + y, none⟩ (.int .i64 n)) b (setG G x y n) := by
  unfold GraphAt at *
  rw [heap_setCell_same h]
  unfold graphCells
  rw [List.setIfInBounds_toArray, graphList_set G hx hy]

theorem Chg.drew {S : List Nat} {w w' : World} (h : Chg S w w') : Chg S w w'.drew := ⟨h.os, h.tape, h.output, h.size, h.block⟩

def GPushPost (w : World) (b : Nat) (r : Nat × Caps) (e : Ending) (w' : World) : Prop := e = .returned (.int .i64 r.1) ∧ Chg [b] w w' ∧ GraphAt w' b r.2

set_option maxHeartbeats 1000000 in
theorem gpush_ok {w : World} {b : Nat} {G : Caps} (h : GraphAt w b G) (x y : Nat) (n : Int) (h1 : 1 ≤ x ∧ x ≤ 16) (h2 : 1 ≤ y ∧ y ≤ 16) (hn : 1 ≤ n) (hc : n ≤ G x y) (hG : G x y ≤ 2305843009213693952) (hG' : 0 ≤ G y x ∧ G y x ≤ 2305843009213693952) :
    Calls Try.prog 64 #[.pointer (some ⟨b, 0, none⟩), .int .u8 x, .int .u8 y, .int .i64 n] w (GPushPost w b (0, pushG G x y n)) := by
  have hm := h.made
  have hb := h.lt
  have c1 := h.cell h1.2 h2.2
  have hf := h.free
  have hcap : Hid (capOf G x y = G x y) := by unfold capOf; exact if_pos ⟨h1, h2⟩
  obtain ⟨m, hm2⟩ : ∃ m, setG G x y (G x y - n) y x = m := ⟨_, rfl⟩
  have hmb : -n ≤ m ∧ m ≤ 2305843009213693952 := by
    rw [← hm2]; unfold setG
    split <;> omega
  have hg1 := h.set h1.2 h2.2 (G x y - n)
  have hg2 := hg1.set h2.2 h1.2 (m + n)
  have c2 := hg1.cell h2.2 h1.2
  rw [hm2] at c2
  have hP : pushG G x y n = setG (setG G x y (G x y - n)) y x (m + n) := by unfold pushG; rw [hm2]
  have HP := Lib.hid hP
  clear hP hm2
  have Hg2 := Lib.hid hg2
  clear hg1 hg2
  generalize G x y = v at *
  go_enter Try.func64, Try.ntmps64
  go_wp2_with (first | (go_at_call 75; refine (gthere_yes hm).mono ?_; rintro e w' ⟨rfl, rfl⟩) | (go_at_call 78; refine (cap_any h x y (by omega) (by omega)).mono ?_; rintro e w' ⟨rfl, rfl⟩; rw [hcap.out]))
  go_region
  go_wp2
  go_region
  go_wp2
  go_ret
  refine ⟨rfl, (((Chg.setCell w b _ _ (by simp)).trans (Chg.setCell _ b _ _ (by simp)) (fun z hz _ => hz)).drew).drew, ?_⟩
  rw [HP.out]
  exact Hg2.out

theorem gpush_any {w : World} {b : Nat} {G : Caps} (h : GraphAt w b G) (x y : Nat) (n : Int) (hx : x < 256) (hy : y < 256) (hG : G x y ≤ 2305843009213693952) (hG' : 0 ≤ G y x ∧ G y x ≤ 2305843009213693952) :
    Calls Try.prog 64 #[.pointer (some ⟨b, 0, none⟩), .int .u8 x, .int .u8 y, .int .i64 n] w (GPushPost w b (gpush G x y n)) := by
  have hm := h.made
  by_cases h1 : n < 1
  · have e : gpush G x y n = (1, G) := by unfold gpush; rw [if_pos h1]
    rw [e]; clear e
    go_enter Try.func64, Try.ntmps64
    go_wp2_with (first | (go_at_call 75; refine (gthere_yes hm).mono ?_; rintro e w' ⟨rfl, rfl⟩))
    go_ret
    exact ⟨rfl, Chg.refl _ _, h⟩
  · by_cases h2 : capOf G x y < n
    · have e : gpush G x y n = (11, G) := by unfold gpush; rw [if_neg h1, if_pos h2]
      rw [e]; clear e
      have hca := cap_any h x y hx hy
      generalize capOf G x y = v at *
      go_enter Try.func64, Try.ntmps64
      go_wp2_with (first | (go_at_call 75; refine (gthere_yes hm).mono ?_; rintro e w' ⟨rfl, rfl⟩) | (go_at_call 78; refine hca.mono ?_; rintro e w' ⟨rfl, rfl⟩))
      go_ret
      exact ⟨rfl, Chg.refl _ _, h⟩
    · have e : gpush G x y n = (0, pushG G x y n) := by unfold gpush; rw [if_neg h1, if_neg h2]
      rw [e]
      have hin : (1 ≤ x ∧ x ≤ 16) ∧ (1 ≤ y ∧ y ≤ 16) := by
        by_cases hin : (1 ≤ x ∧ x ≤ 16) ∧ (1 ≤ y ∧ y ≤ 16)
        · exact hin
        · unfold capOf at h2; rw [if_neg hin] at h2; omega
      have hc : capOf G x y = G x y := by unfold capOf; exact if_pos hin
      exact gpush_ok h x y n hin.1 hin.2 (by omega) (by omega) hG hG'

/-! ### a whole graph, made, read, stored -/
def zeroG : Array Value := (List.replicate 289 (Value.int .i64 0) ++ [Value.bool false]).toArray
def graphBuild : Sem Value := Instr.build 117 #[(1, .bool true)]
@[go_sem] theorem to_graphBuild : Instr.build 117 #[(1, Value.bool true)] = graphBuild := rfl
theorem infoGraph0 : ((Try.prog).info? 117).map (fun i => (i.zero, i.size)) = some (some (.agg zeroG), 290) := by kernel_rfl
theorem infoGraph : ((Try.prog).info? 117).map (·.size) = some 290 := (zero_of_info infoGraph0).2
theorem graphCells_size (G : Caps) : (graphCells G).size = 290 := by simp [graphCells, graphList]
theorem zeroG_size : zeroG.size = 290 := by simp [zeroG]
theorem graphCells_one (G : Caps) : (graphCells G).all (·.oneCell') = true := by
  rw [Array.all_eq_true']
  intro v hv
  simp only [graphCells, graphList, List.mem_toArray, List.mem_append, List.mem_map, List.mem_singleton] at hv
  rcases hv with ⟨i, _, rfl⟩ | rfl <;> rfl
theorem zeroValue_graph (w : World) : (zeroValue 117).run Try.prog w = .ok (.agg zeroG) w := (zero_of_info infoGraph0).1 w
@[go_sem] theorem run_graphBuild (w : World) : graphBuild.run Try.prog w = .ok (.agg (graphCells fun _ _ => 0)) w := by
  unfold graphBuild Instr.build
  rw [Sem.run_bind, zeroValue_graph]
  kernel_rfl
theorem wpl_load_graph {ops : Array Oper} {Q : Exit → Act → World → Prop} {rest : List Oper} {a : Act} {w : World} {dst : Option Tmp} {t : TypeId} {pos : String} {after : Array Edge} {x : Operand} {b : Nat} {G : Caps}
    (hg : GraphAt w b G) (hx : a.eval x = .pointer (some ⟨b, 0, none⟩)) (h : wpList Try.prog ops Q rest (a.put dst (.agg (graphCells G))) w) :
    wpList Try.prog ops Q ({ dst, op := .load 117 x, type := t, pos, after, guard := none } :: rest) a w :=
  wpList_load_row rfl _ _ rfl b hx _ (graphCells G) (0, 0) _ hg Try.underlying117 rfl (by rw [graphCells_size]; exact infoGraph) h
theorem wpl_store_graph {ops : Array Oper} {Q : Exit → Act → World → Prop} {rest : List Oper} {a : Act} {w : World} {dst : Option Tmp} {t : TypeId} {pos : String} {after : Array Edge} {x v : Operand} {G : Caps} {cs : Array Value}
    (hx : a.eval x = .pointer (some ⟨w.heap.size, 0, none⟩)) (hv : a.eval v = .agg (graphCells G)) (hcs : cs.size = 290) (h : wpList Try.prog ops Q rest (a.put dst undef) (w.alloc (.cells (graphCells G) 117))) :
    wpList Try.prog ops Q ({ dst, op := .store 117 x v, type := t, pos, after, guard := none } :: rest) a (w.alloc (.cells cs 117)) := by
  have hr := run_storeAt_new (P := Try.prog) w 117 cs (graphCells G) (by rw [graphCells_size]; exact infoGraph) (by rw [hcs, graphCells_size]) (graphCells_one G)
  unfold wpList
  rw [if_pos (by simp [Region.wanted])]
  left
  unfold Oper.wp
  simp only [execOp, hx, hv, Sem.run_bind, hr, Result.andThen_ok]
  exact h

/-! ### Copy -/
def GCopyPost (w : World) (G : Caps) (e : Ending) (w' : World) : Prop := e = .returned (.pointer (some ⟨w.heap.size, 0, none⟩)) ∧ Below w.heap.size w w' ∧ GraphAt w' w.heap.size G ∧ w'.heap.size = w.heap.size + 1
theorem gcopy {w : World} {b : Nat} {G : Caps} (h : GraphAt w b G) :
    Calls Try.prog 61 #[.pointer (some ⟨b, 0, none⟩)] w (GCopyPost w G) := by
  have hm := h.made
  have hb := h.lt
  go_enter Try.func61, Try.ntmps61
  go_wp2_with (first | (go_at_call 75; refine (gthere_yes hm).mono ?_; rintro e w' ⟨rfl, rfl⟩) | refine wpl_load_graph h rfl ?_ | refine wpl_store_graph (G := G) (cs := Try.zeroCells117) rfl rfl (by kernel_rfl) ?_)
  go_ret
  exact ⟨rfl, (by repeat (first | with_reducible exact Below.refl _ _ | with_reducible assumption | refine Below.drew ?_ | refine Below.setCell ?_ (by first | exact Nat.le_refl _ | omega | (simp; done) | (simp; omega)) _ | refine Below.alloc ?_ (by first | exact Nat.le_refl _ | omega | (simp; done) | (simp; omega)) _ | refine Below.tr ?_ (Nat.le_refl _) (by assumption) | exact Below.refl _ _ | assumption)), alloc_new w _, by simp⟩

end Go.Proofs.Ytelcdiceongfdaa
end
section
namespace Go.Proofs.Ytelcdiceongfdaa

def adj (G : Caps) (p q : Nat) : Bool := decide (0 < capOf G p q)
theorem adj_range {G : Caps} {p q : Nat} (h : adj G p q = true) : (1 ≤ p ∧ p ≤ 16) ∧ (1 ≤ q ∧ q ≤ 16) := by
  have h' : 0 < capOf G p q := of_decide_eq_true h
  unfold capOf at h'
  split at h'
  · assumption
  · exact absurd h' (Int.lt_irrefl 0)
/-- may p come to 'to' within k hops? -/
def reach (G : Caps) (to : Nat) : Nat → Nat → Bool
  | 0, p => decide (p = to)
  | k + 1, p => reach G to k p || (List.range 17).any fun q => adj G p q && reach G to k q
/-- hops; 17: there is no way -/
def dist (G : Caps) (to p : Nat) : Nat := (List.range 17).countP fun k => !reach G to k p

theorem reach_succ {G : Caps} {to k p : Nat} : reach G to (k + 1) p = true ↔ reach G to k p = true ∨ ∃ q, adj G p q = true ∧ reach G to k q = true := by
  simp only [reach, Bool.or_eq_true, List.any_eq_true, List.mem_range, Bool.and_eq_true]
  constructor
  · rintro (h | ⟨q, _, h⟩)
    · exact .inl h
    · exact .inr ⟨q, h⟩
  · rintro (h | ⟨q, h, h'⟩)
    · exact .inl h
    · exact .inr ⟨q, by have := (adj_range h).2; omega, h, h'⟩
theorem reach_mono {G : Caps} {to k l p : Nat} (h : reach G to k p = true) (hl : k ≤ l) : reach G to l p = true := by
  induction l with
  | zero => obtain rfl : k = 0 := by omega
            exact h
  | succ l ih =>
    by_cases e : k = l + 1
    · subst e; exact h
    · exact reach_succ.2 (.inl (ih (by omega)))

def IsDist (G : Caps) (to p d : Nat) : Prop := reach G to d p = true ∧ ∀ k, k < d → reach G to k p = false
theorem isDist_of_reach {G : Caps} {to p : Nat} : ∀ k, reach G to k p = true → ∃ d, d ≤ k ∧ IsDist G to p d
  | 0, h => ⟨0, Nat.le_refl _, h, fun k hk => absurd hk (Nat.not_lt_zero _)⟩
  | k + 1, h => by
    by_cases h' : reach G to k p = true
    · obtain ⟨d, hd, hD⟩ := isDist_of_reach k h'
      exact ⟨d, by omega, hD⟩
    · refine ⟨k + 1, Nat.le_refl _, h, fun j hj => ?_⟩
      cases hr : reach G to j p
      · rfl
      · exact absurd (reach_mono hr (by omega)) h'
theorem IsDist.unique {G : Caps} {to p d e : Nat} (h : IsDist G to p d) (h' : IsDist G to p e) : d = e := by
  rcases Nat.lt_trichotomy d e with hl | hl | hl
  · have := h'.2 d hl; rw [h.1] at this; cases this
  · exact hl
  · have := h.2 e hl; rw [h'.1] at this; cases this
theorem IsDist.zero {G : Caps} {to p : Nat} : IsDist G to p 0 ↔ p = to := by
  constructor
  · intro h; simpa [reach] using h.1
  · rintro rfl; exact ⟨by simp [reach], fun k hk => absurd hk (Nat.not_lt_zero _)⟩
theorem IsDist.succ {G : Caps} {to p d : Nat} (h : IsDist G to p (d + 1)) : ∃ q, adj G p q = true ∧ IsDist G to q d := by
  rcases reach_succ.1 h.1 with h1 | ⟨q, hq, hr⟩
  · have := h.2 d (by omega); rw [h1] at this; cases this
  · refine ⟨q, hq, hr, fun k hk => ?_⟩
    cases hr' : reach G to k q
    · rfl
    · have := h.2 (k + 1) (by omega)
      rw [reach_succ.2 (.inr ⟨q, hq, hr'⟩)] at this; cases this
/-- nodes on the way down -/
theorem IsDist.chain {G : Caps} {to : Nat} : ∀ (d p : Nat), 1 ≤ p ∧ p ≤ 16 → IsDist G to p d → ∃ l : List Nat, l.length = d + 1 ∧ l.Nodup ∧ (∀ x ∈ l, (1 ≤ x ∧ x ≤ 16) ∧ ∃ k, k ≤ d ∧ IsDist G to x k)
  | 0, p, hp, h => ⟨[p], rfl, by simp, fun x hx => by obtain rfl := List.mem_singleton.1 hx; exact ⟨hp, 0, Nat.le_refl _, h⟩⟩
  | d + 1, p, hp, h => by
    obtain ⟨q, hq, hD⟩ := h.succ
    obtain ⟨l, h1, h2, h3⟩ := chain d q (adj_range hq).2 hD
    refine ⟨p :: l, by simp [h1], ?_, fun x hx => ?_⟩
    · rw [List.nodup_cons]
      refine ⟨fun hm => ?_, h2⟩
      obtain ⟨_, k, hk, hk'⟩ := h3 p hm
      have := hk'.unique h
      omega
    · rcases List.mem_cons.1 hx with rfl | hx
      · exact ⟨hp, d + 1, Nat.le_refl _, h⟩
      · obtain ⟨h4, k, hk, hk'⟩ := h3 x hx
        exact ⟨h4, k, by omega, hk'⟩
theorem length_le_subset {α : Type} [DecidableEq α] : ∀ (l l' : List α), l.Nodup → (∀ x, x ∈ l → x ∈ l') → l.length ≤ l'.length
  | [], _, _, _ => Nat.zero_le _
  | x :: l, l', hn, h => by
    rw [List.nodup_cons] at hn
    have hx := h x List.mem_cons_self
    have := length_le_subset l (l'.erase x) hn.2 fun y hy => (List.mem_erase_of_ne (fun e => hn.1 (by subst e; exact hy))).2 (h y (List.mem_cons_of_mem _ hy))
    rw [List.length_erase_of_mem hx] at this
    have := List.length_pos_of_mem hx
    simp; omega
theorem IsDist.lt {G : Caps} {to p d : Nat} (hp : 1 ≤ p ∧ p ≤ 16) (h : IsDist G to p d) : d < 16 := by
  obtain ⟨l, h1, h2, h3⟩ := IsDist.chain d p hp h
  have := length_le_subset l ((List.range 16).map (· + 1)) h2 fun x hx => by
    have := (h3 x hx).1
    exact List.mem_map.2 ⟨x - 1, List.mem_range.2 (by omega), by omega⟩
  simp at this
  omega
theorem countP_lt (n d : Nat) (h : d ≤ n) : (List.range n).countP (fun k => decide (k < d)) = d := by
  induction n with
  | zero => simp; omega
  | succ n ih =>
    rw [List.range_succ, List.countP_append]
    by_cases e : d = n + 1
    · subst e
      have : (List.range n).countP (fun k => decide (k < n + 1)) = n := by
        rw [List.countP_eq_length.2]
        · simp
        · intro x hx; have := List.mem_range.1 hx; simp; omega
      rw [this]; simp
    · rw [ih (by omega)]; simp; omega
theorem dist_of {G : Caps} {to p d : Nat} (h : IsDist G to p d) (hd : d ≤ 17) : dist G to p = d := by
  unfold dist
  rw [← countP_lt 17 d hd]
  congr 1
  funext k
  by_cases hk : k < d
  · simp [h.2 k hk, hk]
  · simp [reach_mono h.1 (by omega : d ≤ k), hk]
theorem dist_none {G : Caps} {to p : Nat} (h : ∀ k, reach G to k p = false) : dist G to p = 17 := by
  unfold dist
  rw [List.countP_eq_length.2]
  · simp
  · intro k _; simp [h k]
theorem dist_le (G : Caps) (to p : Nat) : dist G to p ≤ 17 := by
  have := List.countP_le_length (p := fun k => !reach G to k p) (l := List.range 17)
  simpa [dist] using this
theorem isDist_dist {G : Caps} {to p : Nat} (h : dist G to p ≠ 17) : IsDist G to p (dist G to p) := by
  by_cases hr : ∃ k, k < 17 ∧ reach G to k p = true
  · obtain ⟨k, hk, hr⟩ := hr
    obtain ⟨d, hd, hD⟩ := isDist_of_reach k hr
    rw [dist_of hD (by omega)]; exact hD
  · exfalso
    apply h
    unfold dist
    rw [List.countP_eq_length.2]
    · simp
    · intro k hk
      cases hr' : reach G to k p
      · rfl
      · exact absurd ⟨k, List.mem_range.1 hk, hr'⟩ hr

/-! ### breadth first -/
/-- what holds between two rounds: out: hops found (17: none yet); Q: found, not gone through -/
structure BfsI (G : Caps) (to : Nat) (out : Nat → Nat) (Q : List Nat) : Prop where
  ok : ∀ p, out p ≠ 17 → IsDist G to p (out p)
  found : out to ≠ 17
  q : ∀ p ∈ Q, out p ≠ 17 ∧ 1 ≤ p ∧ p ≤ 16
  nodup : Q.Nodup
  sorted : Q.Pairwise (fun a b => out a ≤ out b)
  near : ∀ a ∈ Q, ∀ b ∈ Q, out b ≤ out a + 1
  gone : ∀ p, out p ≠ 17 → p ∉ Q → ∀ r, adj G r p = true → out r ≠ 17
  all : ∀ a R, Q = a :: R → ∀ p k, IsDist G to p k → k ≤ out a → out p ≠ 17

def start (to : Nat) : Nat → Nat := fun p => if p = to then 0 else 17
theorem bfs_start {G : Caps} {to : Nat} (ht : 1 ≤ to ∧ to ≤ 16) : BfsI G to (start to) [to] := by
  have hs : ∀ p, start to p ≠ 17 → p = to := fun p hp => by unfold start at hp; split at hp <;> simp_all
  refine ⟨fun p hp => ?_, by simp [start], fun p hp => ?_, by simp, by simp, ?_, fun p hp hn => ?_, fun a R ha p k hk hle => ?_⟩
  · obtain rfl := hs p hp
    simp only [start, if_pos]
    exact IsDist.zero.2 rfl
  · obtain rfl := List.mem_singleton.1 hp
    exact ⟨by simp [start], ht⟩
  · intro a ha b hb
    obtain rfl := List.mem_singleton.1 ha
    obtain rfl := List.mem_singleton.1 hb
    omega
  · exact absurd (List.mem_singleton.2 (hs p hp)) hn
  · obtain rfl : to = a := by simpa using (List.cons.inj ha).1
    have : k = 0 := by simpa [start] using hle
    subst this
    obtain rfl := IsDist.zero.1 hk
    simp [start]

def setO (out : Nat → Nat) (p d : Nat) : Nat → Nat := fun x => if x = p then d else out x
/-- what holds while c is gone through: all below p have been looked at -/
structure BfsJ (G : Caps) (to c : Nat) (out : Nat → Nat) (Q : List Nat) (p : Nat) : Prop where
  ok : ∀ x, out x ≠ 17 → IsDist G to x (out x)
  found : out to ≠ 17
  cur : out c ≠ 17 ∧ c ∉ Q ∧ 1 ≤ c ∧ c ≤ 16
  q : ∀ x ∈ Q, out x ≠ 17 ∧ 1 ≤ x ∧ x ≤ 16
  nodup : Q.Nodup
  sorted : Q.Pairwise (fun a b => out a ≤ out b)
  near : ∀ b ∈ Q, out c ≤ out b ∧ out b ≤ out c + 1
  gone : ∀ x, out x ≠ 17 → x ∉ Q → x ≠ c → ∀ r, adj G r x = true → out r ≠ 17
  all : ∀ x k, IsDist G to x k → k ≤ out c → out x ≠ 17
  here : ∀ r, r < p → adj G r c = true → out r ≠ 17

theorem bfs_pop {G : Caps} {to c : Nat} {out : Nat → Nat} {Q : List Nat} (I : BfsI G to out (c :: Q)) : BfsJ G to c out Q 1 := by
  have hn := List.nodup_cons.1 I.nodup
  have hs := List.pairwise_cons.1 I.sorted
  refine ⟨I.ok, I.found, ⟨(I.q c List.mem_cons_self).1, hn.1, (I.q c List.mem_cons_self).2⟩, fun x hx => I.q x (List.mem_cons_of_mem _ hx), hn.2, hs.2, fun b hb => ⟨hs.1 b hb, I.near c List.mem_cons_self b (List.mem_cons_of_mem _ hb)⟩, fun x hx hxq hxc => I.gone x hx (by simp [hxq, hxc]), fun x k hk hle => I.all c Q rfl x k hk hle, fun r hr ha => ?_⟩
  have := (adj_range ha).1
  omega
theorem bfs_skip {G : Caps} {to c p : Nat} {out : Nat → Nat} {Q : List Nat} (J : BfsJ G to c out Q p) (h : out p ≠ 17 ∨ adj G p c = false) : BfsJ G to c out Q (p + 1) :=
  ⟨J.ok, J.found, J.cur, J.q, J.nodup, J.sorted, J.near, J.gone, J.all, fun r hr ha => by
    by_cases e : r = p
    · subst e
      rcases h with h | h
      · exact h
      · rw [h] at ha; cases ha
    · exact J.here r (by omega) ha⟩
theorem bfs_take {G : Caps} {to c p : Nat} {out : Nat → Nat} {Q : List Nat} (J : BfsJ G to c out Q p) (h : out p = 17) (ha : adj G p c = true) : BfsJ G to c (setO out p (out c + 1)) (Q ++ [p]) (p + 1) := by
  have hp := (adj_range ha).1
  have hne : ∀ x, out x ≠ 17 → setO out p (out c + 1) x = out x := fun x hx => by
    unfold setO; rw [if_neg]; rintro rfl; exact hx h
  have hDc := J.ok c J.cur.1
  have hD : IsDist G to p (out c + 1) := by
    refine ⟨reach_succ.2 (.inr ⟨c, ha, hDc.1⟩), fun k hk => ?_⟩
    cases hr : reach G to k p
    · rfl
    · obtain ⟨d, hd, hd'⟩ := isDist_of_reach k hr
      exact absurd h (J.all p d hd' (by omega))
  have hlt := hD.lt hp
  have hself : setO out p (out c + 1) p = out c + 1 := by simp [setO]
  have hs17 : out c + 1 ≠ 17 := by omega
  have hall : ∀ x, out x ≠ 17 → setO out p (out c + 1) x ≠ 17 := fun x hx => by rw [hne x hx]; exact hx
  have hinv : ∀ x, setO out p (out c + 1) x ≠ 17 → x = p ∨ out x ≠ 17 := fun x hx => by
    by_cases e : x = p
    · exact .inl e
    · right; unfold setO at hx; rw [if_neg e] at hx; exact hx
  have hcp : c ≠ p := by rintro rfl; exact J.cur.1 h
  have hc : setO out p (out c + 1) c = out c := hne c J.cur.1
  have hpQ : p ∉ Q := fun hm => (J.q p hm).1 h
  refine ⟨fun x hx => ?_, hall _ J.found, ⟨hall _ J.cur.1, ?_, J.cur.2.2⟩, fun x hx => ?_, ?_, ?_, fun b hb => ?_, fun x hx hxq hxc r hr => ?_, fun x k hk hle => ?_, fun r hr ha' => ?_⟩
  · rcases hinv x hx with rfl | hx'
    · rw [hself]; exact hD
    · rw [hne x hx']; exact J.ok x hx'
  · simp [J.cur.2.1, hcp]
  · rcases List.mem_append.1 hx with hx | hx
    · exact ⟨hall x (J.q x hx).1, (J.q x hx).2⟩
    · obtain rfl := List.mem_singleton.1 hx
      exact ⟨by rw [hself]; exact hs17, hp⟩
  · rw [List.nodup_append]
    refine ⟨J.nodup, by simp, fun a hm b hb => ?_⟩
    obtain rfl := List.mem_singleton.1 hb
    rintro rfl; exact hpQ hm
  · rw [List.pairwise_append]
    refine ⟨J.sorted.imp_of_mem fun {a b} hm hb hab => ?_, by simp, fun a hm b hb => ?_⟩
    · rw [hne a (J.q a hm).1, hne b (J.q b hb).1]; exact hab
    · obtain rfl := List.mem_singleton.1 hb
      rw [hself, hne a (J.q a hm).1]
      exact (J.near a hm).2
  · rw [hc]
    rcases List.mem_append.1 hb with hb | hb
    · rw [hne b (J.q b hb).1]; exact J.near b hb
    · obtain rfl := List.mem_singleton.1 hb
      rw [hself]; omega
  · rcases hinv x hx with rfl | hx'
    · simp at hxq
    · exact hall r (J.gone x hx' (fun hm => hxq (by simp [hm])) hxc r hr)
  · rw [hc] at hle
    exact hall x (J.all x k hk hle)
  · by_cases e : r = p
    · subst e; rw [hself]; exact hs17
    · exact hall r (J.here r (by omega) ha')
theorem bfs_end {G : Caps} {to c : Nat} {out : Nat → Nat} {Q : List Nat} (J : BfsJ G to c out Q 17) : BfsI G to out Q := by
  have hg : ∀ x, out x ≠ 17 → x ∉ Q → ∀ r, adj G r x = true → out r ≠ 17 := fun x hx hxq r hr => by
    by_cases e : x = c
    · subst e; exact J.here r (by have := (adj_range hr).1; omega) hr
    · exact J.gone x hx hxq e r hr
  refine ⟨J.ok, J.found, J.q, J.nodup, J.sorted, fun a ha b hb => ?_, hg, fun a R ha p k hk hle => ?_⟩
  · have h1 := J.near a ha
    have h2 := J.near b hb
    omega
  · subst ha
    have h1 := J.near a List.mem_cons_self
    by_cases hk' : k ≤ out c
    · exact J.all p k hk hk'
    · obtain ⟨q, hq, hD⟩ := IsDist.succ (d := out c) (by rw [show out c + 1 = k by omega]; exact hk)
      have hq17 := J.all q _ hD (Nat.le_refl _)
      refine hg q hq17 (fun hm => ?_) p hq
      have hoq := (J.ok q hq17).unique hD
      have hs := List.pairwise_cons.1 J.sorted
      rcases List.mem_cons.1 hm with rfl | hm
      · omega
      · have := hs.1 q hm
        omega
/-- the queue is empty: all hops are found -/
theorem bfs_done {G : Caps} {to : Nat} {out : Nat → Nat} (I : BfsI G to out []) (p : Nat) : out p = dist G to p := by
  have hf : ∀ k p, reach G to k p = true → out p ≠ 17 := by
    intro k
    induction k with
    | zero => intro p h; obtain rfl : p = to := by simpa [reach] using h
              exact I.found
    | succ k ih =>
      intro p h
      rcases reach_succ.1 h with h | ⟨q, hq, h⟩
      · exact ih p h
      · exact I.gone q (ih q h) (by simp) p hq
  by_cases h : out p = 17
  · rw [h, dist_none]
    intro k
    cases hr : reach G to k p
    · rfl
    · exact absurd h (hf k p hr)
  · have hD := I.ok p h
    by_cases hd : out p ≤ 17
    · exact (dist_of hD hd).symm
    · exfalso
      obtain ⟨q, hq, _⟩ := IsDist.succ (d := out p - 1) (by rw [show out p - 1 + 1 = out p by omega]; exact hD)
      have := hD.lt (adj_range hq).1
      omega

/-- not found yet -/
def und (out : Nat → Nat) : Nat := (List.range 17).countP fun p => decide (out p = 17)
theorem und_set {out : Nat → Nat} {p d : Nat} (h : out p = 17) (hp : p ≤ 16) (hd : d ≠ 17) : und (setO out p d) + 1 = und out := by
  unfold und
  have key : ∀ n, p < n → (List.range n).countP (fun x => decide (setO out p d x = 17)) + 1 = (List.range n).countP (fun x => decide (out x = 17)) := by
    intro n
    induction n with
    | zero => intro h; omega
    | succ n ih =>
      intro hn
      rw [List.range_succ, List.countP_append, List.countP_append]
      by_cases e : p = n
      · subst e
        have : (List.range p).countP (fun x => decide (setO out p d x = 17)) = (List.range p).countP (fun x => decide (out x = 17)) := by
          apply List.countP_congr
          intro x hx
          have := List.mem_range.1 hx
          simp only [setO, if_neg (show ¬ x = p by omega)]
        rw [this]
        simp [setO, h, hd]
      · have := ih (by omega)
        have h2 : setO out p d n = out n := by simp only [setO, if_neg (show ¬ n = p by omega)]
        simp only [List.countP_singleton, h2]
        omega
  exact key 17 (by omega)
theorem und_le (out : Nat → Nat) : und out ≤ 17 := by
  have := List.countP_le_length (p := fun p => decide (out p = 17)) (l := List.range 17)
  simpa [und] using this

/-! ### the shortest way -/
def hop (G : Caps) (to c p : Nat) : Bool := decide (dist G to p + 1 = dist G to c) && adj G c p
def next (G : Caps) (to c : Nat) : Nat := ((List.range 17).find? (hop G to c)).getD 0
def wayFrom (G : Caps) (to : Nat) : Nat → Nat → List Nat
  | 0, c => [c]
  | d + 1, c => c :: wayFrom G to d (next G to c)
def short (G : Caps) (from_ to : Nat) : List Nat :=
  if (1 ≤ from_ ∧ from_ ≤ 16) ∧ (1 ≤ to ∧ to ≤ 16) ∧ from_ ≠ to then (if dist G to from_ = 17 then [] else wayFrom G to (dist G to from_) from_) else []

theorem dist_zero {G : Caps} {to p : Nat} : dist G to p = 0 ↔ p = to := by
  constructor
  · intro h
    have := isDist_dist (G := G) (to := to) (p := p) (by omega)
    rw [h] at this
    exact IsDist.zero.1 this
  · rintro rfl
    exact dist_of (IsDist.zero.2 rfl) (by omega)
theorem next_spec {G : Caps} {to c d : Nat} (h : dist G to c = d + 1) (hd : d < 16) : dist G to (next G to c) = d ∧ adj G c (next G to c) = true ∧ (1 ≤ next G to c ∧ next G to c ≤ 16) ∧ ∀ p, p < next G to c → hop G to c p = false := by
  have hD := isDist_dist (G := G) (to := to) (p := c) (by omega)
  rw [h] at hD
  obtain ⟨q, hq, hDq⟩ := hD.succ
  have hq1 := (adj_range hq).2
  have hh : hop G to c q = true := by
    simp only [hop, Bool.and_eq_true, decide_eq_true_eq]
    exact ⟨by rw [dist_of hDq (by omega), h], hq⟩
  obtain ⟨x, hx⟩ : ∃ x, (List.range 17).find? (hop G to c) = some x := by
    cases e : (List.range 17).find? (hop G to c) with
    | some x => exact ⟨x, rfl⟩
    | none => exact absurd hh (List.find?_eq_none.1 e q (List.mem_range.2 (by omega)))
  have hn : next G to c = x := by unfold next; rw [hx]; rfl
  rw [hn]
  have hpx := List.find?_some hx
  simp only [hop, Bool.and_eq_true, decide_eq_true_eq] at hpx
  refine ⟨by omega, hpx.2, (adj_range hpx.2).2, fun p hp => ?_⟩
  obtain ⟨_, l1, l2, he, hno⟩ := List.find?_eq_some_iff_append.1 hx
  have hxl : x = l1.length := by
    have h1 : (List.range 17)[l1.length]? = some x := by rw [he]; simp
    rw [List.getElem?_range] at h1
    · simpa using h1.symm
    · have := congrArg List.length he; simp at this; omega
  have hpas : p ∈ l1 := by
    have h1 : (List.range 17)[p]? = l1[p]? := by rw [he, List.getElem?_append_left (by omega)]
    rw [List.getElem?_range (by have := (adj_range hpx.2).2; omega)] at h1
    exact List.mem_of_getElem? h1.symm
  simpa using hno p hpas
theorem wayFrom_len (G : Caps) (to : Nat) : ∀ d c, (wayFrom G to d c).length = d + 1
  | 0, _ => rfl
  | d + 1, c => by simp [wayFrom, wayFrom_len G to d]
end Go.Proofs.Ytelcdiceongfdaa
end
