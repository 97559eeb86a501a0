/- flows.Route: what lies in memory between two rounds; what a route is. -/
import Derived.Test.YtelcdiceongfdaaFlowPure
namespace Go.Proofs.Ytelcdiceongfdaa
open Go.RowKit Go.BigFrame
set_option maxRecDepth 100000

structure FS where
  g : Caps
  got : Int
  ps : List Flow
/-- what goes by the shortest way -/
def FS.n (s : FS) (f t : Nat) (want : Int) : Int := leastTo s.g (short s.g f t) (want - s.got) ((short s.g f t).length - 1)
def FS.step (s : FS) (f t : Nat) (want : Int) : FS :=
  ⟨pushTo s.g (short s.g f t) (s.n f t want) ((short s.g f t).length - 1), s.got + s.n f t want, s.ps ++ flowsTo (short s.g f t) (s.n f t want) ((short s.g f t).length - 1)⟩
/-- a route: as many rounds as there are, k at most -/
def routeF (f t : Nat) (want : Int) : Nat → FS → Option FS
  | 0, _ => none
  | k + 1, s => if short s.g f t = [] then some s else if (s.step f t want).got = want then some (s.step f t want) else routeF f t want k (s.step f t want)
def Reach (f t : Nat) (want : Int) (s0 s : FS) : Prop := ∃ j, ∀ k, routeF f t want (j + k) s0 = routeF f t want k s
theorem Reach.refl (f t : Nat) (want : Int) (s : FS) : Reach f t want s s := ⟨0, fun k => by rw [Nat.zero_add]⟩
theorem Reach.next {f t : Nat} {want : Int} {s0 s : FS} (h : Reach f t want s0 s) (hs : short s.g f t ≠ []) (hn : (s.step f t want).got ≠ want) : Reach f t want s0 (s.step f t want) := by
  obtain ⟨j, hj⟩ := h
  refine ⟨j + 1, fun k => ?_⟩
  rw [show j + 1 + k = j + (k + 1) by omega, hj (k + 1)]
  show (if _ then _ else if _ then _ else _) = _
  rw [if_neg hs, if_neg hn]
theorem Reach.done {f t : Nat} {want : Int} {s0 s : FS} (h : Reach f t want s0 s) (hs : short s.g f t = []) : ∃ k, routeF f t want k s0 = some s := by
  obtain ⟨j, hj⟩ := h
  refine ⟨j + 1, ?_⟩
  rw [hj 1]
  show (if _ then _ else if _ then _ else _) = _
  rw [if_pos hs]
theorem Reach.full {f t : Nat} {want : Int} {s0 s : FS} (h : Reach f t want s0 s) (hs : short s.g f t ≠ []) (hn : (s.step f t want).got = want) : ∃ k, routeF f t want k s0 = some (s.step f t want) := by
  obtain ⟨j, hj⟩ := h
  refine ⟨j + 1, ?_⟩
  rw [hj 1]
  show (if _ then _ else if _ then _ else _) = _
  rw [if_neg hs, if_pos hn]
theorem routeF_mono {f t : Nat} {want : Int} : ∀ (k : Nat) (s r : FS), routeF f t want k s = some r → ∀ j, routeF f t want (k + j) s = some r
  | 0, _, _, h, _ => by cases h
  | k + 1, s, r, h, j => by
    rw [show k + 1 + j = (k + j) + 1 by omega]
    unfold routeF at h ⊢
    by_cases h1 : short s.g f t = []
    · rw [if_pos h1] at h ⊢; exact h
    · rw [if_neg h1] at h ⊢
      by_cases h2 : (s.step f t want).got = want
      · rw [if_pos h2] at h ⊢; exact h
      · rw [if_neg h2] at h ⊢
        exact routeF_mono k _ r h j
theorem routeF_unique {f t : Nat} {want : Int} {k k' : Nat} {s r r' : FS} (h : routeF f t want k s = some r) (h' : routeF f t want k' s = some r') : r = r' := by
  have h1 := routeF_mono k s r h k'
  have h2 := routeF_mono k' s r' h' k
  rw [Nat.add_comm] at h2
  rw [h1] at h2
  exact Option.some.inj h2

def Flow.enc (x : Flow) : List Value := [.int .u8 x.f, .int .u8 x.t, .int .i64 x.n]

/-- memory between two rounds; H: the heap's size when the call began -/
structure RMem (w : World) (f t : Nat) (want : Int) (g : Caps) (got : Int) (ps : List Flow) (W : World) : Prop where
  bel : Below w.heap.size w W
  size : w.heap.size + 8 ≤ W.heap.size
  c0 : W.heap[w.heap.size]? = some (.cells #[.pointer (some ⟨w.heap.size + 4, 0, none⟩)] 82 (0, 0))
  c1 : W.heap[w.heap.size + 1]? = some (.cells #[.int .i64 want] 2 (0, 0))
  c2 : ∃ ad c, W.heap[w.heap.size + 2]? = some (.cells #[.slice ad ps.length c] 100 (0, 0)) ∧ W.ownsRow (w.heap.size + 8) 104 3 (.slice ad ps.length c) ps.length (ps.flatMap Flow.enc)
  c3 : W.heap[w.heap.size + 3]? = some (.cells #[.int .i64 got] 2 (0, 0))
  gr : GraphAt W (w.heap.size + 4) g
  c5 : W.heap[w.heap.size + 5]? = some (.cells #[.pointer (some ⟨w.heap.size + 4, 0, none⟩)] 82 (0, 0))
  c6 : W.heap[w.heap.size + 6]? = some (.cells #[.int .u8 f] 23 (0, 0))
  c7 : W.heap[w.heap.size + 7]? = some (.cells #[.int .u8 t] 23 (0, 0))

theorem cell_one {W : World} {b : Nat} {v : Value} {t : TypeId} (h : W.heap[b]? = some (.cells #[v] t (0, 0))) : W.cell? ⟨b, 0, none⟩ = some v := by simp [World.cell?, h]
theorem free_one {W : World} {b : Nat} {v : Value} {t : TypeId} (h : W.heap[b]? = some (.cells #[v] t (0, 0))) (o : Nat) : W.frozen? ⟨b, o, none⟩ = false := by simp [World.frozen?, h]
theorem set_one {W : World} {b : Nat} {v : Value} {t : TypeId} (h : W.heap[b]? = some (.cells #[v] t (0, 0))) (u : Value) : (W.setCell ⟨b, 0, none⟩ u).heap[b]? = some (.cells #[u] t (0, 0)) := by
  rw [heap_setCell_same h]; rfl

theorem RMem.ways {w W : World} {f t : Nat} {want : Int} {g : Caps} {got : Int} {ps : List Flow} (h : RMem w f t want g got ps W) : WaysAt W (w.heap.size + 5) (w.heap.size + 6) (w.heap.size + 7) (w.heap.size + 4) f t g :=
  ⟨h.gr, cell_one h.c5, cell_one h.c6, cell_one h.c7⟩
/-- whatever keeps the call's own blocks, and the row of pushes -/
theorem RMem.keep {w W W' : World} {f t : Nat} {want : Int} {g : Caps} {got : Int} {ps : List Flow} (h : RMem w f t want g got ps W) (hb : Below (w.heap.size + 8) W W')
    (hr : ∀ ad c, W.ownsRow (w.heap.size + 8) 104 3 (.slice ad ps.length c) ps.length (ps.flatMap Flow.enc) → W'.ownsRow (w.heap.size + 8) 104 3 (.slice ad ps.length c) ps.length (ps.flatMap Flow.enc)) : RMem w f t want g got ps W' := by
  obtain ⟨ad, c, h2, hrow⟩ := h.c2
  refine ⟨h.bel.trans ⟨hb.os, hb.tape, hb.output, hb.size, fun k hk => hb.block k (by omega)⟩, Nat.le_trans h.size hb.size, ?_, ?_, ⟨ad, c, ?_, hr ad c hrow⟩, ?_, ?_, ?_, ?_, ?_⟩
  · rw [hb.block _ (by omega)]; exact h.c0
  · rw [hb.block _ (by omega)]; exact h.c1
  · rw [hb.block _ (by omega)]; exact h2
  · rw [hb.block _ (by omega)]; exact h.c3
  · unfold GraphAt; rw [hb.block _ (by omega)]; exact h.gr
  · rw [hb.block _ (by omega)]; exact h.c5
  · rw [hb.block _ (by omega)]; exact h.c6
  · rw [hb.block _ (by omega)]; exact h.c7
theorem RMem.below {w W W' : World} {f t : Nat} {want : Int} {g : Caps} {got : Int} {ps : List Flow} (h : RMem w f t want g got ps W) (hb : Below W.heap.size W W') : RMem w f t want g got ps W' :=
  h.keep (hb.mono h.size) fun _ _ hr => ownsRow_later hr hb
theorem RMem.put {w W : World} {f t : Nat} {want : Int} {g : Caps} {got : Int} {ps : List Flow} (h : RMem w f t want g got ps W) {l : Nat} (o' : Obj) (hl : w.heap.size + 8 ≤ l) (ho : ∃ o : Obj, W.heap[l]? = some o ∧ o.isCells = false) : RMem w f t want g got ps (W.putObj l o') := by
  obtain ⟨o, ho, hc⟩ := ho
  have hother : ∀ k, k ≠ l → (W.putObj l o').heap[k]? = W.heap[k]? := fun k hk => World.putObj_heap_other hk
  refine h.keep ⟨rfl, rfl, rfl, by simp, fun k hk => hother k (by omega)⟩ fun ad c hr => ?_
  refine ⟨hr.1, ?_⟩
  rcases hr.2 with h0 | ⟨g, cap, cur, e1, e2, hg, e3⟩
  · exact .inl h0
  · refine .inr ⟨g, cap, cur, e1, e2, (hother g ?_).trans hg, e3⟩
    rintro rfl
    rw [ho] at hg
    cases hg
    simp [Obj.isCells] at hc
/-- the graph, turned -/
theorem RMem.graph {w W W' : World} {f t : Nat} {want : Int} {g g' : Caps} {got : Int} {ps : List Flow} (h : RMem w f t want g got ps W) (hc : Chg [w.heap.size + 4] W W') (hg : GraphAt W' (w.heap.size + 4) g') : RMem w f t want g' got ps W' := by
  obtain ⟨ad, c, h2, hrow⟩ := h.c2
  have hs := h.size
  have hk : ∀ k, k < w.heap.size + 8 → k ≠ w.heap.size + 4 → W'.heap[k]? = W.heap[k]? := fun k hk hn => hc.block k (by omega) (by simpa using hn)
  refine ⟨h.bel.trans ⟨hc.os, hc.tape, hc.output, hc.size, fun k hlt => hk k (by omega) (by omega)⟩, Nat.le_trans h.size hc.size, ?_, ?_, ⟨ad, c, ?_, ?_⟩, ?_, hg, ?_, ?_, ?_⟩
  · rw [hk _ (by omega) (by omega)]; exact h.c0
  · rw [hk _ (by omega) (by omega)]; exact h.c1
  · rw [hk _ (by omega) (by omega)]; exact h2
  · refine ⟨hrow.1, ?_⟩
    rcases hrow.2 with h0 | ⟨gg, cap, cur, e1, e2, hgg, e3⟩
    · exact .inl h0
    · exact .inr ⟨gg, cap, cur, e1, e2, (hc.block gg (lt_of_block hgg) (by simp; omega)).trans hgg, e3⟩
  · rw [hk _ (by omega) (by omega)]; exact h.c3
  · rw [hk _ (by omega) (by omega)]; exact h.c5
  · rw [hk _ (by omega) (by omega)]; exact h.c6
  · rw [hk _ (by omega) (by omega)]; exact h.c7
/-- what it got, turned -/
theorem RMem.setGot {w W : World} {f t : Nat} {want : Int} {g : Caps} {got : Int} {ps : List Flow} (h : RMem w f t want g got ps W) (n : Int) : RMem w f t want g n ps (W.setCell ⟨w.heap.size + 3, 0, none⟩ (.int .i64 n)) := by
  obtain ⟨ad, c, h2, hrow⟩ := h.c2
  have hs := h.size
  have hk : ∀ k, k ≠ w.heap.size + 3 → (W.setCell ⟨w.heap.size + 3, 0, none⟩ (.int .i64 n)).heap[k]? = W.heap[k]? := fun k hn => Below.heap_setCell _ _ _ _ hn
  refine ⟨h.bel.setCell (by simp) _, by simpa using h.size, ?_, ?_, ⟨ad, c, ?_, ?_⟩, set_one h.c3 _, ?_, ?_, ?_, ?_⟩
  · rw [hk _ (by omega)]; exact h.c0
  · rw [hk _ (by omega)]; exact h.c1
  · rw [hk _ (by omega)]; exact h2
  · refine ⟨hrow.1, ?_⟩
    rcases hrow.2 with h0 | ⟨gg, cap, cur, e1, e2, hgg, e3⟩
    · exact .inl h0
    · exact .inr ⟨gg, cap, cur, e1, e2, (hk gg (by omega)).trans hgg, e3⟩
  · unfold GraphAt; rw [hk _ (by omega)]; exact h.gr
  · rw [hk _ (by omega)]; exact h.c5
  · rw [hk _ (by omega)]; exact h.c6
  · rw [hk _ (by omega)]; exact h.c7
/-- pushes, turned -/
theorem RMem.setPs {w W W' : World} {f t : Nat} {want : Int} {g : Caps} {got : Int} {ps ps' : List Flow} (h : RMem w f t want g got ps W) (hb : Below (w.heap.size + 8) W W') {ad : Option Addr} {c : Nat}
    (hrow : W'.ownsRow (w.heap.size + 8) 104 3 (.slice ad ps'.length c) ps'.length (ps'.flatMap Flow.enc)) : RMem w f t want g got ps' (W'.setCell ⟨w.heap.size + 2, 0, none⟩ (.slice ad ps'.length c)) := by
  obtain ⟨ad0, c0, h2, hrow0⟩ := h.c2
  have hs := h.size
  have hk : ∀ k, k < w.heap.size + 8 → k ≠ w.heap.size + 2 → (W'.setCell ⟨w.heap.size + 2, 0, none⟩ (.slice ad ps'.length c)).heap[k]? = W.heap[k]? := fun k hk hn => (Below.heap_setCell _ _ _ _ hn).trans (hb.block k hk)
  refine ⟨(h.bel.trans ⟨hb.os, hb.tape, hb.output, hb.size, fun k hk => hb.block k (by omega)⟩).setCell (by simp) _, by have := hb.size; simp; omega, ?_, ?_, ⟨ad, c, ?_, ?_⟩, ?_, ?_, ?_, ?_, ?_⟩
  · rw [hk _ (by omega) (by omega)]; exact h.c0
  · rw [hk _ (by omega) (by omega)]; exact h.c1
  · exact set_one ((hb.block _ (by omega)).trans h2) _
  · refine ⟨hrow.1, ?_⟩
    rcases hrow.2 with h0 | ⟨gg, cap, cur, e1, e2, hgg, e3⟩
    · exact .inl h0
    · exact .inr ⟨gg, cap, cur, e1, e2, (Below.heap_setCell _ _ _ _ (by simp; omega)).trans hgg, e3⟩
  · rw [hk _ (by omega) (by omega)]; exact h.c3
  · unfold GraphAt; rw [hk _ (by omega) (by omega)]; exact h.gr
  · rw [hk _ (by omega) (by omega)]; exact h.c5
  · rw [hk _ (by omega) (by omega)]; exact h.c6
  · rw [hk _ (by omega) (by omega)]; exact h.c7
/-- memory when the loop begins -/
theorem rmem_init {w w1 : World} {b f t : Nat} {want : Int} {G : Caps}
    (hb1 : Below (w.heap.size + 4) ((((w.alloc (.cells #[.pointer (some ⟨b, 0, none⟩)] 82)).alloc (.cells #[.int .i64 want] 2)).alloc (.cells #[.slice none 0 0] 100)).alloc (.cells #[.int .i64 0] 2)) w1)
    (hg : GraphAt w1 (w.heap.size + 4) G) (hz : w1.heap.size = w.heap.size + 5) :
    RMem w f t want G 0 [] ((((w1.setCell ⟨w.heap.size, 0, none⟩ (.pointer (some ⟨w.heap.size + 4, 0, none⟩))).alloc (.cells #[.pointer (some ⟨w.heap.size + 4, 0, none⟩)] 82)).alloc (.cells #[.int .u8 f] 23)).alloc (.cells #[.int .u8 t] 23)) := by
  obtain ⟨A, hA⟩ : ∃ A, w.alloc (.cells #[.pointer (some ⟨b, 0, none⟩)] 82) = A := ⟨_, rfl⟩
  obtain ⟨B, hB⟩ : ∃ B, A.alloc (.cells #[.int .i64 want] 2) = B := ⟨_, rfl⟩
  obtain ⟨C, hC⟩ : ∃ C, B.alloc (.cells #[.slice none 0 0] 100) = C := ⟨_, rfl⟩
  obtain ⟨D, hD⟩ : ∃ D, C.alloc (.cells #[.int .i64 0] 2) = D := ⟨_, rfl⟩
  rw [hA, hB, hC, hD] at hb1
  have sA : A.heap.size = w.heap.size + 1 := by rw [← hA]; simp
  have sB : B.heap.size = w.heap.size + 2 := by rw [← hB]; simp [sA]
  have sC : C.heap.size = w.heap.size + 3 := by rw [← hC]; simp [sB]
  have sD : D.heap.size = w.heap.size + 4 := by rw [← hD]; simp [sC]
  have a0 : A.heap[w.heap.size]? = some (.cells #[.pointer (some ⟨b, 0, none⟩)] 82 (0, 0)) := by rw [← hA]; exact alloc_new w _
  have b1 : B.heap[w.heap.size + 1]? = some (.cells #[.int .i64 want] 2 (0, 0)) := by rw [← hB, ← sA]; exact alloc_new A _
  have c2 : C.heap[w.heap.size + 2]? = some (.cells #[.slice none 0 0] 100 (0, 0)) := by rw [← hC, ← sB]; exact alloc_new B _
  have d3 : D.heap[w.heap.size + 3]? = some (.cells #[.int .i64 0] 2 (0, 0)) := by rw [← hD, ← sC]; exact alloc_new C _
  have kB : ∀ k, k < A.heap.size → B.heap[k]? = A.heap[k]? := fun k hk => by rw [← hB]; exact Below.heap_alloc _ _ _ hk
  have kC : ∀ k, k < B.heap.size → C.heap[k]? = B.heap[k]? := fun k hk => by rw [← hC]; exact Below.heap_alloc _ _ _ hk
  have kD : ∀ k, k < C.heap.size → D.heap[k]? = C.heap[k]? := fun k hk => by rw [← hD]; exact Below.heap_alloc _ _ _ hk
  have kA : ∀ k, k < w.heap.size → A.heap[k]? = w.heap[k]? := fun k hk => by rw [← hA]; exact Below.heap_alloc _ _ _ hk
  have hBel : Below w.heap.size w D := by
    rw [← hD, ← hC, ← hB, ← hA]
    exact ((((Below.refl _ w).alloc (Nat.le_refl _) _).alloc (by simp) _).alloc (by simp; omega) _).alloc (by simp; omega) _
  have k1 : ∀ k, k < w.heap.size + 4 → w1.heap[k]? = D.heap[k]? := fun k hk => hb1.block k hk
  obtain ⟨E, hE⟩ : ∃ E, w1.setCell ⟨w.heap.size, 0, none⟩ (.pointer (some ⟨w.heap.size + 4, 0, none⟩)) = E := ⟨_, rfl⟩
  rw [hE]
  have sE : E.heap.size = w.heap.size + 5 := by rw [← hE]; simpa using hz
  have kE : ∀ k, k ≠ w.heap.size → E.heap[k]? = w1.heap[k]? := fun k hk => by rw [← hE]; exact Below.heap_setCell _ _ _ _ hk
  have e0 : E.heap[w.heap.size]? = some (.cells #[.pointer (some ⟨w.heap.size + 4, 0, none⟩)] 82 (0, 0)) := by
    rw [← hE]
    exact set_one ((k1 _ (by omega)).trans ((kD _ (by omega)).trans ((kC _ (by omega)).trans ((kB _ (by omega)).trans a0)))) _
  obtain ⟨F, hF⟩ : ∃ F, E.alloc (.cells #[.pointer (some ⟨w.heap.size + 4, 0, none⟩)] 82) = F := ⟨_, rfl⟩
  obtain ⟨X, hX⟩ : ∃ X, F.alloc (.cells #[.int .u8 f] 23) = X := ⟨_, rfl⟩
  obtain ⟨Y, hY⟩ : ∃ Y, X.alloc (.cells #[.int .u8 t] 23) = Y := ⟨_, rfl⟩
  rw [hF, hX, hY]
  have sF : F.heap.size = w.heap.size + 6 := by rw [← hF]; simp [sE]
  have sX : X.heap.size = w.heap.size + 7 := by rw [← hX]; simp [sF]
  have sY : Y.heap.size = w.heap.size + 8 := by rw [← hY]; simp [sX]
  have f5 : F.heap[w.heap.size + 5]? = some (.cells #[.pointer (some ⟨w.heap.size + 4, 0, none⟩)] 82 (0, 0)) := by rw [← hF, ← sE]; exact alloc_new E _
  have x6 : X.heap[w.heap.size + 6]? = some (.cells #[.int .u8 f] 23 (0, 0)) := by rw [← hX, ← sF]; exact alloc_new F _
  have y7 : Y.heap[w.heap.size + 7]? = some (.cells #[.int .u8 t] 23 (0, 0)) := by rw [← hY, ← sX]; exact alloc_new X _
  have kF : ∀ k, k < E.heap.size → F.heap[k]? = E.heap[k]? := fun k hk => by rw [← hF]; exact Below.heap_alloc _ _ _ hk
  have kX : ∀ k, k < F.heap.size → X.heap[k]? = F.heap[k]? := fun k hk => by rw [← hX]; exact Below.heap_alloc _ _ _ hk
  have kY : ∀ k, k < X.heap.size → Y.heap[k]? = X.heap[k]? := fun k hk => by rw [← hY]; exact Below.heap_alloc _ _ _ hk
  have kYE : ∀ k, k < w.heap.size + 5 → Y.heap[k]? = E.heap[k]? := fun k hk => (kY k (by omega)).trans ((kX k (by omega)).trans (kF k (by omega)))
  refine ⟨?_, by omega, (kYE _ (by omega)).trans e0, ?_, ⟨none, 0, ?_, World.ownsRow_nil _ _ _ _⟩, ?_, ?_, (kY _ (by omega)).trans ((kX _ (by omega)).trans f5), (kY _ (by omega)).trans x6, y7⟩
  · rw [← hY, ← hX, ← hF, ← hE]
    have h1 : Below w.heap.size w w1 := hBel.trans ⟨hb1.os, hb1.tape, hb1.output, hb1.size, fun k hk => hb1.block k (by omega)⟩
    exact (((h1.setCell (by simp) _).alloc (by simp; omega) _).alloc (by simp; omega) _).alloc (by simp; omega) _
  · exact (kYE _ (by omega)).trans ((kE _ (by omega)).trans ((k1 _ (by omega)).trans ((kD _ (by omega)).trans ((kC _ (by omega)).trans b1))))
  · exact (kYE _ (by omega)).trans ((kE _ (by omega)).trans ((k1 _ (by omega)).trans ((kD _ (by omega)).trans c2)))
  · exact (kYE _ (by omega)).trans ((kE _ (by omega)).trans ((k1 _ (by omega)).trans d3))
  · exact (kYE _ (by omega)).trans ((kE _ (by omega)).trans hg)
end Go.Proofs.Ytelcdiceongfdaa
