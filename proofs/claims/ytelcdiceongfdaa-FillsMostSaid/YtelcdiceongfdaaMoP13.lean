/-
  flows.ways: the iterator's contract, at any state that the loop's body keeps; the law of the loop over it.
  The walk of flows.least: the least capacity along a way.
  The plain law of the layer flows: a push along a shortest way, what it leaves, and a number that every such push lowers. No program in sight.
  flows.Route: what lies in memory between two rounds; what a route is.
  The walk of flows.Route: a round of its loop over ways.
-/
import Derived.Test.YtelcdiceongfdaaMoP8
import Derived.Test.YtelcdiceongfdaaRound
section
namespace Go.Proofs.Ytelcdiceongfdaa
open Go.RowKit Go.BigFrame
set_option maxRecDepth 100000
attribute [local go_sem] Oper.semAt_some

def SPost (w : World) (l : List Nat) (e : Ending) (w' : World) : Prop := (l = [] ∧ NonePost w e w') ∨ (l ≠ [] ∧ WayPost w l e w')
theorem short_any {w : World} {b : Nat} {G : Caps} (h : GraphAt w b G) (f t : Nat) (hf : f < 256) (ht : t < 256) :
    Calls Try.prog 77 #[.pointer (some ⟨b, 0, none⟩), .int .u8 f, .int .u8 t] w (SPost w (short G f t)) := by
  by_cases h1 : (1 ≤ f ∧ f ≤ 16) ∧ (1 ≤ t ∧ t ≤ 16) ∧ f ≠ t
  · by_cases h2 : dist G t f = 17
    · have e : short G f t = [] := by unfold short; rw [if_pos h1, if_pos h2]
      rw [e]
      exact (short_far h f t h1.1 h1.2.1 h1.2.2 h2).mono fun _ _ hp => .inl ⟨rfl, hp⟩
    · have e : short G f t = wayFrom G t (dist G t f) f := by unfold short; rw [if_pos h1, if_neg h2]
      rw [e]
      refine (short_way h f t h1.1 h1.2.1 h1.2.2 h2).mono fun _ _ hp => .inr ⟨fun h0 => ?_, hp⟩
      have := wayFrom_len G t (dist G t f) f
      rw [h0] at this; simp at this
  · have e : short G f t = [] := by unfold short; rw [if_neg h1]
    rw [e]
    exact (short_bad b f t hf ht h1).mono fun _ _ hp => .inl ⟨rfl, hp⟩

theorem ways_make (b f t : Nat) (w : World) :
    Calls Try.prog 62 #[.pointer (some ⟨b, 0, none⟩), .int .u8 f, .int .u8 t] w fun e w' => e = .returned (.func (.func 76) #[] #[.pointer (some ⟨w.heap.size, 0, none⟩), .pointer (some ⟨w.heap.size + 1, 0, none⟩), .pointer (some ⟨w.heap.size + 2, 0, none⟩)]) ∧ w' = ((w.alloc (.cells #[.pointer (some ⟨b, 0, none⟩)] 82)).alloc (.cells #[.int .u8 f] 23)).alloc (.cells #[.int .u8 t] 23) := by
  go_enter Try.func62, Try.ntmps62
  go_wp2
  go_ret
  exact ⟨rfl, rfl⟩

/-- what the iterator reads between two rounds -/
structure WaysAt (W : World) (bg bf bt gc f t : Nat) (G : Caps) : Prop where
  g : GraphAt W gc G
  cg : W.cell? ⟨bg, 0, none⟩ = some (.pointer (some ⟨gc, 0, none⟩))
  cf : W.cell? ⟨bf, 0, none⟩ = some (.int .u8 f)
  ct : W.cell? ⟨bt, 0, none⟩ = some (.int .u8 t)

/-- block g is younger than what a state says of some earlier world whose cells are as they were -/
def Young {σ : Type} (J : σ → World → Prop) (s : σ) (W : World) (g : Nat) : Prop := ∃ W0, J s W0 ∧ W0.heap.size ≤ g ∧ ∀ (b : Nat) (o : Obj), W0.heap[b]? = some o → o.isCells = true → W.heap[b]? = some o

def WayAt (W : World) (g : Nat) (l : List Nat) : Prop := g < W.heap.size ∧ ∀ (j : Nat) p, l[j]? = some p → W.cell? ⟨g, j, none⟩ = some (.int .u8 p)

set_option maxHeartbeats 1000000 in
theorem ways_in (n l bg bf bt gc f t : Nat) (hf : f < 256) (ht : t < 256) {σ : Type} (gr : σ → Caps) (J : σ → World → Prop) (Jx : World → Prop) (μ : σ → Nat)
    (hJ : ∀ G W, J G W → WaysAt W bg bf bt gc f t (gr G))
    (hJb : ∀ G W W', J G W → Below W.heap.size W W' → J G W')
    (hY : ∀ G W g c, J G W → short (gr G) f t ≠ [] → WayAt W g (short (gr G) f t) → Young J G W g → YieldAt Fence.wide (n - 1) Try.prog l #[.slice (some ⟨g, 0, none⟩) (short (gr G) f t).length c] W fun e W' =>
      (e = .returned (.bool true) ∧ ∃ G', J G' W' ∧ μ G' < μ G) ∨ (e = .returned (.bool false) ∧ Jx W'))
    (G : σ) (W : World) (h0 : J G W) :
    CallsIn Fence.wide n Try.prog 76 #[.func (.yield l) #[] #[], .pointer (some ⟨bg, 0, none⟩), .pointer (some ⟨bf, 0, none⟩), .pointer (some ⟨bt, 0, none⟩)] W fun e W' => (∃ v, e = .returned v) ∧ ((∃ G', J G' W' ∧ short (gr G') f t = []) ∨ Jx W') := by
  refine callsIn_of_wp Try.func76 rfl trivial ?_ rfl
  simp only [Try.ntmps76, List.size_toArray, List.length_cons, List.length_nil, Nat.reduceAdd, Nat.reduceSub, Array.replicate_succ, Array.replicate_zero, List.push_toArray, List.append_toArray, List.nil_append, List.cons_append]
  have HJ := Lib.hid hJ; have HJb := Lib.hid hJb; have HY := Lib.hid hY
  clear hJ hJb hY
  gi_wp2
  gi_loopg [5] (μ G) (fun gg s5 wr => ∃ G, J G wr ∧ μ G ≤ gg)
  case atStart => exact ⟨G, h0, Nat.le_refl _⟩
  case round =>
    obtain ⟨G2, hJ2, hgg⟩ := hrel
    have hw := HJ.out _ _ hJ2
    obtain ⟨hg, cg, cf, ct⟩ := hw
    obtain ⟨L, hL⟩ : ∃ L, short (gr G2) f t = L := ⟨_, rfl⟩
    have HL := Lib.hid hL
    have hs := short_any hg f t hf ht
    rw [hL] at hs
    have HS := Lib.hid hs; clear hs hL
    gi_wp2
    refine wide_call (HS.out.mono ?_)
    clear HS
    rintro e w1 (⟨hl, rfl, hB⟩ | ⟨hl, g, c, rfl, hB, hg1, hg2, hcells⟩)
    · have hJ3 : Aside (J G2 w1) := HJb.out _ _ _ hJ2 hB
      have HL2 : Aside (short (gr G2) f t = []) := HL.out.trans hl
      clear hl HL
      gi_wp2
      refine ⟨fun _ h => (by cases h), ?_⟩
      gi_wp2
      refine bodyPost_ret (results_none rfl _ _ _) rfl ?_
      exact ⟨⟨_, rfl⟩, .inl ⟨G2, hJ3.out, HL2.out⟩⟩
    · have hJ3 : Aside (J G2 w1) := HJb.out _ _ _ hJ2 hB
      have hy0 := HY.out G2 w1 g c hJ3.out (by rw [HL.out]; exact hl) (by rw [HL.out]; exact ⟨hg2, hcells⟩) ⟨wr, hJ2, hg1, fun b o hb _ => (hB.block b (Array.getElem?_eq_some_iff.1 hb).1).trans hb⟩
      rw [HL.out] at hy0
      obtain ⟨fn, tmps, assign, body, hy, hR⟩ := hy0
      have hln : ((L.length : Int) == 0) = false := by
        have := List.length_pos_iff.2 hl
        simp; exact hl
      have HR := Lib.hid hR; clear hR
      have Hl := Lib.hid hl; clear hl hcells
      gi_wp2
      refine ⟨fun h => (by cases h), HR.out.mono ?_⟩
      rintro e W3 (⟨rfl, G3, hJ4, hμ⟩ | ⟨rfl, hJx3⟩)
      · have hJ5 : Aside (J G3 W3) := hJ4
        have hμ2 : Aside (μ G3 < μ G2) := hμ
        clear hJ4 hμ hy
        gi_wp2
        go_roundg (μ G3)
        case measure => have := hμ2.out; omega
        case rel => exact ⟨G3, hJ5.out, Nat.le_refl _⟩
      · have hJ5 : Aside (Jx W3) := hJx3
        clear hJx3 hy
        gi_wp2
        refine bodyPost_ret (results_none rfl _ _ _) rfl ?_
        exact ⟨⟨_, rfl⟩, .inr hJ5.out⟩

/-- how a round of the loop may be left -/
def roundW {σ : Type} (id : Nat) (μ : σ → Nat) (I : σ → World → Prop) (Ix : World → Prop) (s : σ) (W : World) : Exit → Act → World → Prop
  | .normal, _, W' => KeepsOthers W W' ∧ ∃ s', I s' W' ∧ μ s' < μ s
  | .exit k, _, W' => k = id ∧ KeepsOthers W W' ∧ Ix W'
  | _, _, _ => False

set_option maxHeartbeats 1000000 in
/-- the loop over ways, at states that a round carries on -/
theorem wpIn_ways {σ : Type} (gr : σ → Caps) (μ : σ → Nat) (I : σ → World → Prop) (Ix : World → Prop) (id n bg bf bt gc f t : Nat) (hf : f < 256) (ht : t < 256) {g : Operand} {ps : Array Tmp} {assign body : Code} {Q : Exit → Act → World → Prop} {a : Act} {w : World}
    (hg : a.eval g = .func (.func 76) #[] #[.pointer (some ⟨bg, 0, none⟩), .pointer (some ⟨bf, 0, none⟩), .pointer (some ⟨bt, 0, none⟩)]) (hps : ps.size = 1)
    (hIw : ∀ s W, I s W → WaysAt W bg bf bt gc f t (gr s)) (hIb : ∀ s W W', I s W → Below W.heap.size W W' → I s W')
    (hIp : ∀ s W l o', I s W → w.heap.size ≤ l → (∃ o : Obj, W.heap[l]? = some o ∧ o.isCells = false) → I s (W.putObj l o'))
    (hXp : ∀ W l o', Ix W → w.heap.size ≤ l → (∃ o : Obj, W.heap[l]? = some o ∧ o.isCells = false) → Ix (W.putObj l o'))
    (s0 : σ) (h0 : I s0 w) (a₁ : Value → Act)
    (hassign : ∀ (l : Nat) (v : Value) (W : World) (K : Act → World → Prop), K (a₁ v) W →
      assign.wpIn (Fence.wide.inRound l) (n - 1 - 1) Try.prog (Exit.then K (fun _ _ _ => False)) { tmps := (ps.zip #[v]).foldl (fun t (p, v) => t.setIfInBounds p v) a.tmps, defers := [] } W)
    (hbody : ∀ (l : Nat) (s : σ) (k c : Nat) (W : World), I s W → short (gr s) f t ≠ [] → WayAt W k (short (gr s) f t) → Young I s W k → body.wpIn (Fence.wide.inRound l) (n - 1 - 1) Try.prog (roundW id μ I Ix s W) (a₁ (.slice (some ⟨k, 0, none⟩) (short (gr s) f t).length c)) W)
    (hdone : ∀ (D : Nat) (s : σ) (W : World), short (gr s) f t = [] → I s W → w.heap.size ≤ D → W.heap[D]? = some (.deferred (some [])) → Q .normal { a with defers := { target := .collected D, args := #[] } :: a.defers } W)
    (hstop : ∀ (D : Nat) (W : World), Ix W → w.heap.size ≤ D → W.heap[D]? = some (.deferred (some [])) → (Code.exit id).wpIn Fence.wide n Try.prog Q { a with defers := { target := .collected D, args := #[] } :: a.defers } W) :
    (Code.rangeFunc g ps assign body).wpIn Fence.wide n Try.prog Q a w := by
  refine wpIn_rangeFunc ?_
  intro fn hfn
  rw [show Fence.wide.round = none from rfl]
  obtain ⟨rec, hrec⟩ : ∃ rec : LoopState → Option Code → Loop, rec = fun st pe => { state := st, pending := pe, fn, tmps := a.tmps, params := ps, assign, body, defers := w.heap.size } := ⟨_, rfl⟩
  obtain ⟨W1, hW1⟩ : ∃ W1, (w.alloc (.deferred (some []))).alloc (.loop (rec .ready none)) = W1 := ⟨_, rfl⟩
  have hL1 : W1.heap[w.heap.size + 1]? = some (.loop (rec .ready none)) := by
    rw [← hW1]; have := World.alloc_heap_new (w.alloc (.deferred (some []))) (.loop (rec .ready none)); rwa [World.size_alloc] at this
  have hK1 : W1.heap[w.heap.size]? = some (.deferred (some [])) := by
    rw [← hW1]; exact (Below.heap_alloc _ _ _ (by simp)).trans (World.alloc_heap_new w _)
  have hI1 : I s0 W1 := by rw [← hW1]; exact hIb _ _ _ h0 (((Below.refl _ w).alloc (Nat.le_refl _) _).alloc (by simp) _)
  refine ⟨w.heap.size + 1, [{ target := .collected w.heap.size, args := #[] }], W1, { target := .fn (.func 76) #[.pointer (some ⟨bg, 0, none⟩), .pointer (some ⟨bf, 0, none⟩), .pointer (some ⟨bt, 0, none⟩)], args := #[.func (.yield (w.heap.size + 1)) #[] #[]] }, W1, 76,
    #[.func (.yield (w.heap.size + 1)) #[] #[], .pointer (some ⟨bg, 0, none⟩), .pointer (some ⟨bf, 0, none⟩), .pointer (some ⟨bt, 0, none⟩)], W1, ?_, ?_, ?_, ?_, fun h => (by cases h), ?_⟩
  · rw [← hW1, hrec]; exact run_enterLoop_outer _ _ _ _ _
  · simp only [resolve, hg]
    simp [go_sem]
  · intro f' hf'; trivial
  · have eg : ∀ args w, (callFunc 76 args).run Try.prog w = .ok (.enter 76 args) w := enters_of Try.func76 (by kernel_rfl) rfl
    simp [invoke, go_sem, eg]
  · refine (ways_in (n - 1) (w.heap.size + 1) bg bf bt gc f t hf ht gr
      (fun s W => I s W ∧ W.heap[w.heap.size + 1]? = some (.loop (rec .ready none)) ∧ W.heap[w.heap.size]? = some (.deferred (some [])))
      (fun W => Ix W ∧ W.heap[w.heap.size + 1]? = some (.loop (rec .done (some (.exit id)))) ∧ W.heap[w.heap.size]? = some (.deferred (some []))) μ
      (fun s W h => hIw s W h.1)
      (fun s W W' h hb => ⟨hIb s W W' h.1 hb, (hb.block _ (Array.getElem?_eq_some_iff.1 h.2.1).1).trans h.2.1, (hb.block _ (Array.getElem?_eq_some_iff.1 h.2.2).1).trans h.2.2⟩)
      ?_ s0 W1 ⟨hI1, hL1, hK1⟩).mono ?_
    · rintro s W k c ⟨hi, hl, hk⟩ hne hway ⟨W0, hJ0, hy1, hy2⟩
      have hlt : w.heap.size + 1 < W.heap.size := (Array.getElem?_eq_some_iff.1 hl).1
      have hy := run_yield (P := Try.prog) (args := #[.slice (some ⟨k, 0, none⟩) (short (gr s) f t).length c]) hl (by rw [hrec]; simp [hps])
      rw [hrec] at hy
      refine ⟨fn, _, assign, body, hy, roundIn_of_wpIn hfn (hassign _ _ W _ ⟨_, run_beginRound hl (by rw [hrec]), ?_⟩)⟩
      have hl2 : (W.putObj (w.heap.size + 1) (.loop { rec .ready none with state := .busy })).heap[w.heap.size + 1]? = some (.loop { rec .ready none with state := .busy }) := World.putObj_heap_same hlt
      have hk2 : (W.putObj (w.heap.size + 1) (.loop { rec .ready none with state := .busy })).heap[w.heap.size]? = some (.deferred (some [])) := (World.putObj_heap_other (by omega)).trans hk
      have hi2 := hIp s W (w.heap.size + 1) (.loop { rec .ready none with state := .busy }) hi (by omega) ⟨_, hl, rfl⟩
      have hway2 : WayAt (W.putObj (w.heap.size + 1) (.loop { rec .ready none with state := .busy })) k (short (gr s) f t) := by
        refine ⟨by simpa using hway.1, fun j p hp => ?_⟩
        have hc := hway.2 j p hp
        have hkl : k ≠ w.heap.size + 1 := by
          rintro rfl
          simp [World.cell?, hl] at hc
        exact (World.cell?_of_block (w := W) (a := ⟨k, j, none⟩) (World.putObj_heap_other hkl)).trans hc
      refine wpIn_mono (hbody _ s k c _ hi2 hne hway2 ⟨W0, hJ0.1, hy1, fun b o hb ho => (World.putObj_heap_other (by rintro rfl; have := hy2 _ _ hb ho; rw [hl] at this; cases this; simp [Obj.isCells] at ho)).trans (hy2 b o hb ho)⟩) ?_
      have fin : ∀ (jump : Option Code) (W3 : World), KeepsOthers (W.putObj (w.heap.size + 1) (.loop { rec .ready none with state := .busy })) W3 →
          (Instr.endRound (w.heap.size + 1) jump).run Try.prog W3 = .ok (.bool jump.isNone) (W3.putObj (w.heap.size + 1) (.loop (rec (if jump.isNone then .ready else .done) jump))) ∧
          W3.heap[w.heap.size + 1]? = some (.loop { rec .ready none with state := .busy }) ∧
          (W3.putObj (w.heap.size + 1) (.loop (rec (if jump.isNone then .ready else .done) jump))).heap[w.heap.size + 1]? = some (.loop (rec (if jump.isNone then .ready else .done) jump)) ∧
          (W3.putObj (w.heap.size + 1) (.loop (rec (if jump.isNone then .ready else .done) jump))).heap[w.heap.size]? = some (.deferred (some [])) := fun jump W3 hk3 => by
        have hl3 := hk3.same _ _ hl2 rfl
        have := run_endRound (P := Try.prog) jump hl3
        rw [hrec] at this ⊢
        exact ⟨this, by rw [hrec] at hl3; exact hl3, World.putObj_heap_same (Array.getElem?_eq_some_iff.1 hl3).1, (World.putObj_heap_other (by omega)).trans (hk3.same _ _ hk2 rfl)⟩
      rintro e a3 W3 hp
      cases e with
      | normal =>
        obtain ⟨hk3, s', hi3, hμ⟩ := hp
        obtain ⟨hr, hl3, hl4, hk4⟩ := fin none W3 hk3
        exact ⟨_, _, hr, .inl ⟨rfl, s', ⟨hIp s' W3 _ _ hi3 (by omega) ⟨_, hl3, rfl⟩, hl4, hk4⟩, hμ⟩⟩
      | exit k =>
        obtain ⟨rfl, hk3, hi3⟩ := hp
        obtain ⟨hr, hl3, hl4, hk4⟩ := fin (some (.exit k)) W3 hk3
        exact ⟨_, _, hr, .inr ⟨rfl, hXp W3 _ _ hi3 (by omega) ⟨_, hl3, rfl⟩, hl4, hk4⟩⟩
      | ret => exact hp.elim
      | goto t => exact hp.elim
      | panic ch => exact hp.elim
      | outgrown => exact hp.elim
    · rintro e W2 ⟨⟨v, rfl⟩, (⟨s, ⟨hi, hl, hk⟩, hnil⟩ | ⟨hi, hl, hk⟩)⟩
      · exact ⟨none, _, by have := run_endLoop (P := Try.prog) hl (by rw [hrec]; simp); rw [hrec] at this; exact this, hdone _ s _ hnil (hIp s W2 _ _ hi (by omega) ⟨_, hl, rfl⟩) (Nat.le_refl _) ((World.putObj_heap_other (by omega)).trans hk)⟩
      · exact ⟨some (.exit id), _, by have := run_endLoop (P := Try.prog) hl (by rw [hrec]; simp); rw [hrec] at this; exact this, hstop _ _ (hXp W2 _ _ hi (by omega) ⟨_, hl, rfl⟩) (Nat.le_refl _) ((World.putObj_heap_other (by omega)).trans hk)⟩
end Go.Proofs.Ytelcdiceongfdaa
end
section
namespace Go.Proofs.Ytelcdiceongfdaa
open Go.RowKit Go.BigFrame
set_option maxRecDepth 100000

def leastTo (G : Caps) (l : List Nat) (want : Int) : Nat → Int
  | 0 => want
  | i + 1 => min (leastTo G l want i) (capOf G (l.getD i 0) (l.getD (i + 1) 0))
def LeastPost (w : World) (n : Int) (e : Ending) (w' : World) : Prop := e = .returned (.int .i64 n) ∧ Below w.heap.size w w'

set_option maxHeartbeats 400000 in
theorem least_any {w : World} {b g c : Nat} {G : Caps} {l : List Nat} (h : GraphAt w b G) (hw : WayAt w g l) (hl : 1 ≤ l.length) (hl2 : l.length ≤ 100) (hp : ∀ p ∈ l, p ≤ 16) (want : Int) :
    Calls Try.prog 63 #[.pointer (some ⟨b, 0, none⟩), .slice (some ⟨g, 0, none⟩) l.length c, .int .i64 want] w (LeastPost w (leastTo G l want (l.length - 1))) := by
  obtain ⟨hg, hcells⟩ := hw
  have hb := h.lt
  obtain ⟨n, hn⟩ : ∃ n, l.length = n + 1 := ⟨l.length - 1, by omega⟩
  rw [hn, Nat.add_sub_cancel]
  have HN := Lib.hid hn
  have hn2 : n ≤ 100 := by omega
  have HC := Lib.hid hcells; have HP := Lib.hid hp
  clear hn hcells hp hl hl2
  go_enter Try.func63, Try.ntmps63
  go_wp2
  go_loopg [2, 7, 11] n (fun gg s2 s7 s11 wr => ∃ i : Nat, i ≤ n ∧ n - i ≤ gg ∧ s11 = .int .i64 i ∧ s2 = .int .i64 (leastTo G l want i) ∧ Aside (Below w.heap.size w wr))
  case atStart => exact ⟨0, by omega, by omega, rfl, rfl, Below.refl _ w⟩
  case round =>
    obtain ⟨i, hi, hgg, rfl, rfl, BW⟩ := hrel
    by_cases hlt : i < n
    · have hltz : (i : Int) < (n : Int) := by omega
      have hltz2 : (i : Int) < (n : Int) + 1 := by omega
      have hltz3 : (i : Int) + 1 < (n : Int) + 1 := by omega
      have HL : Aside (leastTo G l want (i + 1) = min (leastTo G l want i) (capOf G (l.getD i 0) (l.getD (i + 1) 0))) := rfl
      have hx : l[i]? = some (l.getD i 0) := by
        have := HN.out
        rw [List.getD_eq_getElem?_getD, List.getElem?_eq_getElem (by omega)]; rfl
      have hy : l[i + 1]? = some (l.getD (i + 1) 0) := by
        have := HN.out
        rw [List.getD_eq_getElem?_getD, List.getElem?_eq_getElem (by omega)]; rfl
      obtain ⟨x, hx0⟩ : ∃ x, l.getD i 0 = x := ⟨_, rfl⟩
      obtain ⟨y, hy0⟩ : ∃ y, l.getD (i + 1) 0 = y := ⟨_, rfl⟩
      rw [hx0] at hx
      rw [hy0] at hy
      have HLX : Aside (leastTo G l want (i + 1) = min (leastTo G l want i) (capOf G x y)) := (show _ = _ by rw [HL.out, hx0, hy0])
      have hx16 := HP.out x (List.mem_of_getElem? hx)
      have hy16 := HP.out y (List.mem_of_getElem? hy)
      have hcx : wr.cell? ⟨g, i, none⟩ = some (.int .u8 x) := (BW.out.cell (p := ⟨g, i, none⟩) hg).trans (HC.out i x hx)
      have hcy : wr.cell? ⟨g, i + 1, none⟩ = some (.int .u8 y) := (BW.out.cell (p := ⟨g, i + 1, none⟩) hg).trans (HC.out (i + 1) y hy)
      have hGr := h.below BW.out
      have hgr : g < wr.heap.size := Nat.lt_of_lt_of_le hg BW.out.size
      clear hx0 hy0 hx hy HL
      obtain ⟨m, hm⟩ : ∃ m, leastTo G l want i = m := ⟨_, rfl⟩
      rw [hm]
      have HM := Lib.hid hm; clear hm
      go_wp2
      refine wp_region_later (by kernel_rfl) (by kernel_rfl) ?_; (repeat (go_big_quiet_step ((go_at_call 78; exact Calls.later_same (cap_any (hGr.below (Later.b _)) x y (by omega) (by omega)))))); refine wpQuiet_nil ?_; rintro _ ⟨W, rfl⟩
      have hWb := W.b
      go_wp2
      all_goals
        go_roundg (n - (i + 1))
        case measure => omega
        case rel =>
          refine ⟨i + 1, by omega, by omega, by go_num, ?_, BW.out.trans (hWb.mono BW.out.size)⟩
          rw [HLX.out, HM.out]
          first | rw [Int.min_eq_left (by assumption)] | rw [Int.min_eq_right (by omega)]
    · have hltz : ¬ (i : Int) < (n : Int) := by omega
      obtain rfl : i = n := by omega
      go_wp2
      go_ret
      exact ⟨rfl, BW.out⟩
end Go.Proofs.Ytelcdiceongfdaa
end
section
namespace Go.Proofs.Ytelcdiceongfdaa

structure Flow where
  f : Nat
  t : Nat
  n : Int
deriving Inhabited, DecidableEq

/-- pushes along the first k edges of a way -/
def pushTo (G : Caps) (l : List Nat) (n : Int) : Nat → Caps
  | 0 => G
  | k + 1 => (gpush (pushTo G l n k) (l.getD k 0) (l.getD (k + 1) 0) n).2
def flowsTo (l : List Nat) (n : Int) (k : Nat) : List Flow := (List.range k).map fun i => ⟨l.getD i 0, l.getD (i + 1) 0, n⟩
theorem flowsTo_succ (l : List Nat) (n : Int) (k : Nat) : flowsTo l n (k + 1) = flowsTo l n k ++ [⟨l.getD k 0, l.getD (k + 1) 0, n⟩] := by
  simp [flowsTo, List.range_succ]
theorem flowsTo_len (l : List Nat) (n : Int) (k : Nat) : (flowsTo l n k).length = k := by simp [flowsTo]

/-- what a shortest way is: hop by hop nearer -/
structure IsWay (G : Caps) (t : Nat) (l : List Nat) : Prop where
  edge : ∀ i, i + 1 < l.length → adj G (l.getD i 0) (l.getD (i + 1) 0) = true ∧ dist G t (l.getD i 0) = dist G t (l.getD (i + 1) 0) + 1
  near : ∀ p ∈ l, 1 ≤ p ∧ p ≤ 16
  len : 2 ≤ l.length
  len2 : l.length ≤ 16

theorem getD_cons_succ (x : Nat) (l : List Nat) (i : Nat) : (x :: l).getD (i + 1) 0 = l.getD i 0 := by simp
theorem wayFrom_edges {G : Caps} {t : Nat} : ∀ (d c : Nat), dist G t c = d → d < 16 → ∀ i, i < d → adj G ((wayFrom G t d c).getD i 0) ((wayFrom G t d c).getD (i + 1) 0) = true ∧ dist G t ((wayFrom G t d c).getD i 0) = dist G t ((wayFrom G t d c).getD (i + 1) 0) + 1
  | 0, _, _, _, i, hi => absurd hi (Nat.not_lt_zero _)
  | d + 1, c, hc, hd, i, hi => by
    have hn := next_spec (G := G) (to := t) (c := c) (d := d) hc (by omega)
    have h0 : (wayFrom G t d (next G t c)).getD 0 0 = next G t c := by cases d <;> rfl
    cases i with
    | zero =>
      show adj G c ((wayFrom G t d (next G t c)).getD 0 0) = true ∧ dist G t c = dist G t ((wayFrom G t d (next G t c)).getD 0 0) + 1
      rw [h0]
      exact ⟨hn.2.1, by omega⟩
    | succ i =>
      have := wayFrom_edges d (next G t c) hn.1 (by omega) i (by omega)
      simpa [wayFrom] using this
theorem wayFrom_near {G : Caps} {t : Nat} : ∀ (d c : Nat), dist G t c = d → d < 16 → 1 ≤ c ∧ c ≤ 16 → ∀ p ∈ wayFrom G t d c, 1 ≤ p ∧ p ≤ 16
  | 0, c, _, _, hc, p, hp => by obtain rfl := List.mem_singleton.1 hp; exact hc
  | d + 1, c, h, hd, hc, p, hp => by
    have hn := next_spec (G := G) (to := t) (c := c) (d := d) h (by omega)
    rcases List.mem_cons.1 hp with rfl | hp
    · exact hc
    · exact wayFrom_near d _ hn.1 (by omega) hn.2.2.1 p hp
theorem short_isWay {G : Caps} {f t : Nat} (h : short G f t ≠ []) : IsWay G t (short G f t) ∧ (1 ≤ f ∧ f ≤ 16) ∧ (1 ≤ t ∧ t ≤ 16) ∧ f ≠ t ∧ dist G t f ≠ 17 ∧ short G f t = wayFrom G t (dist G t f) f := by
  unfold short at h ⊢
  by_cases h1 : (1 ≤ f ∧ f ≤ 16) ∧ (1 ≤ t ∧ t ≤ 16) ∧ f ≠ t
  · rw [if_pos h1] at h ⊢
    by_cases h2 : dist G t f = 17
    · rw [if_pos h2] at h; exact absurd rfl h
    · rw [if_neg h2]
      have hlt := (isDist_dist h2).lt h1.1
      have hd0 : dist G t f ≠ 0 := fun h0 => h1.2.2 (dist_zero.1 h0)
      refine ⟨⟨fun i hi => ?_, fun p hp => wayFrom_near _ _ rfl hlt h1.1 p hp, ?_, ?_⟩, h1.1, h1.2.1, h1.2.2, h2, rfl⟩
      · rw [wayFrom_len] at hi
        exact wayFrom_edges _ _ rfl hlt i (by omega)
      · rw [wayFrom_len]; omega
      · rw [wayFrom_len]; omega
  · rw [if_neg h1] at h; exact absurd rfl h

/-- capacities that may be -/
def GB (G : Caps) : Prop := ∀ x y, 0 ≤ G x y ∧ G x y + G y x ≤ 2305843009213693952
theorem gpush_GB {G : Caps} (h : GB G) (x y : Nat) (n : Int) : GB (gpush G x y n).2 := by
  unfold gpush
  split; · exact h
  split; · exact h
  rename_i h1 h2
  have hc : n ≤ G x y := by
    unfold capOf at h2
    split at h2 <;> omega
  intro p q
  have a1 := h p q
  have a2 := h x y
  show 0 ≤ pushG G x y n p q ∧ pushG G x y n p q + pushG G x y n q p ≤ _
  unfold pushG setG
  by_cases e1 : p = x ∧ q = y
  · obtain ⟨rfl, rfl⟩ := e1
    by_cases e2 : p = q
    · subst e2; simp; omega
    · have : ¬ (q = p) := fun h => e2 h.symm
      simp [e2, this]; omega
  · by_cases e2 : p = y ∧ q = x
    · obtain ⟨rfl, rfl⟩ := e2
      by_cases e3 : p = q
      · subst e3; exact absurd ⟨rfl, rfl⟩ e1
      · have : ¬ (q = p) := fun h => e3 h.symm
        simp [e3, this]; omega
    · have e3 : ¬ (q = x ∧ p = y) := fun h => e2 ⟨h.2, h.1⟩
      have e4 : ¬ (q = y ∧ p = x) := fun h => e1 ⟨h.2, h.1⟩
      simp [e1, e2, e3, e4]
      exact a1
theorem pushTo_GB {G : Caps} (h : GB G) (l : List Nat) (n : Int) : ∀ k, GB (pushTo G l n k)
  | 0 => h
  | k + 1 => gpush_GB (pushTo_GB h l n k) _ _ _

theorem leastTo_le (G : Caps) (l : List Nat) (want : Int) : ∀ k, leastTo G l want k ≤ want ∧ ∀ i, i < k → leastTo G l want k ≤ capOf G (l.getD i 0) (l.getD (i + 1) 0)
  | 0 => ⟨Int.le_refl _, fun i hi => absurd hi (Nat.not_lt_zero _)⟩
  | k + 1 => by
    obtain ⟨h1, h2⟩ := leastTo_le G l want k
    refine ⟨by unfold leastTo; omega, fun i hi => ?_⟩
    by_cases e : i = k
    · subst e; unfold leastTo; omega
    · have := h2 i (by omega); unfold leastTo; omega
theorem leastTo_pos {G : Caps} {l : List Nat} {want : Int} (hw : 1 ≤ want) : ∀ k, (∀ i, i < k → 0 < capOf G (l.getD i 0) (l.getD (i + 1) 0)) → 1 ≤ leastTo G l want k
  | 0, _ => hw
  | k + 1, h => by
    have h1 := leastTo_pos hw k fun i hi => h i (by omega)
    have h2 := h k (by omega)
    unfold leastTo; omega
/-- it is what was wanted, or some capacity -/
theorem leastTo_eq (G : Caps) (l : List Nat) (want : Int) : ∀ k, leastTo G l want k = want ∨ ∃ i, i < k ∧ leastTo G l want k = capOf G (l.getD i 0) (l.getD (i + 1) 0)
  | 0 => .inl rfl
  | k + 1 => by
    unfold leastTo
    by_cases h : leastTo G l want k ≤ capOf G (l.getD k 0) (l.getD (k + 1) 0)
    · rw [Int.min_eq_left h]
      rcases leastTo_eq G l want k with h1 | ⟨i, hi, h1⟩
      · exact .inl h1
      · exact .inr ⟨i, by omega, h1⟩
    · rw [Int.min_eq_right (by omega)]
      exact .inr ⟨k, by omega, rfl⟩

/-! ### what pushes along a way leave -/
theorem adj_cap {G : Caps} {x y : Nat} (h : adj G x y = true) : capOf G x y = G x y ∧ 0 < G x y := by
  have h1 := adj_range h
  have h2 : 0 < capOf G x y := of_decide_eq_true h
  unfold capOf at h2 ⊢
  rw [if_pos h1] at h2 ⊢
  exact ⟨rfl, h2⟩
theorem capOf_in {G : Caps} {x y : Nat} (h : (1 ≤ x ∧ x ≤ 16) ∧ (1 ≤ y ∧ y ≤ 16)) : capOf G x y = G x y := if_pos h
/-- is it one of the first k edges? -/
def onWay (l : List Nat) (k x y : Nat) : Prop := ∃ i, i < k ∧ x = l.getD i 0 ∧ y = l.getD (i + 1) 0
theorem IsWay.apart {G : Caps} {t : Nat} {l : List Nat} (h : IsWay G t l) : ∀ (j i : Nat), i < j → j < l.length → dist G t (l.getD j 0) < dist G t (l.getD i 0) := by
  intro j
  induction j with
  | zero => intro i hi; omega
  | succ j ih =>
    intro i hi hj
    have h1 := (h.edge j hj).2
    by_cases e : i = j
    · subst e; omega
    · have := ih i (by omega) (by omega); omega
theorem IsWay.inj {G : Caps} {t : Nat} {l : List Nat} (h : IsWay G t l) {i j : Nat} (hi : i < l.length) (hj : j < l.length) (e : l.getD i 0 = l.getD j 0) : i = j := by
  rcases Nat.lt_trichotomy i j with hl | hl | hl
  · have := h.apart j i hl hj; rw [e] at this; omega
  · exact hl
  · have := h.apart i j hl hi; rw [e] at this; omega
open Classical in
theorem pushTo_eq {G : Caps} {t : Nat} {l : List Nat} (h : IsWay G t l) {n : Int} (hn : 1 ≤ n) (hc : ∀ i, i + 1 < l.length → n ≤ capOf G (l.getD i 0) (l.getD (i + 1) 0)) : ∀ k, k + 1 ≤ l.length →
    ∀ x y, pushTo G l n k x y = if onWay l k x y then G x y - n else if onWay l k y x then G x y + n else G x y
  | 0, _, x, y => by
    have h0 : ∀ x y, ¬ onWay l 0 x y := fun x y ⟨i, hi, _⟩ => absurd hi (Nat.not_lt_zero _)
    rw [if_neg (h0 x y), if_neg (h0 y x)]; rfl
  | k + 1, hk, x, y => by
    have ih := pushTo_eq h hn hc k (by omega)
    obtain ⟨a, ha⟩ : ∃ a, l.getD k 0 = a := ⟨_, rfl⟩
    obtain ⟨b, hb⟩ : ∃ b, l.getD (k + 1) 0 = b := ⟨_, rfl⟩
    have he := h.edge k (by omega)
    have hck := hc k (by omega)
    rw [ha, hb] at he hck
    have hr := adj_range he.1
    have hne : a ≠ b := by rintro rfl; omega
    have n1 : ¬ onWay l k a b := fun ⟨i, hi, h1, h2⟩ => by
      have := h.inj (i := i) (j := k) (by omega) (by omega) (by rw [← h1, ha]); omega
    have n2 : ¬ onWay l k b a := fun ⟨i, hi, h1, h2⟩ => by
      have := h.inj (i := i) (j := k + 1) (by omega) (by omega) (by rw [← h1, hb]); omega
    have eab : pushTo G l n k a b = G a b := by rw [ih a b, if_neg n1, if_neg n2]
    have eba : pushTo G l n k b a = G b a := by rw [ih b a, if_neg n2, if_neg n1]
    have hcap : capOf (pushTo G l n k) a b = G a b := by rw [capOf_in hr, eab]
    have hGab : n ≤ G a b := by rw [capOf_in hr] at hck; exact hck
    have hstep : pushTo G l n (k + 1) = pushG (pushTo G l n k) a b n := by
      show (gpush (pushTo G l n k) (l.getD k 0) (l.getD (k + 1) 0) n).2 = _
      rw [ha, hb]
      unfold gpush
      rw [if_neg (by omega), if_neg (by rw [hcap]; omega)]
    have hon : ∀ x y, onWay l (k + 1) x y ↔ onWay l k x y ∨ (x = a ∧ y = b) := fun x y => by
      constructor
      · rintro ⟨i, hi, h1, h2⟩
        by_cases e : i = k
        · subst e; exact .inr ⟨by rw [h1, ha], by rw [h2, hb]⟩
        · exact .inl ⟨i, by omega, h1, h2⟩
      · rintro (⟨i, hi, h1, h2⟩ | ⟨h1, h2⟩)
        · exact ⟨i, by omega, h1, h2⟩
        · exact ⟨k, by omega, by rw [h1, ha], by rw [h2, hb]⟩
    rw [hstep]
    unfold pushG setG
    by_cases e1 : x = b ∧ y = a
    · obtain ⟨rfl, rfl⟩ := e1
      have m1 : ¬ onWay l (k + 1) x y := fun hm => by
        rcases (hon _ _).1 hm with hm | ⟨hm, _⟩
        · exact n2 hm
        · exact hne hm.symm
      rw [if_pos ⟨rfl, rfl⟩, if_neg (fun hh => hne hh.2), eba, if_neg m1, if_pos ((hon _ _).2 (.inr ⟨rfl, rfl⟩))]
    · rw [if_neg e1]
      by_cases e2 : x = a ∧ y = b
      · obtain ⟨rfl, rfl⟩ := e2
        rw [if_pos ⟨rfl, rfl⟩, eab, if_pos ((hon _ _).2 (.inr ⟨rfl, rfl⟩))]
      · rw [if_neg e2, ih x y]
        have q1 : onWay l (k + 1) x y ↔ onWay l k x y := by rw [hon]; exact ⟨fun hh => hh.resolve_right e2, .inl⟩
        have q2 : onWay l (k + 1) y x ↔ onWay l k y x := by rw [hon]; exact ⟨fun hh => hh.resolve_right (fun hh => e1 ⟨hh.2, hh.1⟩), .inl⟩
        simp only [q1, q2]

/-! ### a number that every push along a shortest way lowers -/
def tight (G : Caps) (t x y : Nat) : Bool := adj G x y && decide (dist G t x = dist G t y + 1)
def farSum (G : Caps) (t : Nat) : Nat := ((List.range 17).map fun x => 17 - dist G t x).sum
def tights (G : Caps) (t : Nat) : Nat := (List.range 289).countP fun i => tight G t (i / 17) (i % 17)
def phi (G : Caps) (t : Nat) : Nat := 300 * farSum G t + tights G t
theorem tights_le (G : Caps) (t : Nat) : tights G t ≤ 289 := by
  have := List.countP_le_length (p := fun i => tight G t (i / 17) (i % 17)) (l := List.range 289)
  simpa [tights] using this
theorem sum_mono : ∀ (l : List Nat) (p q : Nat → Nat), (∀ x ∈ l, p x ≤ q x) → (l.map p).sum ≤ (l.map q).sum ∧ ((l.map p).sum = (l.map q).sum → ∀ x ∈ l, p x = q x)
  | [], _, _, _ => ⟨Nat.le_refl _, fun _ x hx => by cases hx⟩
  | a :: l, p, q, h => by
    have ih := sum_mono l p q fun x hx => h x (List.mem_cons_of_mem _ hx)
    have h0 := h a List.mem_cons_self
    simp only [List.map_cons, List.sum_cons]
    refine ⟨by omega, fun e x hx => ?_⟩
    rcases List.mem_cons.1 hx with rfl | hx
    · omega
    · exact ih.2 (by omega) x hx
theorem farSum_le (G : Caps) (t : Nat) : farSum G t ≤ 289 := by
  have := (sum_mono (List.range 17) (fun x => 17 - dist G t x) (fun _ => 17) fun x _ => by omega).1
  have e : ((List.range 17).map fun _ => 17).sum = 289 := by decide
  unfold farSum; omega
theorem phi_le (G : Caps) (t : Nat) : phi G t ≤ 87000 := by
  have h1 := farSum_le G t
  have h2 := tights_le G t
  unfold phi; omega
theorem countP_lt_of {l : List Nat} {p q : Nat → Bool} (h : ∀ x ∈ l, p x = true → q x = true) {x : Nat} (hx : x ∈ l) (hp : p x = false) (hq : q x = true) : l.countP p < l.countP q := by
  induction l with
  | nil => cases hx
  | cons a l ih =>
    have hmono : l.countP p ≤ l.countP q := List.countP_mono_left fun y hy => h y (List.mem_cons_of_mem _ hy)
    rw [List.countP_cons, List.countP_cons]
    rcases List.mem_cons.1 hx with rfl | hx
    · simp [hp, hq]; omega
    · have := ih (fun y hy => h y (List.mem_cons_of_mem _ hy)) hx
      have ha := h a List.mem_cons_self
      by_cases hpa : p a = true
      · simp [hpa, ha hpa]; exact this
      · simp [hpa]; split <;> omega

theorem dist_lower {G G' : Caps} {t : Nat} (h : ∀ x y, adj G' x y = true → adj G x y = true ∨ dist G t x + 1 = dist G t y) : ∀ (k x : Nat), reach G' t k x = true → dist G t x ≤ k
  | 0, x, hr => by
    obtain rfl : x = t := by simpa [reach] using hr
    rw [dist_zero.2 rfl]; omega
  | k + 1, x, hr => by
    rcases reach_succ.1 hr with hr | ⟨q, hq, hr⟩
    · have := dist_lower h k x hr; omega
    · have h1 := dist_lower h k q hr
      rcases h x q hq with h2 | h2
      · by_cases hk : k < 17
        · by_cases h17 : dist G t q = 17
          · omega
          · have hD := isDist_dist h17
            obtain ⟨e, he, hE⟩ := isDist_of_reach (G := G) (to := t) (p := x) (dist G t q + 1) (reach_succ.2 (.inr ⟨q, h2, hD.1⟩))
            have := hE.lt (adj_range h2).1
            rw [dist_of hE (by omega)]; omega
        · have := dist_le G t x; omega
      · omega
theorem dist_mono {G G' : Caps} {t : Nat} (h : ∀ x y, adj G' x y = true → adj G x y = true ∨ dist G t x + 1 = dist G t y) (x : Nat) : dist G t x ≤ dist G' t x := by
  by_cases h17 : dist G' t x = 17
  · rw [h17]; exact dist_le G t x
  · exact dist_lower h _ x (isDist_dist h17).1

open Classical in
theorem phi_lt {G : Caps} {t : Nat} {l : List Nat} (h : IsWay G t l) {want n : Int} (hw : 1 ≤ want) (hn : n = leastTo G l want (l.length - 1)) (hne : n ≠ want) : phi (pushTo G l n (l.length - 1)) t < phi G t := by
  have hpos : ∀ i, i < l.length - 1 → 0 < capOf G (l.getD i 0) (l.getD (i + 1) 0) := fun i hi => of_decide_eq_true (h.edge i (by omega)).1
  have hn1 : 1 ≤ n := by rw [hn]; exact leastTo_pos hw _ hpos
  have hle := leastTo_le G l want (l.length - 1)
  rw [← hn] at hle
  have heq := pushTo_eq h hn1 (fun i hi => hle.2 i (by omega)) (l.length - 1) (by have := h.len; omega)
  obtain ⟨G', hG'⟩ : ∃ G', pushTo G l n (l.length - 1) = G' := ⟨_, rfl⟩
  rw [hG'] at heq ⊢
  have hnew : ∀ x y, adj G' x y = true → adj G x y = true ∨ dist G t x + 1 = dist G t y := fun x y ha => by
    have hr := adj_range ha
    have hc := (adj_cap ha).2
    rw [heq x y] at hc
    by_cases o1 : onWay l (l.length - 1) x y
    · obtain ⟨i, hi, rfl, rfl⟩ := o1
      exact .inl (h.edge i (by omega)).1
    · rw [if_neg o1] at hc
      by_cases o2 : onWay l (l.length - 1) y x
      · obtain ⟨i, hi, rfl, rfl⟩ := o2
        have := (h.edge i (by omega)).2
        right; omega
      · rw [if_neg o2] at hc
        left
        exact decide_eq_true (by rw [capOf_in hr]; exact hc)
  have hd := dist_mono hnew
  have hs := sum_mono (List.range 17) (fun x => 17 - dist G' t x) (fun x => 17 - dist G t x) fun x _ => by have := hd x; omega
  have h1 := tights_le G' t
  have h2 := tights_le G t
  by_cases he : farSum G' t = farSum G t
  · have hx : ∀ x, x < 17 → dist G' t x = dist G t x := fun x hx => by
      have := hs.2 he x (List.mem_range.2 hx)
      have a1 := dist_le G t x
      have a2 := dist_le G' t x
      omega
    obtain ⟨i, hi, hsat⟩ : ∃ i, i < l.length - 1 ∧ n = capOf G (l.getD i 0) (l.getD (i + 1) 0) := by
      rcases leastTo_eq G l want (l.length - 1) with e | ⟨i, hi, e⟩
      · exact absurd (hn.trans e) hne
      · exact ⟨i, hi, hn.trans e⟩
    obtain ⟨a, ha⟩ : ∃ a, l.getD i 0 = a := ⟨_, rfl⟩
    obtain ⟨b, hb⟩ : ∃ b, l.getD (i + 1) 0 = b := ⟨_, rfl⟩
    have hE := h.edge i (by omega)
    rw [ha, hb] at hE hsat
    have hr := adj_range hE.1
    have hon : onWay l (l.length - 1) a b := ⟨i, hi, ha.symm, hb.symm⟩
    have hz : G' a b = 0 := by rw [heq a b, if_pos hon, hsat, capOf_in hr]; omega
    have : tights G' t < tights G t := by
      refine countP_lt_of (x := a * 17 + b) (fun j hj hp => ?_) (List.mem_range.2 (by omega)) ?_ ?_
      · simp only [tight, Bool.and_eq_true, decide_eq_true_eq] at hp ⊢
        have hrr := adj_range hp.1
        have d1 := hx (j / 17) (by omega)
        have d2 := hx (j % 17) (by omega)
        rcases hnew _ _ hp.1 with h3 | h3
        · exact ⟨h3, by omega⟩
        · omega
      · rw [show (a * 17 + b) / 17 = a by omega, show (a * 17 + b) % 17 = b by omega]
        simp [tight, adj, capOf_in hr, hz]
      · rw [show (a * 17 + b) / 17 = a by omega, show (a * 17 + b) % 17 = b by omega]
        simp [tight, hE.1, hE.2]
    unfold phi; omega
  · have := hs.1
    have h3 : farSum G' t < farSum G t := by
      have : farSum G' t ≤ farSum G t := hs.1
      omega
    unfold phi; omega
end Go.Proofs.Ytelcdiceongfdaa
end
section
namespace Go.Proofs.Ytelcdiceongfdaa
open Go.RowKit Go.BigFrame
set_option maxRecDepth 100000

structure FS where
  g : Caps
  got : Int
  ps : List Flow
/-- what goes by the shortest way -/
def FS.n (s : FS) (f t : Nat) (want : Int) : Int := leastTo s.g (short s.g f t) (want - s.got) ((short s.g f t).length - 1)
def FS.step (s : FS) (f t : Nat) (want : Int) : FS :=
  ⟨pushTo s.g (short s.g f t) (s.n f t want) ((short s.g f t).length - 1), s.got + s.n f t want, s.ps ++ flowsTo (short s.g f t) (s.n f t want) ((short s.g f t).length - 1)⟩
/-- a route: as many rounds as there are, k at most -/
def routeF (f t : Nat) (want : Int) : Nat → FS → Option FS
  | 0, _ => none
  | k + 1, s => if short s.g f t = [] then some s else if (s.step f t want).got = want then some (s.step f t want) else routeF f t want k (s.step f t want)
def Reach (f t : Nat) (want : Int) (s0 s : FS) : Prop := ∃ j, ∀ k, routeF f t want (j + k) s0 = routeF f t want k s
theorem Reach.refl (f t : Nat) (want : Int) (s : FS) : Reach f t want s s := ⟨0, fun k => by rw [Nat.zero_add]⟩
theorem Reach.next {f t : Nat} {want : Int} {s0 s : FS} (h : Reach f t want s0 s) (hs : short s.g f t ≠ []) (hn : (s.step f t want).got ≠ want) : Reach f t want s0 (s.step f t want) := by
  obtain ⟨j, hj⟩ := h
  refine ⟨j + 1, fun k => ?_⟩
  rw [show j + 1 + k = j + (k + 1) by omega, hj (k + 1)]
  show (if _ then _ else if _ then _ else _) = _
  rw [if_neg hs, if_neg hn]
theorem Reach.done {f t : Nat} {want : Int} {s0 s : FS} (h : Reach f t want s0 s) (hs : short s.g f t = []) : ∃ k, routeF f t want k s0 = some s := by
  obtain ⟨j, hj⟩ := h
  refine ⟨j + 1, ?_⟩
  rw [hj 1]
  show (if _ then _ else if _ then _ else _) = _
  rw [if_pos hs]
theorem Reach.full {f t : Nat} {want : Int} {s0 s : FS} (h : Reach f t want s0 s) (hs : short s.g f t ≠ []) (hn : (s.step f t want).got = want) : ∃ k, routeF f t want k s0 = some (s.step f t want) := by
  obtain ⟨j, hj⟩ := h
  refine ⟨j + 1, ?_⟩
  rw [hj 1]
  show (if _ then _ else if _ then _ else _) = _
  rw [if_neg hs, if_pos hn]
theorem routeF_mono {f t : Nat} {want : Int} : ∀ (k : Nat) (s r : FS), routeF f t want k s = some r → ∀ j, routeF f t want (k + j) s = some r
  | 0, _, _, h, _ => by cases h
  | k + 1, s, r, h, j => by
    rw [show k + 1 + j = (k + j) + 1 by omega]
    unfold routeF at h ⊢
    by_cases h1 : short s.g f t = []
    · rw [if_pos h1] at h ⊢; exact h
    · rw [if_neg h1] at h ⊢
      by_cases h2 : (s.step f t want).got = want
      · rw [if_pos h2] at h ⊢; exact h
      · rw [if_neg h2] at h ⊢
        exact routeF_mono k _ r h j
theorem routeF_unique {f t : Nat} {want : Int} {k k' : Nat} {s r r' : FS} (h : routeF f t want k s = some r) (h' : routeF f t want k' s = some r') : r = r' := by
  have h1 := routeF_mono k s r h k'
  have h2 := routeF_mono k' s r' h' k
  rw [Nat.add_comm] at h2
  rw [h1] at h2
  exact Option.some.inj h2

def Flow.enc (x : Flow) : List Value := [.int .u8 x.f, .int .u8 x.t, .int .i64 x.n]

/-- memory between two rounds; H: the heap's size when the call began -/
structure RMem (w : World) (f t : Nat) (want : Int) (g : Caps) (got : Int) (ps : List Flow) (W : World) : Prop where
  bel : Below w.heap.size w W
  size : w.heap.size + 8 ≤ W.heap.size
  c0 : W.heap[w.heap.size]? = some (.cells #[.pointer (some ⟨w.heap.size + 4, 0, none⟩)] 82 (0, 0))
  c1 : W.heap[w.heap.size + 1]? = some (.cells #[.int .i64 want] 2 (0, 0))
  c2 : ∃ ad c, W.heap[w.heap.size + 2]? = some (.cells #[.slice ad ps.length c] 100 (0, 0)) ∧ W.ownsRow (w.heap.size + 8) 104 3 (.slice ad ps.length c) ps.length (ps.flatMap Flow.enc)
  c3 : W.heap[w.heap.size + 3]? = some (.cells #[.int .i64 got] 2 (0, 0))
  gr : GraphAt W (w.heap.size + 4) g
  c5 : W.heap[w.heap.size + 5]? = some (.cells #[.pointer (some ⟨w.heap.size + 4, 0, none⟩)] 82 (0, 0))
  c6 : W.heap[w.heap.size + 6]? = some (.cells #[.int .u8 f] 23 (0, 0))
  c7 : W.heap[w.heap.size + 7]? = some (.cells #[.int .u8 t] 23 (0, 0))

theorem cell_one {W : World} {b : Nat} {v : Value} {t : TypeId} (h : W.heap[b]? = some (.cells #[v] t (0, 0))) : W.cell? ⟨b, 0, none⟩ = some v := by simp [World.cell?, h]
theorem free_one {W : World} {b : Nat} {v : Value} {t : TypeId} (h : W.heap[b]? = some (.cells #[v] t (0, 0))) (o : Nat) : W.frozen? ⟨b, o, none⟩ = false := by simp [World.frozen?, h]
theorem set_one {W : World} {b : Nat} {v : Value} {t : TypeId} (h : W.heap[b]? = some (.cells #[v] t (0, 0))) (u : Value) : (W.setCell ⟨b, 0, none⟩ u).heap[b]? = some (.cells #[u] t (0, 0)) := by
  rw [heap_setCell_same h]; rfl

theorem RMem.ways {w W : World} {f t : Nat} {want : Int} {g : Caps} {got : Int} {ps : List Flow} (h : RMem w f t want g got ps W) : WaysAt W (w.heap.size + 5) (w.heap.size + 6) (w.heap.size + 7) (w.heap.size + 4) f t g :=
  ⟨h.gr, cell_one h.c5, cell_one h.c6, cell_one h.c7⟩
/-- whatever keeps the call's own blocks, and the row of pushes -/
theorem RMem.keep {w W W' : World} {f t : Nat} {want : Int} {g : Caps} {got : Int} {ps : List Flow} (h : RMem w f t want g got ps W) (hb : Below (w.heap.size + 8) W W')
    (hr : ∀ ad c, W.ownsRow (w.heap.size + 8) 104 3 (.slice ad ps.length c) ps.length (ps.flatMap Flow.enc) → W'.ownsRow (w.heap.size + 8) 104 3 (.slice ad ps.length c) ps.length (ps.flatMap Flow.enc)) : RMem w f t want g got ps W' := by
  obtain ⟨ad, c, h2, hrow⟩ := h.c2
  refine ⟨h.bel.trans ⟨hb.os, hb.tape, hb.output, hb.size, fun k hk => hb.block k (by omega)⟩, Nat.le_trans h.size hb.size, ?_, ?_, ⟨ad, c, ?_, hr ad c hrow⟩, ?_, ?_, ?_, ?_, ?_⟩
  · rw [hb.block _ (by omega)]; exact h.c0
  · rw [hb.block _ (by omega)]; exact h.c1
  · rw [hb.block _ (by omega)]; exact h2
  · rw [hb.block _ (by omega)]; exact h.c3
  · unfold GraphAt; rw [hb.block _ (by omega)]; exact h.gr
  · rw [hb.block _ (by omega)]; exact h.c5
  · rw [hb.block _ (by omega)]; exact h.c6
  · rw [hb.block _ (by omega)]; exact h.c7
theorem RMem.below {w W W' : World} {f t : Nat} {want : Int} {g : Caps} {got : Int} {ps : List Flow} (h : RMem w f t want g got ps W) (hb : Below W.heap.size W W') : RMem w f t want g got ps W' :=
  h.keep (hb.mono h.size) fun _ _ hr => ownsRow_later hr hb
theorem RMem.put {w W : World} {f t : Nat} {want : Int} {g : Caps} {got : Int} {ps : List Flow} (h : RMem w f t want g got ps W) {l : Nat} (o' : Obj) (hl : w.heap.size + 8 ≤ l) (ho : ∃ o : Obj, W.heap[l]? = some o ∧ o.isCells = false) : RMem w f t want g got ps (W.putObj l o') := by
  obtain ⟨o, ho, hc⟩ := ho
  have hother : ∀ k, k ≠ l → (W.putObj l o').heap[k]? = W.heap[k]? := fun k hk => World.putObj_heap_other hk
  refine h.keep ⟨rfl, rfl, rfl, by simp, fun k hk => hother k (by omega)⟩ fun ad c hr => ?_
  refine ⟨hr.1, ?_⟩
  rcases hr.2 with h0 | ⟨g, cap, cur, e1, e2, hg, e3⟩
  · exact .inl h0
  · refine .inr ⟨g, cap, cur, e1, e2, (hother g ?_).trans hg, e3⟩
    rintro rfl
    rw [ho] at hg
    cases hg
    simp [Obj.isCells] at hc
/-- the graph, turned -/
theorem RMem.graph {w W W' : World} {f t : Nat} {want : Int} {g g' : Caps} {got : Int} {ps : List Flow} (h : RMem w f t want g got ps W) (hc : Chg [w.heap.size + 4] W W') (hg : GraphAt W' (w.heap.size + 4) g') : RMem w f t want g' got ps W' := by
  obtain ⟨ad, c, h2, hrow⟩ := h.c2
  have hs := h.size
  have hk : ∀ k, k < w.heap.size + 8 → k ≠ w.heap.size + 4 → W'.heap[k]? = W.heap[k]? := fun k hk hn => hc.block k (by omega) (by simpa using hn)
  refine ⟨h.bel.trans ⟨hc.os, hc.tape, hc.output, hc.size, fun k hlt => hk k (by omega) (by omega)⟩, Nat.le_trans h.size hc.size, ?_, ?_, ⟨ad, c, ?_, ?_⟩, ?_, hg, ?_, ?_, ?_⟩
  · rw [hk _ (by omega) (by omega)]; exact h.c0
  · rw [hk _ (by omega) (by omega)]; exact h.c1
  · rw [hk _ (by omega) (by omega)]; exact h2
  · refine ⟨hrow.1, ?_⟩
    rcases hrow.2 with h0 | ⟨gg, cap, cur, e1, e2, hgg, e3⟩
    · exact .inl h0
    · exact .inr ⟨gg, cap, cur, e1, e2, (hc.block gg (lt_of_block hgg) (by simp; omega)).trans hgg, e3⟩
  · rw [hk _ (by omega) (by omega)]; exact h.c3
  · rw [hk _ (by omega) (by omega)]; exact h.c5
  · rw [hk _ (by omega) (by omega)]; exact h.c6
  · rw [hk _ (by omega) (by omega)]; exact h.c7
/-- what it got, turned -/
theorem RMem.setGot {w W : World} {f t : Nat} {want : Int} {g : Caps} {got : Int} {ps : List Flow} (h : RMem w f t want g got ps W) (n : Int) : RMem w f t want g n ps (W.setCell ⟨w.heap.size + 3, 0, none⟩ (.int .i64 n)) := by
  obtain ⟨ad, c, h2, hrow⟩ := h.c2
  have hs := h.size
  have hk : ∀ k, k ≠ w.heap.size + 3 → (W.setCell ⟨w.heap.size + 3, 0, none⟩ (.int .i64 n)).heap[k]? = W.heap[k]? := fun k hn => Below.heap_setCell _ _ _ _ hn
  refine ⟨h.bel.setCell (by simp) _, by simpa using h.size, ?_, ?_, ⟨ad, c, ?_, ?_⟩, set_one h.c3 _, ?_, ?_, ?_, ?_⟩
  · rw [hk _ (by omega)]; exact h.c0
  · rw [hk _ (by omega)]; exact h.c1
  · rw [hk _ (by omega)]; exact h2
  · refine ⟨hrow.1, ?_⟩
    rcases hrow.2 with h0 | ⟨gg, cap, cur, e1, e2, hgg, e3⟩
    · exact .inl h0
    · exact .inr ⟨gg, cap, cur, e1, e2, (hk gg (by omega)).trans hgg, e3⟩
  · unfold GraphAt; rw [hk _ (by omega)]; exact h.gr
  · rw [hk _ (by omega)]; exact h.c5
  · rw [hk _ (by omega)]; exact h.c6
  · rw [hk _ (by omega)]; exact h.c7
/-- pushes, turned -/
theorem RMem.setPs {w W W' : World} {f t : Nat} {want : Int} {g : Caps} {got : Int} {ps ps' : List Flow} (h : RMem w f t want g got ps W) (hb : Below (w.heap.size + 8) W W') {ad : Option Addr} {c : Nat}
    (hrow : W'.ownsRow (w.heap.size + 8) 104 3 (.slice ad ps'.length c) ps'.length (ps'.flatMap Flow.enc)) : RMem w f t want g got ps' (W'.setCell ⟨w.heap.size + 2, 0, none⟩ (.slice ad ps'.length c)) := by
  obtain ⟨ad0, c0, h2, hrow0⟩ := h.c2
  have hs := h.size
  have hk : ∀ k, k < w.heap.size + 8 → k ≠ w.heap.size + 2 → (W'.setCell ⟨w.heap.size + 2, 0, none⟩ (.slice ad ps'.length c)).heap[k]? = W.heap[k]? := fun k hk hn => (Below.heap_setCell _ _ _ _ hn).trans (hb.block k hk)
  refine ⟨(h.bel.trans ⟨hb.os, hb.tape, hb.output, hb.size, fun k hk => hb.block k (by omega)⟩).setCell (by simp) _, by have := hb.size; simp; omega, ?_, ?_, ⟨ad, c, ?_, ?_⟩, ?_, ?_, ?_, ?_, ?_⟩
  · rw [hk _ (by omega) (by omega)]; exact h.c0
  · rw [hk _ (by omega) (by omega)]; exact h.c1
  · exact set_one ((hb.block _ (by omega)).trans h2) _
  · refine ⟨hrow.1, ?_⟩
    rcases hrow.2 with h0 | ⟨gg, cap, cur, e1, e2, hgg, e3⟩
    · exact .inl h0
    · exact .inr ⟨gg, cap, cur, e1, e2, (Below.heap_setCell _ _ _ _ (by simp; omega)).trans hgg, e3⟩
  · rw [hk _ (by omega) (by omega)]; exact h.c3
  · unfold GraphAt; rw [hk _ (by omega) (by omega)]; exact h.gr
  · rw [hk _ (by omega) (by omega)]; exact h.c5
  · rw [hk _ (by omega) (by omega)]; exact h.c6
  · rw [hk _ (by omega) (by omega)]; exact h.c7
/-- memory when the loop begins -/
theorem rmem_init {w w1 : World} {b f t : Nat} {want : Int} {G : Caps}
    (hb1 : Below (w.heap.size + 4) ((((w.alloc (.cells #[.pointer (some ⟨b, 0, none⟩)] 82)).alloc (.cells #[.int .i64 want] 2)).alloc (.cells #[.slice none 0 0] 100)).alloc (.cells #[.int .i64 0] 2)) w1)
    (hg : GraphAt w1 (w.heap.size + 4) G) (hz : w1.heap.size = w.heap.size + 5) :
    RMem w f t want G 0 [] ((((w1.setCell ⟨w.heap.size, 0, none⟩ (.pointer (some ⟨w.heap.size + 4, 0, none⟩))).alloc (.cells #[.pointer (some ⟨w.heap.size + 4, 0, none⟩)] 82)).alloc (.cells #[.int .u8 f] 23)).alloc (.cells #[.int .u8 t] 23)) := by
  obtain ⟨A, hA⟩ : ∃ A, w.alloc (.cells #[.pointer (some ⟨b, 0, none⟩)] 82) = A := ⟨_, rfl⟩
  obtain ⟨B, hB⟩ : ∃ B, A.alloc (.cells #[.int .i64 want] 2) = B := ⟨_, rfl⟩
  obtain ⟨C, hC⟩ : ∃ C, B.alloc (.cells #[.slice none 0 0] 100) = C := ⟨_, rfl⟩
  obtain ⟨D, hD⟩ : ∃ D, C.alloc (.cells #[.int .i64 0] 2) = D := ⟨_, rfl⟩
  rw [hA, hB, hC, hD] at hb1
  have sA : A.heap.size = w.heap.size + 1 := by rw [← hA]; simp
  have sB : B.heap.size = w.heap.size + 2 := by rw [← hB]; simp [sA]
  have sC : C.heap.size = w.heap.size + 3 := by rw [← hC]; simp [sB]
  have sD : D.heap.size = w.heap.size + 4 := by rw [← hD]; simp [sC]
  have a0 : A.heap[w.heap.size]? = some (.cells #[.pointer (some ⟨b, 0, none⟩)] 82 (0, 0)) := by rw [← hA]; exact alloc_new w _
  have b1 : B.heap[w.heap.size + 1]? = some (.cells #[.int .i64 want] 2 (0, 0)) := by rw [← hB, ← sA]; exact alloc_new A _
  have c2 : C.heap[w.heap.size + 2]? = some (.cells #[.slice none 0 0] 100 (0, 0)) := by rw [← hC, ← sB]; exact alloc_new B _
  have d3 : D.heap[w.heap.size + 3]? = some (.cells #[.int .i64 0] 2 (0, 0)) := by rw [← hD, ← sC]; exact alloc_new C _
  have kB : ∀ k, k < A.heap.size → B.heap[k]? = A.heap[k]? := fun k hk => by rw [← hB]; exact Below.heap_alloc _ _ _ hk
  have kC : ∀ k, k < B.heap.size → C.heap[k]? = B.heap[k]? := fun k hk => by rw [← hC]; exact Below.heap_alloc _ _ _ hk
  have kD : ∀ k, k < C.heap.size → D.heap[k]? = C.heap[k]? := fun k hk => by rw [← hD]; exact Below.heap_alloc _ _ _ hk
  have kA : ∀ k, k < w.heap.size → A.heap[k]? = w.heap[k]? := fun k hk => by rw [← hA]; exact Below.heap_alloc _ _ _ hk
  have hBel : Below w.heap.size w D := by
    rw [← hD, ← hC, ← hB, ← hA]
    exact ((((Below.refl _ w).alloc (Nat.le_refl _) _).alloc (by simp) _).alloc (by simp; omega) _).alloc (by simp; omega) _
  have k1 : ∀ k, k < w.heap.size + 4 → w1.heap[k]? = D.heap[k]? := fun k hk => hb1.block k hk
  obtain ⟨E, hE⟩ : ∃ E, w1.setCell ⟨w.heap.size, 0, none⟩ (.pointer (some ⟨w.heap.size + 4, 0, none⟩)) = E := ⟨_, rfl⟩
  rw [hE]
  have sE : E.heap.size = w.heap.size + 5 := by rw [← hE]; simpa using hz
  have kE : ∀ k, k ≠ w.heap.size → E.heap[k]? = w1.heap[k]? := fun k hk => by rw [← hE]; exact Below.heap_setCell _ _ _ _ hk
  have e0 : E.heap[w.heap.size]? = some (.cells #[.pointer (some ⟨w.heap.size + 4, 0, none⟩)] 82 (0, 0)) := by
    rw [← hE]
    exact set_one ((k1 _ (by omega)).trans ((kD _ (by omega)).trans ((kC _ (by omega)).trans ((kB _ (by omega)).trans a0)))) _
  obtain ⟨F, hF⟩ : ∃ F, E.alloc (.cells #[.pointer (some ⟨w.heap.size + 4, 0, none⟩)] 82) = F := ⟨_, rfl⟩
  obtain ⟨X, hX⟩ : ∃ X, F.alloc (.cells #[.int .u8 f] 23) = X := ⟨_, rfl⟩
  obtain ⟨Y, hY⟩ : ∃ Y, X.alloc (.cells #[.int .u8 t] 23) = Y := ⟨_, rfl⟩
  rw [hF, hX, hY]
  have sF : F.heap.size = w.heap.size + 6 := by rw [← hF]; simp [sE]
  have sX : X.heap.size = w.heap.size + 7 := by rw [← hX]; simp [sF]
  have sY : Y.heap.size = w.heap.size + 8 := by rw [← hY]; simp [sX]
  have f5 : F.heap[w.heap.size + 5]? = some (.cells #[.pointer (some ⟨w.heap.size + 4, 0, none⟩)] 82 (0, 0)) := by rw [← hF, ← sE]; exact alloc_new E _
  have x6 : X.heap[w.heap.size + 6]? = some (.cells #[.int .u8 f] 23 (0, 0)) := by rw [← hX, ← sF]; exact alloc_new F _
  have y7 : Y.heap[w.heap.size + 7]? = some (.cells #[.int .u8 t] 23 (0, 0)) := by rw [← hY, ← sX]; exact alloc_new X _
  have kF : ∀ k, k < E.heap.size → F.heap[k]? = E.heap[k]? := fun k hk => by rw [← hF]; exact Below.heap_alloc _ _ _ hk
  have kX : ∀ k, k < F.heap.size → X.heap[k]? = F.heap[k]? := fun k hk => by rw [← hX]; exact Below.heap_alloc _ _ _ hk
  have kY : ∀ k, k < X.heap.size → Y.heap[k]? = X.heap[k]? := fun k hk => by rw [← hY]; exact Below.heap_alloc _ _ _ hk
  have kYE : ∀ k, k < w.heap.size + 5 → Y.heap[k]? = E.heap[k]? := fun k hk => (kY k (by omega)).trans ((kX k (by omega)).trans (kF k (by omega)))
  refine ⟨?_, by omega, (kYE _ (by omega)).trans e0, ?_, ⟨none, 0, ?_, World.ownsRow_nil _ _ _ _⟩, ?_, ?_, (kY _ (by omega)).trans ((kX _ (by omega)).trans f5), (kY _ (by omega)).trans x6, y7⟩
  · rw [← hY, ← hX, ← hF, ← hE]
    have h1 : Below w.heap.size w w1 := hBel.trans ⟨hb1.os, hb1.tape, hb1.output, hb1.size, fun k hk => hb1.block k (by omega)⟩
    exact (((h1.setCell (by simp) _).alloc (by simp; omega) _).alloc (by simp; omega) _).alloc (by simp; omega) _
  · exact (kYE _ (by omega)).trans ((kE _ (by omega)).trans ((k1 _ (by omega)).trans ((kD _ (by omega)).trans ((kC _ (by omega)).trans b1))))
  · exact (kYE _ (by omega)).trans ((kE _ (by omega)).trans ((k1 _ (by omega)).trans ((kD _ (by omega)).trans c2)))
  · exact (kYE _ (by omega)).trans ((kE _ (by omega)).trans ((k1 _ (by omega)).trans d3))
  · exact (kYE _ (by omega)).trans ((kE _ (by omega)).trans hg)
end Go.Proofs.Ytelcdiceongfdaa
end
section
namespace Go.Proofs.Ytelcdiceongfdaa
open Go.RowKit Go.BigFrame
set_option maxRecDepth 100000
attribute [local go_sem] Oper.semAt_some

/-- what holds between two rounds -/
structure RInv (w : World) (f t : Nat) (want : Int) (s0 : FS) (s : FS) (W : World) : Prop where
  mem : RMem w f t want s.g s.got s.ps W
  got : 0 ≤ s.got ∧ s.got < want
  gb : GB s.g
  many : s.ps.length + 15 * phi s.g t ≤ 1305000
  reach : Reach f t want s0 s
/-- what holds when as much as was wanted has got there -/
structure REnd (w : World) (f t : Nat) (want : Int) (s0 : FS) (W : World) : Prop where
  ex : ∃ s, RMem w f t want s.g s.got s.ps W ∧ (0 ≤ s.got ∧ s.got ≤ want) ∧ s.ps.length ≤ 1400000 ∧ ∃ k, routeF f t want k s0 = some s

def RoutePost (w : World) (f t : Nat) (want : Int) (G : Caps) (e : Ending) (w' : World) : Prop :=
  ∃ k r ad, routeF f t want k ⟨G, 0, []⟩ = some r ∧ e = .returned (.tuple #[.slice ad r.ps.length r.ps.length, .int .i64 r.got]) ∧ (0 ≤ r.got ∧ r.got ≤ want) ∧ Below w.heap.size w w' ∧ r.ps.length ≤ 1400000 ∧
    ((ad = none ∧ r.ps = []) ∨ ∃ g, ad = some ⟨g, 0, none⟩ ∧ w.heap.size ≤ g ∧ g < w'.heap.size ∧ ∀ (j : Nat) v, (r.ps.flatMap Flow.enc)[j]? = some v → w'.cell? ⟨g, j, none⟩ = some v)

theorem infoFlow : ((Try.prog).info? 104).map (fun i => (i.zero, i.size, i.bytes)) = some (some (.agg #[.int .u8 0, .int .u8 0, .int .i64 0]), 3, 16) := by kernel_rfl
theorem KeepsOthers.chg {S : List Nat} {W W' : World} (h : Chg S W W') (hS : ∀ k ∈ S, ∃ o : Obj, W.heap[k]? = some o ∧ o.isCells = true) : KeepsOthers W W' :=
  ⟨h.size, fun k o hk ho => (h.block k (Array.getElem?_eq_some_iff.1 hk).1 (fun hm => by
    obtain ⟨o', h1, h2⟩ := hS k hm
    rw [hk] at h1; cases h1; rw [ho] at h2; cases h2)).trans hk⟩
theorem young_row {w W W2 : World} {f t : Nat} {want : Int} {s0 s : FS} {k : Nat} (hy : Young (RInv w f t want s0) s W k) (_hm : RMem w f t want s.g s.got s.ps W2) (hb : Below W.heap.size W W2) : w.heap.size + 8 ≤ k ∧ ∀ v, W2.cell? ⟨w.heap.size + 2, 0, none⟩ = some v → v.ownBlock ≠ some k := by
  obtain ⟨W0, hI, hk, hcells⟩ := hy
  refine ⟨Nat.le_trans hI.mem.size hk, fun v hv hvk => ?_⟩
  obtain ⟨ad, c, h2, hrow⟩ := hI.mem.c2
  have h3 := hcells _ _ h2 rfl
  have h4 := (hb.block _ (Array.getElem?_eq_some_iff.1 h3).1).trans h3
  rw [cell_one h4] at hv
  cases hv
  have := (hrow.lt k hvk).2
  omega
theorem rcell0 {w w1 : World} {v : Value} {t : TypeId} {B C D : Obj} (hb1 : Below (w.heap.size + 4) ((((w.alloc (.cells #[v] t)).alloc B).alloc C).alloc D) w1) : w1.heap[w.heap.size]? = some (.cells #[v] t (0, 0)) :=
  (hb1.block _ (by omega)).trans ((Below.heap_alloc _ _ _ (by simp; omega)).trans ((Below.heap_alloc _ _ _ (by simp; omega)).trans ((Below.heap_alloc _ _ _ (by simp)).trans (alloc_new w _))))

theorem clipFlow (ad : Option Addr) (n c : Nat) (hnc : n ≤ c) (hc : c ≤ 9223372036854775807) (had : ad = none → c = 0) (w : World) :
    Calls Try.prog 65 #[.slice ad n c] w fun e w' => e = .returned (.slice ad n n) ∧ w = w' := by
  cases ad with
  | none =>
    have := had rfl
    subst this
    obtain rfl : n = 0 := by omega
    go_enter Try.func65, Try.ntmps65
    go_wp2
    go_ret
    exact ⟨rfl, rfl⟩
  | some a =>
    go_enter Try.func65, Try.ntmps65
    go_wp2
    go_ret
    exact ⟨by simp, rfl⟩

theorem route_end {w W : World} {f t : Nat} {want : Int} {g : Caps} {got : Int} {ps : List Flow} {ad : Option Addr} {c D : Nat} (h : RMem w f t want g got ps W) (h2 : W.heap[w.heap.size + 2]? = some (.cells #[.slice ad ps.length c] 100 (0, 0)))
    (hrow : W.ownsRow (w.heap.size + 8) 104 3 (.slice ad ps.length c) ps.length (ps.flatMap Flow.enc)) (hD : w.heap.size + 8 ≤ D) (hK : W.heap[D]? = some (.deferred (some []))) :
    (((W.setCell ⟨w.heap.size + 1 + 1, 0, none⟩ (.slice ad ps.length ps.length)).setCell ⟨w.heap.size + 1 + 1 + 1, 0, none⟩ (.int .i64 got)).drew).heap[D]? = some (.deferred (some [])) ∧
    ((((W.setCell ⟨w.heap.size + 1 + 1, 0, none⟩ (.slice ad ps.length ps.length)).setCell ⟨w.heap.size + 1 + 1 + 1, 0, none⟩ (.int .i64 got)).drew).putObj D (.deferred none)).cell? ⟨w.heap.size + 1 + 1, 0, none⟩ = some (.slice ad ps.length ps.length) ∧
    ((((W.setCell ⟨w.heap.size + 1 + 1, 0, none⟩ (.slice ad ps.length ps.length)).setCell ⟨w.heap.size + 1 + 1 + 1, 0, none⟩ (.int .i64 got)).drew).putObj D (.deferred none)).cell? ⟨w.heap.size + 1 + 1 + 1, 0, none⟩ = some (.int .i64 got) ∧
    (Below w.heap.size w ((((W.setCell ⟨w.heap.size + 1 + 1, 0, none⟩ (.slice ad ps.length ps.length)).setCell ⟨w.heap.size + 1 + 1 + 1, 0, none⟩ (.int .i64 got)).drew).putObj D (.deferred none)) ∧
    ((ad = none ∧ ps = []) ∨ ∃ g, ad = some ⟨g, 0, none⟩ ∧ w.heap.size ≤ g ∧ g < ((((W.setCell ⟨w.heap.size + 1 + 1, 0, none⟩ (.slice ad ps.length ps.length)).setCell ⟨w.heap.size + 1 + 1 + 1, 0, none⟩ (.int .i64 got)).drew).putObj D (.deferred none)).heap.size ∧ ∀ (j : Nat) v, (ps.flatMap Flow.enc)[j]? = some v → ((((W.setCell ⟨w.heap.size + 1 + 1, 0, none⟩ (.slice ad ps.length ps.length)).setCell ⟨w.heap.size + 1 + 1 + 1, 0, none⟩ (.int .i64 got)).drew).putObj D (.deferred none)).cell? ⟨g, j, none⟩ = some v)) := by
  obtain ⟨W1, hW1⟩ : ∃ W1, (W.setCell ⟨w.heap.size + 1 + 1, 0, none⟩ (.slice ad ps.length ps.length)).setCell ⟨w.heap.size + 1 + 1 + 1, 0, none⟩ (.int .i64 got) = W1 := ⟨_, rfl⟩
  rw [hW1]
  have k2 : W1.heap[w.heap.size + 2]? = some (.cells #[.slice ad ps.length ps.length] 100 (0, 0)) := by
    rw [← hW1]
    exact (Below.heap_setCell _ _ _ _ (by simp)).trans (set_one h2 _)
  have k3 : W1.heap[w.heap.size + 3]? = some (.cells #[.int .i64 got] 2 (0, 0)) := by
    rw [← hW1]
    exact set_one ((Below.heap_setCell _ _ _ _ (by simp)).trans h.c3) _
  have kk : ∀ k, w.heap.size + 8 ≤ k ∨ k < w.heap.size → W1.heap[k]? = W.heap[k]? := fun k hk => by
    rw [← hW1]
    exact (Below.heap_setCell _ _ _ _ (by simp; omega)).trans (Below.heap_setCell _ _ _ _ (by simp; omega))
  have kp : ∀ k, k ≠ D → (W1.drew.putObj D (.deferred none)).heap[k]? = W1.heap[k]? := fun k hk => World.putObj_heap_other hk
  have hz : W1.heap.size = W.heap.size := by rw [← hW1]; simp
  refine ⟨(kk D (.inl hD)).trans hK, ?_, ?_, ?_, ?_⟩
  · exact cell_one ((kp (w.heap.size + 2) (by omega)).trans k2)
  · exact cell_one ((kp (w.heap.size + 3) (by omega)).trans k3)
  · have hb : Below w.heap.size w W1 := by
      rw [← hW1]
      exact (h.bel.setCell (by simp; omega) _).setCell (by simp; omega) _
    exact ⟨hb.os, hb.tape, hb.output, by have := hb.size; simpa using this, fun k hk => (kp k (by omega)).trans (hb.block k hk)⟩
  · rcases hrow.2 with ⟨e, h0⟩ | ⟨gg, cap, cur, e, hg, hgg, _⟩
    · simp only [Value.slice.injEq] at e
      exact .inl ⟨e.1, List.eq_nil_of_length_eq_zero h0⟩
    · simp only [Value.slice.injEq] at e
      obtain ⟨rfl, -, rfl⟩ := e
      have hgl := lt_of_block hgg
      have hne : gg ≠ D := by rintro rfl; rw [hK] at hgg; cases hgg
      refine .inr ⟨gg, rfl, by omega, by show gg < (W1.drew.putObj D _).heap.size; simp; rw [hz]; exact hgl, fun j v hv => ?_⟩
      have hc := hrow.cells (g := gg) rfl j v hv
      rw [Addr.add_lit, Nat.zero_add] at hc
      exact (World.cell?_of_block (w := W) (a := ⟨gg, j, none⟩) ((kp gg hne).trans (kk gg (.inl hg)))).trans hc

set_option maxHeartbeats 2000000 in
theorem route_ok {w : World} {b : Nat} {G : Caps} (h : GraphAt w b G) (hG : GB G) (f t : Nat) (hf : f < 256) (ht : t < 256) (want : Int) (hw : 1 ≤ want) (hw2 : want ≤ 9223372036854775807) :
    Calls Try.prog 42 #[.pointer (some ⟨b, 0, none⟩), .int .u8 f, .int .u8 t, .int .i64 want] w (RoutePost w f t want G) := by
  have hb := h.lt
  refine (callsIn_wide (n := 3)).1 ?_
  refine callsIn_of_wp_marks Try.func42 rfl trivial ?_ rfl
  simp only [Try.ntmps42, List.size_toArray, List.length_cons, List.length_nil, Nat.reduceAdd, Nat.reduceSub, Array.replicate_succ, Array.replicate_zero, List.push_toArray, List.append_toArray, List.nil_append, List.cons_append]
  gi_wp2
  refine ⟨trivial, callsIn_wide.2 ((gcopy (h.below (by repeat (first | with_reducible exact Below.refl _ _ | with_reducible assumption | refine Below.drew ?_ | refine Below.setCell ?_ (by first | exact Nat.le_refl _ | omega | (simp; done) | (simp; omega)) _ | refine Below.alloc ?_ (by first | exact Nat.le_refl _ | omega | (simp; done) | (simp; omega)) _ | refine Below.tr ?_ (Nat.le_refl _) (by assumption) | exact Below.refl _ _ | assumption)))).mono ?_)⟩
  rintro e w1 ⟨rfl, hb1, hg1, hz1⟩
  simp only [World.size_alloc] at hg1 hb1 hz1
  have hM := rmem_init (f := f) (t := t) hb1 hg1 hz1
  have hz2 : w.heap.size < w1.heap.size := by omega
  have e0 := rcell0 hb1
  have d0 := cell_one e0
  have df0 := free_one e0 0
  clear e0
  have HZ := Lib.hid hz1; clear hz1
  have HM := Lib.hid hM; clear hM
  gi_wp2
  refine ⟨trivial, callsIn_wide.2 ((ways_make _ _ _ _).mono ?_)⟩
  rintro e w2 ⟨rfl, rfl⟩
  gi_wp2
  rw [HZ.out]
  refine wpIn_ways (fun s : FS => s.g) (fun s => phi s.g t) (RInv w f t want ⟨G, 0, []⟩) (REnd w f t want ⟨G, 0, []⟩) 0 3 (w.heap.size + 5) (w.heap.size + 6) (w.heap.size + 7) (w.heap.size + 4) f t hf ht rfl rfl
    (fun s W hI => hI.mem.ways) (fun s W W' hI hB => ⟨hI.mem.below hB, hI.got, hI.gb, hI.many, hI.reach⟩)
    (fun s W l o' hI hl ho => ⟨hI.mem.put o' (by simp [HZ.out] at hl; omega) ho, hI.got, hI.gb, hI.many, hI.reach⟩)
    (fun W l o' hI hl ho => by obtain ⟨s, hm, h2⟩ := hI.ex; exact ⟨s, hm.put o' (by simp [HZ.out] at hl; omega) ho, h2⟩)
    ⟨G, 0, []⟩ ⟨HM.out, by simp; omega, hG, by have := phi_le G t; simp; omega, Reach.refl _ _ _ _⟩
    (fun v => { tmps := #[.pointer (some ⟨b, 0, none⟩), .int .u8 f, .int .u8 t, .int .i64 want, .pointer (some ⟨w.heap.size, 0, none⟩), undef, undef, .pointer (some ⟨w.heap.size + 1, 0, none⟩), .pointer (some ⟨w.heap.size + 1 + 1, 0, none⟩), .pointer (some ⟨w.heap.size + 1 + 1 + 1, 0, none⟩), v, undef, undef, .int .i64 want, .bool (decide (want ≤ 0)), .pointer (some ⟨b, 0, none⟩), .pointer (some ⟨w.heap.size + 1 + 1 + 1 + 1, 0, none⟩), .pointer (some ⟨w.heap.size + 1 + 1 + 1 + 1, 0, none⟩), .int .u8 f, .int .u8 t, .func (.func 76) #[] #[.pointer (some ⟨w.heap.size + 5, 0, none⟩), .pointer (some ⟨w.heap.size + 6, 0, none⟩), .pointer (some ⟨w.heap.size + 7, 0, none⟩)], v, undef, undef, undef, undef, undef, undef, undef, undef, undef, undef, undef, undef, undef, undef, undef, undef, undef, undef, undef, undef, undef, undef, undef, undef, undef, undef, undef, undef, undef, undef, undef, undef, undef, undef, undef, undef, undef, undef, undef, undef, undef, undef, undef, undef, undef, undef, undef, undef], defers := [] }) ?assign ?body ?done ?stop
  case assign =>
    intro l v W K hK
    gi_wp2
    exact hK
  case body =>
    rintro r s k c W hI hne hway hyoung
    obtain ⟨hwayS, hf16, ht16, hft, hd17, hsh⟩ := short_isWay hne
    obtain ⟨l, hl⟩ : ∃ l, short s.g f t = l := ⟨_, rfl⟩
    rw [hl] at hway hwayS
    have Hl : Aside (short s.g f t = l) := hl
    have c0 := cell_one hI.mem.c0
    have c1 := cell_one hI.mem.c1
    have c3 : W.cell? ⟨w.heap.size + 1 + 1 + 1, 0, none⟩ = some (.int .i64 s.got) := cell_one hI.mem.c3
    have hg1 := hI.got
    have hlen := hwayS.len
    have hlen2 := hwayS.len2
    have hls := (least_any hI.mem.gr hway (c := c) (by omega) (by omega) (fun p hp => (hwayS.near p hp).2) (want - s.got))
    obtain ⟨m, hm⟩ : ∃ m, l.length = m + 1 := ⟨l.length - 1, by omega⟩
    obtain ⟨n, hn⟩ : ∃ n, leastTo s.g l (want - s.got) m = n := ⟨_, rfl⟩
    have hm1 : l.length - 1 = m := by omega
    rw [hm1, hn, hm] at hls
    show Code.wpIn _ _ _ _ _ _ _
    rw [hl, hm]
    have Hm : Aside (l.length = m + 1) := hm
    have Hn : Aside (leastTo s.g l (want - s.got) (l.length - 1) = n) := (show _ = _ by rw [hm1, hn])
    have hm2 : 1 ≤ m ∧ m ≤ 15 := by omega
    have HW := Lib.hid hwayS; have Hway := Lib.hid hway; have HI := Lib.hid hI; have HY := Lib.hid hyoung; have HLS := Lib.hid hls
    clear hl hm hn hm1 hwayS hway hI hyoung hls hne hsh hd17 hlen hlen2
    gi_wp2
    refine ⟨trivial, Calls.round (HLS.out.mono ?_)⟩
    rintro e W2 ⟨rfl, hB2⟩
    gi_wp2
    have hM0 := HI.out.mem.below hB2
    have hy0 : Aside (w.heap.size + 8 ≤ k ∧ ∀ v, W2.cell? ⟨w.heap.size + 2, 0, none⟩ = some v → v.ownBlock ≠ some k) := young_row HY.out hM0 hB2
    have hway2 : Aside (WayAt W2 k l) := ⟨Nat.lt_of_lt_of_le Hway.out.1 hB2.size, fun j p hp => (hB2.cell (p := ⟨k, j, none⟩) Hway.out.1).trans (Hway.out.2 j p hp)⟩
    have hko : Aside (KeepsOthers W W2) := KeepsOthers.chg (S := []) (Chg.of_below hB2) (by simp)
    have hM1 : Aside (RMem w f t want (pushTo s.g l n 0) s.got (s.ps ++ flowsTo l n 0) W2) := (show RMem _ _ _ _ _ _ _ _ by simpa [pushTo, flowsTo] using hM0)
    clear hM0 c0 c1 c3
    gi_loopg [12, 31] m (fun gg s12 s31 wr => ∃ i : Nat, i ≤ m ∧ m - i ≤ gg ∧ s31 = .int .i64 i ∧ Aside (RMem w f t want (pushTo s.g l n i) s.got (s.ps ++ flowsTo l n i) wr) ∧ Aside (WayAt wr k l) ∧ Aside (KeepsOthers W wr) ∧ Aside (w.heap.size + 8 ≤ k ∧ ∀ v, wr.cell? ⟨w.heap.size + 2, 0, none⟩ = some v → v.ownBlock ≠ some k))
    case atStart => exact ⟨0, by omega, by omega, rfl, hM1, hway2, hko, hy0⟩
    case round =>
      clear hM1 hway2 hko hy0
      obtain ⟨i, hi, hgg, rfl, RM, RW, RK, RY⟩ := hrel
      by_cases hlt : i < m
      · have hltz : (i : Int) < (m : Int) := by omega
        have hltz2 : (i : Int) < (m : Int) + 1 := by omega
        have hltz3 : (i : Int) + 1 < (m : Int) + 1 := by omega
        obtain ⟨x, hx⟩ : ∃ x, l.getD i 0 = x := ⟨_, rfl⟩
        obtain ⟨y, hy⟩ : ∃ y, l.getD (i + 1) 0 = y := ⟨_, rfl⟩
        have hxi : l[i]? = some x := by
          have := Hm.out
          rw [← hx, List.getD_eq_getElem?_getD, List.getElem?_eq_getElem (by omega)]; rfl
        have hyi : l[i + 1]? = some y := by
          have := Hm.out
          rw [← hy, List.getD_eq_getElem?_getD, List.getElem?_eq_getElem (by omega)]; rfl
        have hx16 := HW.out.near x (List.mem_of_getElem? hxi)
        have hy16 := HW.out.near y (List.mem_of_getElem? hyi)
        have hcx : wr.cell? ⟨k, i, none⟩ = some (.int .u8 x) := RW.out.2 i x hxi
        have hcy : wr.cell? ⟨k, i + 1, none⟩ = some (.int .u8 y) := RW.out.2 (i + 1) y hyi
        have hkl := RW.out.1
        have c0 := cell_one RM.out.c0
        have hsz := RM.out.size
        have hsz0 : w.heap.size < wr.heap.size := by omega
        have Hx := Lib.hid hx; have Hy := Lib.hid hy; have Hxi := Lib.hid hxi; have Hyi := Lib.hid hyi
        clear hx hy hxi hyi
        gi_wp2
        refine wpIn_region_round_tail 11 (by kernel_rfl) (by kernel_rfl) (by kernel_rfl) (by kernel_rfl) ?_
        simp only [List.take_succ_cons, List.take_zero, List.drop_succ_cons, List.drop_zero]
        (repeat (go_big_quiet_step (fail)))
        refine wpQuiet_nil ?_
        rintro _ ⟨W3, rfl⟩
        have hM3 := RM.out.below W3.b
        have hGB := pushTo_GB HI.out.gb l n i
        have hpu := gpush_any hM3.gr x y n (by omega) (by omega) (by have := hGB x y; have := hGB y x; omega) ⟨(hGB y x).1, by have := hGB x y; have := hGB y x; omega⟩
        have hWb := W3.b
        have HPU := Lib.hid hpu; clear hpu
        go_wp2_with (go_at_call 64; refine HPU.out.mono ?_; clear HPU; rintro e w4 ⟨rfl, hC4, hG4⟩)
        refine ⟨by simp, ?_⟩
        have hk4 : k ≠ w.heap.size + 4 := by have := RY.out.1; omega
        have hM4 : RMem w f t want (pushTo s.g l n (i + 1)) s.got (s.ps ++ flowsTo l n i) w4 := by
          have := hM3.graph hC4 hG4
          show RMem w f t want (gpush (pushTo s.g l n i) (l.getD i 0) (l.getD (i + 1) 0) n).2 _ _ _
          rw [Hx.out, Hy.out]; exact this
        have hW4 : WayAt w4 k l := by
          have hk3 : k < W3.w.heap.size := Nat.lt_of_lt_of_le hkl W3.b.size
          exact ⟨Nat.lt_of_lt_of_le hk3 hC4.size, fun j p hp => (hC4.cell hk3 (by simpa using hk4)).trans ((W3.b.cell (p := ⟨k, j, none⟩) hkl).trans (RW.out.2 j p hp))⟩
        have hK4 : KeepsOthers W w4 := RK.out.trans ((KeepsOthers.chg (S := []) (Chg.of_below W3.b) (by simp)).trans (KeepsOthers.chg hC4 (fun z hz => by (obtain rfl : z = w.heap.size + 4 := (by simpa using hz)); exact ⟨_, hM3.gr, rfl⟩)))
        have hY4 : ∀ v, w4.cell? ⟨w.heap.size + 2, 0, none⟩ = some v → v.ownBlock ≠ some k := fun v hv => by
          have hs3 : w.heap.size + 2 < W3.w.heap.size := by have := W3.b.size; omega
          refine RY.out.2 v ?_
          rw [← hv, hC4.cell hs3 (by simp)]
          exact (W3.b.cell (p := ⟨w.heap.size + 2, 0, none⟩) (by show w.heap.size + 2 < _; omega)).symm
        obtain ⟨L0, hL0⟩ : ∃ L0, s.ps ++ flowsTo l n i = L0 := ⟨_, rfl⟩
        have hlenL : (s.ps ++ flowsTo l n i).length ≤ 1400000 := by
          have := HI.out.many
          simp [flowsTo_len]; omega
        have hL1 : s.ps ++ flowsTo l n (i + 1) = L0 ++ ([⟨x, y, n⟩] : List Flow) := by rw [flowsTo_succ, ← List.append_assoc, hL0, Hx.out, Hy.out]
        rw [hL0] at hM4 hlenL
        obtain ⟨ad2, cc2, h2, hrow⟩ := hM4.c2
        obtain ⟨N0, hN0⟩ : ∃ N0, L0.length = N0 := ⟨_, rfl⟩
        rw [hN0] at h2 hrow hlenL
        obtain ⟨i0, hi0, iz0, iz1, iz2⟩ := info_parts infoFlow
        have hs4 := hM4.size
        have c8 : w4.cell? ⟨w.heap.size + 1 + 1, 0, none⟩ = some (.slice ad2 N0 cc2) := cell_one h2
        have hcx4 := hW4.2 i x Hxi.out
        have hcy4 := hW4.2 (i + 1) y Hyi.out
        have hk4l := hW4.1
        have hs8 : w.heap.size + 1 + 1 < w4.heap.size := by omega
        have hs9 : w.heap.size + 1 + 1 < w4.heap.size + 1 := by omega
        have hk9 : k < w4.heap.size + 1 := by omega
        have hne8 : (Value.slice ad2 N0 cc2).ownBlock ≠ some (w.heap.size + 2) := fun e => by have := (hrow.lt _ e).1; omega
        have kcell : ∀ (g2 cap2 : Nat) (w5 : World), w5.ownsRow (w.heap.size + 8) 104 3 (.slice (some ⟨g2, 0, none⟩) (N0 + 1) cap2) (N0 + 1) (L0.flatMap Flow.enc ++ [.int .u8 x, .int .u8 y, .int .i64 n]) → (w4.drew.alloc (.cells #[.int .u8 x, .int .u8 y, .int .i64 n] 104)).grownBy w5 (Value.slice ad2 N0 cc2).ownBlock → ((Value.slice ad2 N0 cc2).ownBlock = some g2 ∨ g2 = (w4.drew.alloc (.cells #[.int .u8 x, .int .u8 y, .int .i64 n] 104)).heap.size) → g2 < w5.heap.size → w5.cell? ⟨w.heap.size + 1 + 1, 0, none⟩ = some (.slice ad2 N0 cc2) := fun g2 cap2 w5 _ hgrow _ _ =>
          (hgrow.cell_far ⟨w.heap.size + 2, 0, none⟩ (by show w.heap.size + 2 < _; simp; omega) (fun e => hne8 e.symm)).trans (Lib.cell?_alloc_some _ c8)
        have kfree : ∀ (g2 cap2 : Nat) (w5 : World), w5.ownsRow (w.heap.size + 8) 104 3 (.slice (some ⟨g2, 0, none⟩) (N0 + 1) cap2) (N0 + 1) (L0.flatMap Flow.enc ++ [.int .u8 x, .int .u8 y, .int .i64 n]) → (w4.drew.alloc (.cells #[.int .u8 x, .int .u8 y, .int .i64 n] 104)).grownBy w5 (Value.slice ad2 N0 cc2).ownBlock → ((Value.slice ad2 N0 cc2).ownBlock = some g2 ∨ g2 = (w4.drew.alloc (.cells #[.int .u8 x, .int .u8 y, .int .i64 n] 104)).heap.size) → g2 < w5.heap.size → w5.frozen? ⟨w.heap.size + 1 + 1, 0, none⟩ = false := fun g2 cap2 w5 _ hgrow _ _ => by
          refine (hgrow.frozen_far ⟨w.heap.size + 2, 0, none⟩ (by show w.heap.size + 2 < _; simp; omega) (fun e => hne8 e.symm)).trans ?_
          exact free_one ((Below.heap_alloc w4.drew _ _ (by show w.heap.size + 2 < w4.heap.size; omega)).trans h2) 0
        have fin : ∀ (g2 cap2 : Nat) (w5 : World), w5.ownsRow (w.heap.size + 8) 104 3 (.slice (some ⟨g2, 0, none⟩) (N0 + 1) cap2) (N0 + 1) (L0.flatMap Flow.enc ++ [.int .u8 x, .int .u8 y, .int .i64 n]) → (w4.drew.alloc (.cells #[.int .u8 x, .int .u8 y, .int .i64 n] 104)).grownBy w5 (Value.slice ad2 N0 cc2).ownBlock → ((Value.slice ad2 N0 cc2).ownBlock = some g2 ∨ g2 = (w4.drew.alloc (.cells #[.int .u8 x, .int .u8 y, .int .i64 n] 104)).heap.size) → g2 < w5.heap.size →
            ∃ i' : Nat, i' ≤ m ∧ m - i' ≤ m - (i + 1) ∧ Value.int .i64 ((i : Int) + 1) = .int .i64 (i' : Int) ∧ Aside (RMem w f t want (pushTo s.g l n i') s.got (s.ps ++ flowsTo l n i') (w5.setCell ⟨w.heap.size + 2, 0, none⟩ (.slice (some ⟨g2, 0, none⟩) (N0 + 1) cap2))) ∧ Aside (WayAt (w5.setCell ⟨w.heap.size + 2, 0, none⟩ (.slice (some ⟨g2, 0, none⟩) (N0 + 1) cap2)) k l) ∧ Aside (KeepsOthers W (w5.setCell ⟨w.heap.size + 2, 0, none⟩ (.slice (some ⟨g2, 0, none⟩) (N0 + 1) cap2))) ∧ Aside (w.heap.size + 8 ≤ k ∧ ∀ v, (w5.setCell ⟨w.heap.size + 2, 0, none⟩ (.slice (some ⟨g2, 0, none⟩) (N0 + 1) cap2)).cell? ⟨w.heap.size + 2, 0, none⟩ = some v → v.ownBlock ≠ some k) := fun g2 cap2 w5 hown hgrow hwh hlt5 => by
          have hkn : (Value.slice ad2 N0 cc2).ownBlock ≠ some k := hY4 _ (cell_one h2)
          refine ⟨i + 1, by omega, by omega, by go_num, ?_, ?_, ?_, ?_⟩
          · have hb5 : Below (w.heap.size + 8) w4 w5 := by
              have h0 : Below (w.heap.size + 8) w4 (w4.drew.alloc (.cells #[.int .u8 x, .int .u8 y, .int .i64 n] 104)) := ((Below.refl _ w4).drew).alloc (by show _ ≤ w4.heap.size; omega) _
              exact h0.grown hgrow (by show w.heap.size + 8 ≤ (w4.drew.alloc _).heap.size; simp; omega) (fun z e => (hrow.lt z e).1)
            show RMem _ _ _ _ _ _ _ _
            rw [hL1]
            have hr5 : w5.ownsRow (w.heap.size + 8) 104 3 (.slice (some ⟨g2, 0, none⟩) (L0 ++ ([⟨x, y, n⟩] : List Flow)).length cap2) (L0 ++ ([⟨x, y, n⟩] : List Flow)).length ((L0 ++ ([⟨x, y, n⟩] : List Flow)).flatMap Flow.enc) := by
              rw [List.length_append, hN0, List.flatMap_append]
              simpa [Flow.enc] using hown
            have := hM4.setPs hb5 hr5
            rw [List.length_append, hN0] at this
            exact this
          · refine ⟨by have := hgrow.size; simp at this ⊢; omega, fun j p hp => ?_⟩
            rw [show (w5.setCell ⟨w.heap.size + 2, 0, none⟩ (.slice (some ⟨g2, 0, none⟩) (N0 + 1) cap2)).cell? ⟨k, j, none⟩ = w5.cell? ⟨k, j, none⟩ from World.cell?_of_block (w := w5) (a := ⟨k, j, none⟩) (Below.heap_setCell _ _ _ _ (by have := RY.out.1; show k ≠ w.heap.size + 2; omega))]
            exact (hgrow.cell_far ⟨k, j, none⟩ (by show k < _; simp; omega) (fun e => hkn e.symm)).trans (Lib.cell?_alloc_some _ (hW4.2 j p hp))
          · refine hK4.trans ((KeepsOthers.chg (S := []) (Chg.of_below (((Below.refl _ w4).drew).alloc (o := .cells #[.int .u8 x, .int .u8 y, .int .i64 n] 104) (Nat.le_refl _) )) (by simp)).trans ((KeepsOthers.of_grownBy hgrow (fun z o e ho => ?_)).trans (KeepsOthers.setCell _ _ _)))
            rcases hrow.2 with ⟨e0, _⟩ | ⟨gg, cap, cur, e0, _, hgg, _⟩
            · rw [e0] at e; cases e
            · rw [e0] at e
              cases e
              have hgl := lt_of_block hgg
              rw [Below.heap_alloc w4.drew _ _ (by show gg < w4.heap.size; exact hgl)] at ho
              have ho' : w4.heap[gg]? = some o := ho
              rw [hgg] at ho'; cases ho'; rfl
          · refine ⟨RY.out.1, fun v hv => ?_⟩
            have h5 : w5.heap[w.heap.size + 2]? = some (.cells #[.slice ad2 N0 cc2] 100 (0, 0)) := (hgrow.block _ (by simp; omega) (fun e => hne8 e.symm)).trans ((Below.heap_alloc w4.drew _ _ (by show w.heap.size + 2 < w4.heap.size; omega)).trans h2)
            rw [cell_one (set_one h5 _)] at hv
            cases hv
            intro e
            simp only [Value.ownBlock, Option.some.injEq] at e
            rcases hwh with h6 | h6
            · exact hkn (by rw [h6, e])
            · simp at h6; omega
        have Hrow := Lib.hid hrow; have HL1 := Lib.hid hL1
        clear hrow hL1 hL0 hN0 hM4 hW4 hK4 hY4 hM3 hG4 hC4 h2 hcx hcy c0
        have HOC : Hid (∀ u ∈ [Value.int .u8 x, .int .u8 y, .int .i64 n], u.oneCell' = true) := by simp [Hid, Value.oneCell']
        have HML : Hid (N0 + 1 ≤ maxLen) := by show N0 + 1 ≤ maxLen; simp only [maxLen]; omega
        have HBY : Hid ((N0 + 1) * 16 ≤ 140737488355328) := by show _ ≤ _; omega
        have HBS : Hid (w.heap.size + 8 ≤ (w4.drew.alloc (.cells #[.int .u8 x, .int .u8 y, .int .i64 n] 104)).heap.size) := by show _ ≤ _; simp; omega
        gi_wp2
        have hwr : IntKind.i64.wrap ((i : Int) + 1) = (i : Int) + 1 := IntWalk.i64_in _ (by omega)
        have h01 : (0 : Int) ≤ (i : Int) + 1 := by omega
        have htn : ((i : Int) + 1).toNat = i + 1 := by omega
        refine wpIn_region_round_any (by kernel_rfl) (by kernel_rfl) (fun KK hKK => ?_)
        refine wpAny_take (i := 1) (v := ?v1) rfl (by kernel_rfl) (by kernel_rfl) (by kernel_rfl) (fun _ _ _ h => by cases h.1) (Or.inl ⟨by rfl, ?y1⟩) ?r1
        case y1 => (intro w0; go_simp; try with_reducible rfl)
        refine wpAny_take (i := 2) (v := ?v2) rfl (by kernel_rfl) (by kernel_rfl) (by kernel_rfl) (fun _ _ _ h => by cases h.1) (Or.inl ⟨by rfl, ?y2⟩) ?r2
        case y2 => (intro w0; go_simp; try with_reducible rfl)
        refine wpAny_take (i := 3) (v := ?v3) rfl (by kernel_rfl) (by kernel_rfl) (by kernel_rfl) (fun _ _ _ h => by cases h.1) (Or.inl ⟨by rfl, ?y3⟩) ?r3
        case y3 => (intro w0; go_simp; try with_reducible rfl)
        refine wpAny_take (i := 5) (v := ?v4) rfl (by kernel_rfl) (by kernel_rfl) (by kernel_rfl) (fun _ _ _ h => by cases h.1) (Or.inl ⟨by rfl, ?y4⟩) ?r4
        case y4 => (intro w0; go_simp; try with_reducible rfl)
        refine wpAny_take (i := 6) (v := ?v5) rfl (by kernel_rfl) (by kernel_rfl) (by kernel_rfl) (fun _ _ _ h => by cases h.1) (Or.inl ⟨by rfl, ?y5⟩) ?r5
        case y5 => (intro w0; go_simp; try with_reducible rfl)
        refine wpAny_take (i := 7) (v := ?v6) rfl (by kernel_rfl) (by kernel_rfl) (by kernel_rfl) (fun _ _ _ h => by cases h.1) (Or.inl ⟨by rfl, ?y6⟩) ?r6
        case y6 => (intro w0; go_simp; try with_reducible rfl)
        refine wpAny_take (i := 8) (v := ?v7) rfl (by kernel_rfl) (by kernel_rfl) (by kernel_rfl) (fun _ _ _ h => by cases h.1) (Or.inl ⟨by rfl, ?y7⟩) ?r7
        case y7 => (intro w0; go_simp; try with_reducible rfl)
        refine wpAny_take (i := 10) (v := ?v8) rfl (by kernel_rfl) (by kernel_rfl) (by kernel_rfl) (fun _ _ _ h => by cases h.1) (Or.inl ⟨by rfl, ?y8⟩) ?r8
        case y8 => (intro w0; go_simp; try with_reducible rfl)
        refine wpAny_ready (rs := [0, 4, 9]) (by kernel_rfl) (by simp) ?_
        refine AllReady.cons rfl (fun K1 hK1 => ?_) ?_
        · go_simp
          refine hK1 _ _ ?_; clear hK1 K1
          refine wpAny_ready (rs := [4, 9]) (by kernel_rfl) (by simp) ?_
          refine AllReady.cons rfl (fun K1 hK1 => ?_) ?_
          · go_simp
            refine hK1 _ _ ?_; clear hK1 K1
            refine wpAny_ready (rs := [9]) (by kernel_rfl) (by simp) ?_
            refine AllReady.cons rfl (fun K1 hK1 => ?_) ?_
            · go_simp
              refine hK1 _ _ ?_; clear hK1 K1
              refine wpAny_take (i := 11) (v := ?v9) rfl (by kernel_rfl) (by kernel_rfl) (by kernel_rfl) (fun _ _ _ h => by cases h.1) (Or.inl ⟨by rfl, ?y9⟩) ?r9
              case y9 => (intro w0; go_simp; try with_reducible rfl)
              refine wpAny_ready (rs := [12]) (by kernel_rfl) (by simp) ?_
              refine AllReady.cons rfl (fun K1 hK1 => ?_) ?_
              · go_simp
                refine hK1 _ _ ?_; clear hK1 K1
                refine wpAny_ready (rs := [13]) (by kernel_rfl) (by simp) ?_
                refine AllReady.cons rfl (fun K1 hK1 => ?_) ?_
                · refine step_append_lies _ rfl (.tmp 46) (.tmp 58) 100 rfl (w.heap.size + 8) 104 i0 _ 3 16 Try.underlying100 hi0 iz0 iz1 iz2 rfl (by decide) (.slice ad2 N0 cc2) N0 (L0.flatMap Flow.enc) rfl (World.ownsRow.alloc (w := w4.drew) Hrow.out _) ⟨w4.heap.size, 0, none⟩ 1 1 [.int .u8 x, .int .u8 y, .int .i64 n] rfl rfl (World.news_of_block (alloc_new w4.drew _)) HOC.out (by decide) HML.out HBY.out HBS.out _ rfl ?_
                  intro g2 cap2 w5 hown hgrow hwh hlt5
                  have k8 := kcell g2 cap2 w5 hown hgrow hwh hlt5
                  have k8f := kfree g2 cap2 w5 hown hgrow hwh hlt5
                  try go_simp
                  refine hK1 _ _ ?_; clear hK1 K1
                  refine wpAny_ready (rs := [14]) (by kernel_rfl) (by simp) ?_
                  refine AllReady.cons rfl (fun K1 hK1 => ?_) ?_
                  · go_simp
                    refine hK1 _ _ ?_; clear hK1 K1
                    refine wpAny_done (by kernel_rfl) ?_ _
                    refine ⟨rfl, hKK _ _ ?_⟩
                    clear hKK hwr h01 htn
                    gi_wp2
                    go_roundg (m - (i + 1))
                    case measure => omega
                    case rel => exact fin g2 cap2 w5 hown hgrow hwh hlt5
                  exact AllReady.nil
                exact AllReady.nil
              exact AllReady.nil
            exact AllReady.nil
          refine AllReady.cons rfl (fun K1 hK1 => ?_) ?_
          · go_simp
            refine hK1 _ _ ?_; clear hK1 K1
            refine wpAny_ready (rs := [4]) (by kernel_rfl) (by simp) ?_
            refine AllReady.cons rfl (fun K1 hK1 => ?_) ?_
            · go_simp
              refine hK1 _ _ ?_; clear hK1 K1
              refine wpAny_take (i := 11) (v := ?v10) rfl (by kernel_rfl) (by kernel_rfl) (by kernel_rfl) (fun _ _ _ h => by cases h.1) (Or.inl ⟨by rfl, ?y10⟩) ?r10
              case y10 => (intro w0; go_simp; try with_reducible rfl)
              refine wpAny_ready (rs := [12]) (by kernel_rfl) (by simp) ?_
              refine AllReady.cons rfl (fun K1 hK1 => ?_) ?_
              · go_simp
                refine hK1 _ _ ?_; clear hK1 K1
                refine wpAny_ready (rs := [13]) (by kernel_rfl) (by simp) ?_
                refine AllReady.cons rfl (fun K1 hK1 => ?_) ?_
                · refine step_append_lies _ rfl (.tmp 46) (.tmp 58) 100 rfl (w.heap.size + 8) 104 i0 _ 3 16 Try.underlying100 hi0 iz0 iz1 iz2 rfl (by decide) (.slice ad2 N0 cc2) N0 (L0.flatMap Flow.enc) rfl (World.ownsRow.alloc (w := w4.drew) Hrow.out _) ⟨w4.heap.size, 0, none⟩ 1 1 [.int .u8 x, .int .u8 y, .int .i64 n] rfl rfl (World.news_of_block (alloc_new w4.drew _)) HOC.out (by decide) HML.out HBY.out HBS.out _ rfl ?_
                  intro g2 cap2 w5 hown hgrow hwh hlt5
                  have k8 := kcell g2 cap2 w5 hown hgrow hwh hlt5
                  have k8f := kfree g2 cap2 w5 hown hgrow hwh hlt5
                  try go_simp
                  refine hK1 _ _ ?_; clear hK1 K1
                  refine wpAny_ready (rs := [14]) (by kernel_rfl) (by simp) ?_
                  refine AllReady.cons rfl (fun K1 hK1 => ?_) ?_
                  · go_simp
                    refine hK1 _ _ ?_; clear hK1 K1
                    refine wpAny_done (by kernel_rfl) ?_ _
                    refine ⟨rfl, hKK _ _ ?_⟩
                    clear hKK hwr h01 htn
                    gi_wp2
                    go_roundg (m - (i + 1))
                    case measure => omega
                    case rel => exact fin g2 cap2 w5 hown hgrow hwh hlt5
                  exact AllReady.nil
                exact AllReady.nil
              exact AllReady.nil
            exact AllReady.nil
          exact AllReady.nil
        refine AllReady.cons rfl (fun K1 hK1 => ?_) ?_
        · go_simp
          refine hK1 _ _ ?_; clear hK1 K1
          refine wpAny_ready (rs := [0, 9]) (by kernel_rfl) (by simp) ?_
          refine AllReady.cons rfl (fun K1 hK1 => ?_) ?_
          · go_simp
            refine hK1 _ _ ?_; clear hK1 K1
            refine wpAny_ready (rs := [9]) (by kernel_rfl) (by simp) ?_
            refine AllReady.cons rfl (fun K1 hK1 => ?_) ?_
            · go_simp
              refine hK1 _ _ ?_; clear hK1 K1
              refine wpAny_take (i := 11) (v := ?v11) rfl (by kernel_rfl) (by kernel_rfl) (by kernel_rfl) (fun _ _ _ h => by cases h.1) (Or.inl ⟨by rfl, ?y11⟩) ?r11
              case y11 => (intro w0; go_simp; try with_reducible rfl)
              refine wpAny_ready (rs := [12]) (by kernel_rfl) (by simp) ?_
              refine AllReady.cons rfl (fun K1 hK1 => ?_) ?_
              · go_simp
                refine hK1 _ _ ?_; clear hK1 K1
                refine wpAny_ready (rs := [13]) (by kernel_rfl) (by simp) ?_
                refine AllReady.cons rfl (fun K1 hK1 => ?_) ?_
                · refine step_append_lies _ rfl (.tmp 46) (.tmp 58) 100 rfl (w.heap.size + 8) 104 i0 _ 3 16 Try.underlying100 hi0 iz0 iz1 iz2 rfl (by decide) (.slice ad2 N0 cc2) N0 (L0.flatMap Flow.enc) rfl (World.ownsRow.alloc (w := w4.drew) Hrow.out _) ⟨w4.heap.size, 0, none⟩ 1 1 [.int .u8 x, .int .u8 y, .int .i64 n] rfl rfl (World.news_of_block (alloc_new w4.drew _)) HOC.out (by decide) HML.out HBY.out HBS.out _ rfl ?_
                  intro g2 cap2 w5 hown hgrow hwh hlt5
                  have k8 := kcell g2 cap2 w5 hown hgrow hwh hlt5
                  have k8f := kfree g2 cap2 w5 hown hgrow hwh hlt5
                  try go_simp
                  refine hK1 _ _ ?_; clear hK1 K1
                  refine wpAny_ready (rs := [14]) (by kernel_rfl) (by simp) ?_
                  refine AllReady.cons rfl (fun K1 hK1 => ?_) ?_
                  · go_simp
                    refine hK1 _ _ ?_; clear hK1 K1
                    refine wpAny_done (by kernel_rfl) ?_ _
                    refine ⟨rfl, hKK _ _ ?_⟩
                    clear hKK hwr h01 htn
                    gi_wp2
                    go_roundg (m - (i + 1))
                    case measure => omega
                    case rel => exact fin g2 cap2 w5 hown hgrow hwh hlt5
                  exact AllReady.nil
                exact AllReady.nil
              exact AllReady.nil
            exact AllReady.nil
          refine AllReady.cons rfl (fun K1 hK1 => ?_) ?_
          · go_simp
            refine hK1 _ _ ?_; clear hK1 K1
            refine wpAny_take (i := 11) (v := ?v12) rfl (by kernel_rfl) (by kernel_rfl) (by kernel_rfl) (fun _ _ _ h => by cases h.1) (Or.inl ⟨by rfl, ?y12⟩) ?r12
            case y12 => (intro w0; go_simp; try with_reducible rfl)
            refine wpAny_ready (rs := [0, 12]) (by kernel_rfl) (by simp) ?_
            refine AllReady.cons rfl (fun K1 hK1 => ?_) ?_
            · go_simp
              refine hK1 _ _ ?_; clear hK1 K1
              refine wpAny_ready (rs := [12]) (by kernel_rfl) (by simp) ?_
              refine AllReady.cons rfl (fun K1 hK1 => ?_) ?_
              · go_simp
                refine hK1 _ _ ?_; clear hK1 K1
                refine wpAny_ready (rs := [13]) (by kernel_rfl) (by simp) ?_
                refine AllReady.cons rfl (fun K1 hK1 => ?_) ?_
                · refine step_append_lies _ rfl (.tmp 46) (.tmp 58) 100 rfl (w.heap.size + 8) 104 i0 _ 3 16 Try.underlying100 hi0 iz0 iz1 iz2 rfl (by decide) (.slice ad2 N0 cc2) N0 (L0.flatMap Flow.enc) rfl (World.ownsRow.alloc (w := w4.drew) Hrow.out _) ⟨w4.heap.size, 0, none⟩ 1 1 [.int .u8 x, .int .u8 y, .int .i64 n] rfl rfl (World.news_of_block (alloc_new w4.drew _)) HOC.out (by decide) HML.out HBY.out HBS.out _ rfl ?_
                  intro g2 cap2 w5 hown hgrow hwh hlt5
                  have k8 := kcell g2 cap2 w5 hown hgrow hwh hlt5
                  have k8f := kfree g2 cap2 w5 hown hgrow hwh hlt5
                  try go_simp
                  refine hK1 _ _ ?_; clear hK1 K1
                  refine wpAny_ready (rs := [14]) (by kernel_rfl) (by simp) ?_
                  refine AllReady.cons rfl (fun K1 hK1 => ?_) ?_
                  · go_simp
                    refine hK1 _ _ ?_; clear hK1 K1
                    refine wpAny_done (by kernel_rfl) ?_ _
                    refine ⟨rfl, hKK _ _ ?_⟩
                    clear hKK hwr h01 htn
                    gi_wp2
                    go_roundg (m - (i + 1))
                    case measure => omega
                    case rel => exact fin g2 cap2 w5 hown hgrow hwh hlt5
                  exact AllReady.nil
                exact AllReady.nil
              exact AllReady.nil
            refine AllReady.cons rfl (fun K1 hK1 => ?_) ?_
            · go_simp
              refine hK1 _ _ ?_; clear hK1 K1
              refine wpAny_ready (rs := [0]) (by kernel_rfl) (by simp) ?_
              refine AllReady.cons rfl (fun K1 hK1 => ?_) ?_
              · go_simp
                refine hK1 _ _ ?_; clear hK1 K1
                refine wpAny_ready (rs := [13]) (by kernel_rfl) (by simp) ?_
                refine AllReady.cons rfl (fun K1 hK1 => ?_) ?_
                · refine step_append_lies _ rfl (.tmp 46) (.tmp 58) 100 rfl (w.heap.size + 8) 104 i0 _ 3 16 Try.underlying100 hi0 iz0 iz1 iz2 rfl (by decide) (.slice ad2 N0 cc2) N0 (L0.flatMap Flow.enc) rfl (World.ownsRow.alloc (w := w4.drew) Hrow.out _) ⟨w4.heap.size, 0, none⟩ 1 1 [.int .u8 x, .int .u8 y, .int .i64 n] rfl rfl (World.news_of_block (alloc_new w4.drew _)) HOC.out (by decide) HML.out HBY.out HBS.out _ rfl ?_
                  intro g2 cap2 w5 hown hgrow hwh hlt5
                  have k8 := kcell g2 cap2 w5 hown hgrow hwh hlt5
                  have k8f := kfree g2 cap2 w5 hown hgrow hwh hlt5
                  try go_simp
                  refine hK1 _ _ ?_; clear hK1 K1
                  refine wpAny_ready (rs := [14]) (by kernel_rfl) (by simp) ?_
                  refine AllReady.cons rfl (fun K1 hK1 => ?_) ?_
                  · go_simp
                    refine hK1 _ _ ?_; clear hK1 K1
                    refine wpAny_done (by kernel_rfl) ?_ _
                    refine ⟨rfl, hKK _ _ ?_⟩
                    clear hKK hwr h01 htn
                    gi_wp2
                    go_roundg (m - (i + 1))
                    case measure => omega
                    case rel => exact fin g2 cap2 w5 hown hgrow hwh hlt5
                  exact AllReady.nil
                exact AllReady.nil
              exact AllReady.nil
            exact AllReady.nil
          exact AllReady.nil
        refine AllReady.cons rfl (fun K1 hK1 => ?_) ?_
        · go_simp
          refine hK1 _ _ ?_; clear hK1 K1
          refine wpAny_ready (rs := [0, 4]) (by kernel_rfl) (by simp) ?_
          refine AllReady.cons rfl (fun K1 hK1 => ?_) ?_
          · go_simp
            refine hK1 _ _ ?_; clear hK1 K1
            refine wpAny_ready (rs := [4]) (by kernel_rfl) (by simp) ?_
            refine AllReady.cons rfl (fun K1 hK1 => ?_) ?_
            · go_simp
              refine hK1 _ _ ?_; clear hK1 K1
              refine wpAny_take (i := 11) (v := ?v13) rfl (by kernel_rfl) (by kernel_rfl) (by kernel_rfl) (fun _ _ _ h => by cases h.1) (Or.inl ⟨by rfl, ?y13⟩) ?r13
              case y13 => (intro w0; go_simp; try with_reducible rfl)
              refine wpAny_ready (rs := [12]) (by kernel_rfl) (by simp) ?_
              refine AllReady.cons rfl (fun K1 hK1 => ?_) ?_
              · go_simp
                refine hK1 _ _ ?_; clear hK1 K1
                refine wpAny_ready (rs := [13]) (by kernel_rfl) (by simp) ?_
                refine AllReady.cons rfl (fun K1 hK1 => ?_) ?_
                · refine step_append_lies _ rfl (.tmp 46) (.tmp 58) 100 rfl (w.heap.size + 8) 104 i0 _ 3 16 Try.underlying100 hi0 iz0 iz1 iz2 rfl (by decide) (.slice ad2 N0 cc2) N0 (L0.flatMap Flow.enc) rfl (World.ownsRow.alloc (w := w4.drew) Hrow.out _) ⟨w4.heap.size, 0, none⟩ 1 1 [.int .u8 x, .int .u8 y, .int .i64 n] rfl rfl (World.news_of_block (alloc_new w4.drew _)) HOC.out (by decide) HML.out HBY.out HBS.out _ rfl ?_
                  intro g2 cap2 w5 hown hgrow hwh hlt5
                  have k8 := kcell g2 cap2 w5 hown hgrow hwh hlt5
                  have k8f := kfree g2 cap2 w5 hown hgrow hwh hlt5
                  try go_simp
                  refine hK1 _ _ ?_; clear hK1 K1
                  refine wpAny_ready (rs := [14]) (by kernel_rfl) (by simp) ?_
                  refine AllReady.cons rfl (fun K1 hK1 => ?_) ?_
                  · go_simp
                    refine hK1 _ _ ?_; clear hK1 K1
                    refine wpAny_done (by kernel_rfl) ?_ _
                    refine ⟨rfl, hKK _ _ ?_⟩
                    clear hKK hwr h01 htn
                    gi_wp2
                    go_roundg (m - (i + 1))
                    case measure => omega
                    case rel => exact fin g2 cap2 w5 hown hgrow hwh hlt5
                  exact AllReady.nil
                exact AllReady.nil
              exact AllReady.nil
            exact AllReady.nil
          refine AllReady.cons rfl (fun K1 hK1 => ?_) ?_
          · go_simp
            refine hK1 _ _ ?_; clear hK1 K1
            refine wpAny_take (i := 11) (v := ?v14) rfl (by kernel_rfl) (by kernel_rfl) (by kernel_rfl) (fun _ _ _ h => by cases h.1) (Or.inl ⟨by rfl, ?y14⟩) ?r14
            case y14 => (intro w0; go_simp; try with_reducible rfl)
            refine wpAny_ready (rs := [0, 12]) (by kernel_rfl) (by simp) ?_
            refine AllReady.cons rfl (fun K1 hK1 => ?_) ?_
            · go_simp
              refine hK1 _ _ ?_; clear hK1 K1
              refine wpAny_ready (rs := [12]) (by kernel_rfl) (by simp) ?_
              refine AllReady.cons rfl (fun K1 hK1 => ?_) ?_
              · go_simp
                refine hK1 _ _ ?_; clear hK1 K1
                refine wpAny_ready (rs := [13]) (by kernel_rfl) (by simp) ?_
                refine AllReady.cons rfl (fun K1 hK1 => ?_) ?_
                · refine step_append_lies _ rfl (.tmp 46) (.tmp 58) 100 rfl (w.heap.size + 8) 104 i0 _ 3 16 Try.underlying100 hi0 iz0 iz1 iz2 rfl (by decide) (.slice ad2 N0 cc2) N0 (L0.flatMap Flow.enc) rfl (World.ownsRow.alloc (w := w4.drew) Hrow.out _) ⟨w4.heap.size, 0, none⟩ 1 1 [.int .u8 x, .int .u8 y, .int .i64 n] rfl rfl (World.news_of_block (alloc_new w4.drew _)) HOC.out (by decide) HML.out HBY.out HBS.out _ rfl ?_
                  intro g2 cap2 w5 hown hgrow hwh hlt5
                  have k8 := kcell g2 cap2 w5 hown hgrow hwh hlt5
                  have k8f := kfree g2 cap2 w5 hown hgrow hwh hlt5
                  try go_simp
                  refine hK1 _ _ ?_; clear hK1 K1
                  refine wpAny_ready (rs := [14]) (by kernel_rfl) (by simp) ?_
                  refine AllReady.cons rfl (fun K1 hK1 => ?_) ?_
                  · go_simp
                    refine hK1 _ _ ?_; clear hK1 K1
                    refine wpAny_done (by kernel_rfl) ?_ _
                    refine ⟨rfl, hKK _ _ ?_⟩
                    clear hKK hwr h01 htn
                    gi_wp2
                    go_roundg (m - (i + 1))
                    case measure => omega
                    case rel => exact fin g2 cap2 w5 hown hgrow hwh hlt5
                  exact AllReady.nil
                exact AllReady.nil
              exact AllReady.nil
            refine AllReady.cons rfl (fun K1 hK1 => ?_) ?_
            · go_simp
              refine hK1 _ _ ?_; clear hK1 K1
              refine wpAny_ready (rs := [0]) (by kernel_rfl) (by simp) ?_
              refine AllReady.cons rfl (fun K1 hK1 => ?_) ?_
              · go_simp
                refine hK1 _ _ ?_; clear hK1 K1
                refine wpAny_ready (rs := [13]) (by kernel_rfl) (by simp) ?_
                refine AllReady.cons rfl (fun K1 hK1 => ?_) ?_
                · refine step_append_lies _ rfl (.tmp 46) (.tmp 58) 100 rfl (w.heap.size + 8) 104 i0 _ 3 16 Try.underlying100 hi0 iz0 iz1 iz2 rfl (by decide) (.slice ad2 N0 cc2) N0 (L0.flatMap Flow.enc) rfl (World.ownsRow.alloc (w := w4.drew) Hrow.out _) ⟨w4.heap.size, 0, none⟩ 1 1 [.int .u8 x, .int .u8 y, .int .i64 n] rfl rfl (World.news_of_block (alloc_new w4.drew _)) HOC.out (by decide) HML.out HBY.out HBS.out _ rfl ?_
                  intro g2 cap2 w5 hown hgrow hwh hlt5
                  have k8 := kcell g2 cap2 w5 hown hgrow hwh hlt5
                  have k8f := kfree g2 cap2 w5 hown hgrow hwh hlt5
                  try go_simp
                  refine hK1 _ _ ?_; clear hK1 K1
                  refine wpAny_ready (rs := [14]) (by kernel_rfl) (by simp) ?_
                  refine AllReady.cons rfl (fun K1 hK1 => ?_) ?_
                  · go_simp
                    refine hK1 _ _ ?_; clear hK1 K1
                    refine wpAny_done (by kernel_rfl) ?_ _
                    refine ⟨rfl, hKK _ _ ?_⟩
                    clear hKK hwr h01 htn
                    gi_wp2
                    go_roundg (m - (i + 1))
                    case measure => omega
                    case rel => exact fin g2 cap2 w5 hown hgrow hwh hlt5
                  exact AllReady.nil
                exact AllReady.nil
              exact AllReady.nil
            exact AllReady.nil
          exact AllReady.nil
        exact AllReady.nil
      · have hltz : ¬ (i : Int) < (m : Int) := by omega
        obtain rfl : i = m := by omega
        have hm1 : l.length - 1 = i := by have := Hm.out; omega
        have hst : s.step f t want = ⟨pushTo s.g l n i, s.got + n, s.ps ++ flowsTo l n i⟩ := by
          unfold FS.step FS.n
          rw [Hl.out, Hn.out, hm1]
        have hpos : ∀ j, j < l.length - 1 → 0 < capOf s.g (l.getD j 0) (l.getD (j + 1) 0) := fun j hj => of_decide_eq_true (HW.out.edge j (by omega)).1
        have hn1 : 1 ≤ n := by rw [← Hn.out]; exact leastTo_pos (by omega) _ hpos
        have hn2 : n ≤ want - s.got := by rw [← Hn.out]; exact (leastTo_le _ _ _ _).1
        have hne : short s.g f t ≠ [] := by rw [Hl.out]; intro e; have := Hm.out; rw [e] at this; simp at this
        have hph : n ≠ want - s.got → phi (pushTo s.g l n i) t < phi s.g t := fun hx => by
          have := phi_lt HW.out (want := want - s.got) (n := n) (by omega) Hn.out.symm hx
          rw [hm1] at this; exact this
        have hset := RM.out.setGot (s.got + n)
        have hmany := HI.out.many
        have hgb := pushTo_GB HI.out.gb l n i
        have hrc := HI.out.reach
        have hko2 : KeepsOthers W (wr.setCell ⟨w.heap.size + 3, 0, none⟩ (.int .i64 (s.got + n))) := RK.out.trans (KeepsOthers.setCell _ _ _)
        have hl15 : (s.ps ++ flowsTo l n i).length = s.ps.length + i := by simp [flowsTo_len]
        have c3 : wr.cell? ⟨w.heap.size + 1 + 1 + 1, 0, none⟩ = some (.int .i64 s.got) := cell_one RM.out.c3
        have f3 : wr.frozen? ⟨w.heap.size + 1 + 1 + 1, 0, none⟩ = false := free_one RM.out.c3 0
        have c1 : wr.cell? ⟨w.heap.size + 1, 0, none⟩ = some (.int .i64 want) := cell_one RM.out.c1
        have hszr := RM.out.size
        have hs3 : w.heap.size + 1 + 1 + 1 < wr.heap.size := by omega
        by_cases heq : s.got + n = want
        · have hend : REnd w f t want ⟨G, 0, []⟩ (wr.setCell ⟨w.heap.size + 3, 0, none⟩ (.int .i64 (s.got + n))) :=
            ⟨s.step f t want, by rw [hst]; exact hset, by rw [hst]; dsimp only; omega, by rw [hst]; dsimp only; rw [hl15]; omega, hrc.full hne (by rw [hst]; exact heq)⟩
          have HE := Lib.hid hend; have HK := Lib.hid hko2
          have heb : (s.got + n == want) = true := by rw [beq_iff_eq]; exact heq
          clear hst hset hend hko2 hl15 hm1 heq hph
          gi_wp2
          exact ⟨rfl, HK.out, HE.out⟩
        · have hinv : RInv w f t want ⟨G, 0, []⟩ (s.step f t want) (wr.setCell ⟨w.heap.size + 3, 0, none⟩ (.int .i64 (s.got + n))) :=
            ⟨by rw [hst]; exact hset, by rw [hst]; dsimp only; omega, by rw [hst]; exact hgb, by
              rw [hst]; dsimp only; rw [hl15]
              have := hph (by omega); omega, hrc.next hne (by rw [hst]; exact heq)⟩
          have hlt : phi (s.step f t want).g t < phi s.g t := by rw [hst]; exact hph (by omega)
          have HE := Lib.hid hinv; have HK := Lib.hid hko2; have HP := Lib.hid hlt
          have heb : (s.got + n == want) = false := by rw [beq_eq_false_iff_ne]; exact heq
          clear hst hset hinv hko2 hl15 hm1 heq hph hlt
          gi_wp2
          exact ⟨HK.out, _, HE.out, HP.out⟩
  case done =>
    rintro D s W hnil hI hD hK
    obtain ⟨ad, c, h2, hrow⟩ := hI.mem.c2
    have c2 : W.cell? ⟨w.heap.size + 1 + 1, 0, none⟩ = some (.slice ad s.ps.length c) := cell_one h2
    have c3 : W.cell? ⟨w.heap.size + 1 + 1 + 1, 0, none⟩ = some (.int .i64 s.got) := cell_one hI.mem.c3
    have f2 : W.frozen? ⟨w.heap.size + 1 + 1, 0, none⟩ = false := free_one h2 0
    have f3 : W.frozen? ⟨w.heap.size + 1 + 1 + 1, 0, none⟩ = false := free_one hI.mem.c3 0
    have hbd := ownsRow_bounds hrow
    gi_wp2
    refine wpIn_wide.2 ?_
    go_region_with ((go_at_call 65; refine (clipFlow ad _ c hbd.1 hbd.2.1 hbd.2.2 _).mono ?_; rintro e w2 ⟨rfl, rfl⟩))
    all_goals
      obtain ⟨e1, e2, e3, e4⟩ := route_end hI.mem h2 hrow (D := D) (by simp [HZ.out] at hD; omega) hK
      gi_wp2
      refine ⟨by simp, .inl ⟨_, _, rfl, run_takeDeferred e1, ?_⟩⟩
      refine ⟨.tuple #[.slice ad s.ps.length s.ps.length, .int .i64 s.got], by simp [results, Try.results42, go_sem, e2, e3], ?_⟩
      obtain ⟨kk, hkk⟩ := hI.reach.done hnil
      exact ⟨kk, s, ad, hkk, rfl, ⟨hI.got.1, Int.le_of_lt hI.got.2⟩, e4.1, by have := hI.many; omega, e4.2⟩
  case stop =>
    rintro D W hX hD hK
    obtain ⟨s, hM, hgot, hmany, kk, hkk⟩ := hX.ex
    obtain ⟨ad, c, h2, hrow⟩ := hM.c2
    have c2 : W.cell? ⟨w.heap.size + 1 + 1, 0, none⟩ = some (.slice ad s.ps.length c) := cell_one h2
    have c3 : W.cell? ⟨w.heap.size + 1 + 1 + 1, 0, none⟩ = some (.int .i64 s.got) := cell_one hM.c3
    have f2 : W.frozen? ⟨w.heap.size + 1 + 1, 0, none⟩ = false := free_one h2 0
    have f3 : W.frozen? ⟨w.heap.size + 1 + 1 + 1, 0, none⟩ = false := free_one hM.c3 0
    have hbd := ownsRow_bounds hrow
    have HKK := Lib.hid hkk; clear hkk
    gi_wp2
    refine wpIn_wide.2 ?_
    go_region_with ((go_at_call 65; refine (clipFlow ad _ c hbd.1 hbd.2.1 hbd.2.2 _).mono ?_; rintro e w2 ⟨rfl, rfl⟩))
    all_goals
      obtain ⟨e1, e2, e3, e4⟩ := route_end hM h2 hrow (D := D) (by simp [HZ.out] at hD; omega) hK
      gi_wp2
      refine ⟨by simp, .inl ⟨_, _, rfl, run_takeDeferred e1, ?_⟩⟩
      refine ⟨.tuple #[.slice ad s.ps.length s.ps.length, .int .i64 s.got], by simp [results, Try.results42, go_sem, e2, e3], ?_⟩
      exact ⟨kk, s, ad, HKK.out, rfl, hgot, e4.1, hmany, e4.2⟩

/-- nothing is wanted -/
theorem route_no (q : Option Addr) (f t : Nat) (want : Int) (hw : want ≤ 0) (w : World) :
    Calls Try.prog 42 #[.pointer q, .int .u8 f, .int .u8 t, .int .i64 want] w fun e w' => e = .returned (.tuple #[.slice none 0 0, .int .i64 0]) ∧ Below w.heap.size w w' := by
  go_enter Try.func42, Try.ntmps42
  go_wp2
  exact bodyPost_ret (v := .tuple #[.slice none 0 0, .int .i64 0]) (by simp [results, Try.results42, go_sem]) rfl ⟨rfl, (by repeat (first | with_reducible exact Below.refl _ _ | with_reducible assumption | refine Below.drew ?_ | refine Below.setCell ?_ (by first | exact Nat.le_refl _ | omega | (simp; done) | (simp; omega)) _ | refine Below.alloc ?_ (by first | exact Nat.le_refl _ | omega | (simp; done) | (simp; omega)) _ | refine Below.tr ?_ (Nat.le_refl _) (by assumption) | exact Below.refl _ _ | assumption))⟩

/-- most that goes -/
def MostPost (w : World) (f t : Nat) (G : Caps) (e : Ending) (w' : World) : Prop :=
  ∃ k r, routeF f t 9223372036854775807 k ⟨G, 0, []⟩ = some r ∧ e = .returned (.int .i64 r.got) ∧ (0 ≤ r.got ∧ r.got ≤ 9223372036854775807) ∧ Below w.heap.size w w'
theorem most_flow {w : World} {b : Nat} {G : Caps} (h : GraphAt w b G) (hG : GB G) (f t : Nat) (hf : f < 256) (ht : t < 256) :
    Calls Try.prog 35 #[.pointer (some ⟨b, 0, none⟩), .int .u8 f, .int .u8 t] w (MostPost w f t G) := by
  go_enter Try.func35, Try.ntmps35
  go_wp2_with (go_at_call 42; refine (route_ok h hG f t hf ht 9223372036854775807 (by omega) (by omega)).mono ?_; rintro e w1 ⟨k, r, ad, hr, rfl, hgot, hB, _⟩; have HR := Lib.hid hr; clear hr)
  go_ret
  exact ⟨k, r, HR.out, rfl, hgot, hB⟩
end Go.Proofs.Ytelcdiceongfdaa
end
