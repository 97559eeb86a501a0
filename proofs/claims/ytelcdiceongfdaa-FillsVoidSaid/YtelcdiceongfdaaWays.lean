/- flows.ways: the iterator's contract, at any state that the loop's body keeps; the law of the loop over it. -/
import Derived.Test.YtelcdiceongfdaaShort
import Derived.Test.YtelcdiceongfdaaRound
namespace Go.Proofs.Ytelcdiceongfdaa
open Go.RowKit Go.BigFrame
set_option maxRecDepth 100000
attribute [local go_sem] Oper.semAt_some

def SPost (w : World) (l : List Nat) (e : Ending) (w' : World) : Prop := (l = [] ∧ NonePost w e w') ∨ (l ≠ [] ∧ WayPost w l e w')
theorem short_any {w : World} {b : Nat} {G : Caps} (h : GraphAt w b G) (f t : Nat) (hf : f < 256) (ht : t < 256) :
    Calls Try.prog 77 #[.pointer (some ⟨b, 0, none⟩), .int .u8 f, .int .u8 t] w (SPost w (short G f t)) := by
  by_cases h1 : (1 ≤ f ∧ f ≤ 16) ∧ (1 ≤ t ∧ t ≤ 16) ∧ f ≠ t
  · by_cases h2 : dist G t f = 17
    · have e : short G f t = [] := by unfold short; rw [if_pos h1, if_pos h2]
      rw [e]
      exact (short_far h f t h1.1 h1.2.1 h1.2.2 h2).mono fun _ _ hp => .inl ⟨rfl, hp⟩
    · have e : short G f t = wayFrom G t (dist G t f) f := by unfold short; rw [if_pos h1, if_neg h2]
      rw [e]
      refine (short_way h f t h1.1 h1.2.1 h1.2.2 h2).mono fun _ _ hp => .inr ⟨fun h0 => ?_, hp⟩
      have := wayFrom_len G t (dist G t f) f
      rw [h0] at this; simp at this
  · have e : short G f t = [] := by unfold short; rw [if_neg h1]
    rw [e]
    exact (short_bad b f t hf ht h1).mono fun _ _ hp => .inl ⟨rfl, hp⟩

theorem ways_make (b f t : Nat) (w : World) :
    Calls Try.prog 62 #[.pointer (some ⟨b, 0, none⟩), .int .u8 f, .int .u8 t] w fun e w' => e = .returned (.func (.func 76) #[] #[.pointer (some ⟨w.heap.size, 0, none⟩), .pointer (some ⟨w.heap.size + 1, 0, none⟩), .pointer (some ⟨w.heap.size + 2, 0, none⟩)]) ∧ w' = ((w.alloc (.cells #[.pointer (some ⟨b, 0, none⟩)] 82)).alloc (.cells #[.int .u8 f] 23)).alloc (.cells #[.int .u8 t] 23) := by
  go_enter Try.func62, Try.ntmps62
  go_wp2
  go_ret
  exact ⟨rfl, rfl⟩

/-- what the iterator reads between two rounds -/
structure WaysAt (W : World) (bg bf bt gc f t : Nat) (G : Caps) : Prop where
  g : GraphAt W gc G
  cg : W.cell? ⟨bg, 0, none⟩ = some (.pointer (some ⟨gc, 0, none⟩))
  cf : W.cell? ⟨bf, 0, none⟩ = some (.int .u8 f)
  ct : W.cell? ⟨bt, 0, none⟩ = some (.int .u8 t)

/-- block g is younger than what a state says of some earlier world whose cells are as they were -/
def Young {σ : Type} (J : σ → World → Prop) (s : σ) (W : World) (g : Nat) : Prop := ∃ W0, J s W0 ∧ W0.heap.size ≤ g ∧ ∀ (b : Nat) (o : Obj), W0.heap[b]? = some o → o.isCells = true → W.heap[b]? = some o

def WayAt (W : World) (g : Nat) (l : List Nat) : Prop := g < W.heap.size ∧ ∀ (j : Nat) p, l[j]? = some p → W.cell? ⟨g, j, none⟩ = some (.int .u8 p)

set_option maxHeartbeats 1000000 in
theorem ways_in (n l bg bf bt gc f t : Nat) (hf : f < 256) (ht : t < 256) {σ : Type} (gr : σ → Caps) (J : σ → World → Prop) (Jx : World → Prop) (μ : σ → Nat)
    (hJ : ∀ G W, J G W → WaysAt W bg bf bt gc f t (gr G))
    (hJb : ∀ G W W', J G W → Below W.heap.size W W' → J G W')
    (hY : ∀ G W g c, J G W → short (gr G) f t ≠ [] → WayAt W g (short (gr G) f t) → Young J G W g → YieldAt Fence.wide (n - 1) Try.prog l #[.slice (some ⟨g, 0, none⟩) (short (gr G) f t).length c] W fun e W' =>
      (e = .returned (.bool true) ∧ ∃ G', J G' W' ∧ μ G' < μ G) ∨ (e = .returned (.bool false) ∧ Jx W'))
    (G : σ) (W : World) (h0 : J G W) :
    CallsIn Fence.wide n Try.prog 76 #[.func (.yield l) #[] #[], .pointer (some ⟨bg, 0, none⟩), .pointer (some ⟨bf, 0, none⟩), .pointer (some ⟨bt, 0, none⟩)] W fun e W' => (∃ v, e = .returned v) ∧ ((∃ G', J G' W' ∧ short (gr G') f t = []) ∨ Jx W') := by
  refine callsIn_of_wp Try.func76 rfl trivial ?_ rfl
  simp only [Try.ntmps76, List.size_toArray, List.length_cons, List.length_nil, Nat.reduceAdd, Nat.reduceSub, Array.replicate_succ, Array.replicate_zero, List.push_toArray, List.append_toArray, List.nil_append, List.cons_append]
  have HJ := Lib.hid hJ; have HJb := Lib.hid hJb; have HY := Lib.hid hY
  clear hJ hJb hY
  gi_wp2
  gi_loopg [5] (μ G) (fun gg s5 wr => ∃ G, J G wr ∧ μ G ≤ gg)
  case atStart => exact ⟨G, h0, Nat.le_refl _⟩
  case round =>
    obtain ⟨G2, hJ2, hgg⟩ := hrel
    have hw := HJ.out _ _ hJ2
    obtain ⟨hg, cg, cf, ct⟩ := hw
    obtain ⟨L, hL⟩ : ∃ L, short (gr G2) f t = L := ⟨_, rfl⟩
    have HL := Lib.hid hL
    have hs := short_any hg f t hf ht
    rw [hL] at hs
    have HS := Lib.hid hs; clear hs hL
    gi_wp2
    refine wide_call (HS.out.mono ?_)
    clear HS
    rintro e w1 (⟨hl, rfl, hB⟩ | ⟨hl, g, c, rfl, hB, hg1, hg2, hcells⟩)
    · have hJ3 : Aside (J G2 w1) := HJb.out _ _ _ hJ2 hB
      have HL2 : Aside (short (gr G2) f t = []) := HL.out.trans hl
      clear hl HL
      gi_wp2
      refine ⟨fun _ h => (by cases h), ?_⟩
      gi_wp2
      refine bodyPost_ret (results_none rfl _ _ _) rfl ?_
      exact ⟨⟨_, rfl⟩, .inl ⟨G2, hJ3.out, HL2.out⟩⟩
    · have hJ3 : Aside (J G2 w1) := HJb.out _ _ _ hJ2 hB
      have hy0 := HY.out G2 w1 g c hJ3.out (by rw [HL.out]; exact hl) (by rw [HL.out]; exact ⟨hg2, hcells⟩) ⟨wr, hJ2, hg1, fun b o hb _ => (hB.block b (Array.getElem?_eq_some_iff.1 hb).1).trans hb⟩
      rw [HL.out] at hy0
      obtain ⟨fn, tmps, assign, body, hy, hR⟩ := hy0
      have hln : ((L.length : Int) == 0) = false := by
        have := List.length_pos_iff.2 hl
        simp; exact hl
      have HR := Lib.hid hR; clear hR
      have Hl := Lib.hid hl; clear hl hcells
      gi_wp2
      refine ⟨fun h => (by cases h), HR.out.mono ?_⟩
      rintro e W3 (⟨rfl, G3, hJ4, hμ⟩ | ⟨rfl, hJx3⟩)
      · have hJ5 : Aside (J G3 W3) := hJ4
        have hμ2 : Aside (μ G3 < μ G2) := hμ
        clear hJ4 hμ hy
        gi_wp2
        go_roundg (μ G3)
        case measure => have := hμ2.out; omega
        case rel => exact ⟨G3, hJ5.out, Nat.le_refl _⟩
      · have hJ5 : Aside (Jx W3) := hJx3
        clear hJx3 hy
        gi_wp2
        refine bodyPost_ret (results_none rfl _ _ _) rfl ?_
        exact ⟨⟨_, rfl⟩, .inr hJ5.out⟩

/-- how a round of the loop may be left -/
def roundW {σ : Type} (id : Nat) (μ : σ → Nat) (I : σ → World → Prop) (Ix : World → Prop) (s : σ) (W : World) : Exit → Act → World → Prop
  | .normal, _, W' => KeepsOthers W W' ∧ ∃ s', I s' W' ∧ μ s' < μ s
  | .exit k, _, W' => k = id ∧ KeepsOthers W W' ∧ Ix W'
  | _, _, _ => False

set_option maxHeartbeats 1000000 in
/-- the loop over ways, at states that a round carries on -/
theorem wpIn_ways {σ : Type} (gr : σ → Caps) (μ : σ → Nat) (I : σ → World → Prop) (Ix : World → Prop) (id n bg bf bt gc f t : Nat) (hf : f < 256) (ht : t < 256) {g : Operand} {ps : Array Tmp} {assign body : Code} {Q : Exit → Act → World → Prop} {a : Act} {w : World}
    (hg : a.eval g = .func (.func 76) #[] #[.pointer (some ⟨bg, 0, none⟩), .pointer (some ⟨bf, 0, none⟩), .pointer (some ⟨bt, 0, none⟩)]) (hps : ps.size = 1)
    (hIw : ∀ s W, I s W → WaysAt W bg bf bt gc f t (gr s)) (hIb : ∀ s W W', I s W → Below W.heap.size W W' → I s W')
    (hIp : ∀ s W l o', I s W → w.heap.size ≤ l → (∃ o : Obj, W.heap[l]? = some o ∧ o.isCells = false) → I s (W.putObj l o'))
    (hXp : ∀ W l o', Ix W → w.heap.size ≤ l → (∃ o : Obj, W.heap[l]? = some o ∧ o.isCells = false) → Ix (W.putObj l o'))
    (s0 : σ) (h0 : I s0 w) (a₁ : Value → Act)
    (hassign : ∀ (l : Nat) (v : Value) (W : World) (K : Act → World → Prop), K (a₁ v) W →
      assign.wpIn (Fence.wide.inRound l) (n - 1 - 1) Try.prog (Exit.then K (fun _ _ _ => False)) { tmps := (ps.zip #[v]).foldl (fun t (p, v) => t.setIfInBounds p v) a.tmps, defers := [] } W)
    (hbody : ∀ (l : Nat) (s : σ) (k c : Nat) (W : World), I s W → short (gr s) f t ≠ [] → WayAt W k (short (gr s) f t) → Young I s W k → body.wpIn (Fence.wide.inRound l) (n - 1 - 1) Try.prog (roundW id μ I Ix s W) (a₁ (.slice (some ⟨k, 0, none⟩) (short (gr s) f t).length c)) W)
    (hdone : ∀ (D : Nat) (s : σ) (W : World), short (gr s) f t = [] → I s W → w.heap.size ≤ D → W.heap[D]? = some (.deferred (some [])) → Q .normal { a with defers := { target := .collected D, args := #[] } :: a.defers } W)
    (hstop : ∀ (D : Nat) (W : World), Ix W → w.heap.size ≤ D → W.heap[D]? = some (.deferred (some [])) → (Code.exit id).wpIn Fence.wide n Try.prog Q { a with defers := { target := .collected D, args := #[] } :: a.defers } W) :
    (Code.rangeFunc g ps assign body).wpIn Fence.wide n Try.prog Q a w := by
  refine wpIn_rangeFunc ?_
  intro fn hfn
  rw [show Fence.wide.round = none from rfl]
  obtain ⟨rec, hrec⟩ : ∃ rec : LoopState → Option Code → Loop, rec = fun st pe => { state := st, pending := pe, fn, tmps := a.tmps, params := ps, assign, body, defers := w.heap.size } := ⟨_, rfl⟩
  obtain ⟨W1, hW1⟩ : ∃ W1, (w.alloc (.deferred (some []))).alloc (.loop (rec .ready none)) = W1 := ⟨_, rfl⟩
  have hL1 : W1.heap[w.heap.size + 1]? = some (.loop (rec .ready none)) := by
    rw [← hW1]; have := World.alloc_heap_new (w.alloc (.deferred (some []))) (.loop (rec .ready none)); rwa [World.size_alloc] at this
  have hK1 : W1.heap[w.heap.size]? = some (.deferred (some [])) := by
    rw [← hW1]; exact (Below.heap_alloc _ _ _ (by simp)).trans (World.alloc_heap_new w _)
  have hI1 : I s0 W1 := by rw [← hW1]; exact hIb _ _ _ h0 (((Below.refl _ w).alloc (Nat.le_refl _) _).alloc (by simp) _)
  refine ⟨w.heap.size + 1, [{ target := .collected w.heap.size, args := #[] }], W1, { target := .fn (.func 76) #[.pointer (some ⟨bg, 0, none⟩), .pointer (some ⟨bf, 0, none⟩), .pointer (some ⟨bt, 0, none⟩)], args := #[.func (.yield (w.heap.size + 1)) #[] #[]] }, W1, 76,
    #[.func (.yield (w.heap.size + 1)) #[] #[], .pointer (some ⟨bg, 0, none⟩), .pointer (some ⟨bf, 0, none⟩), .pointer (some ⟨bt, 0, none⟩)], W1, ?_, ?_, ?_, ?_, fun h => (by cases h), ?_⟩
  · rw [← hW1, hrec]; exact run_enterLoop_outer _ _ _ _ _
  · simp only [resolve, hg]
    simp [go_sem]
  · intro f' hf'; trivial
  · have eg : ∀ args w, (callFunc 76 args).run Try.prog w = .ok (.enter 76 args) w := enters_of Try.func76 (by kernel_rfl) rfl
    simp [invoke, go_sem, eg]
  · refine (ways_in (n - 1) (w.heap.size + 1) bg bf bt gc f t hf ht gr
      (fun s W => I s W ∧ W.heap[w.heap.size + 1]? = some (.loop (rec .ready none)) ∧ W.heap[w.heap.size]? = some (.deferred (some [])))
      (fun W => Ix W ∧ W.heap[w.heap.size + 1]? = some (.loop (rec .done (some (.exit id)))) ∧ W.heap[w.heap.size]? = some (.deferred (some []))) μ
      (fun s W h => hIw s W h.1)
      (fun s W W' h hb => ⟨hIb s W W' h.1 hb, (hb.block _ (Array.getElem?_eq_some_iff.1 h.2.1).1).trans h.2.1, (hb.block _ (Array.getElem?_eq_some_iff.1 h.2.2).1).trans h.2.2⟩)
      ?_ s0 W1 ⟨hI1, hL1, hK1⟩).mono ?_
    · rintro s W k c ⟨hi, hl, hk⟩ hne hway ⟨W0, hJ0, hy1, hy2⟩
      have hlt : w.heap.size + 1 < W.heap.size := (Array.getElem?_eq_some_iff.1 hl).1
      have hy := run_yield (P := Try.prog) (args := #[.slice (some ⟨k, 0, none⟩) (short (gr s) f t).length c]) hl (by rw [hrec]; simp [hps])
      rw [hrec] at hy
      refine ⟨fn, _, assign, body, hy, roundIn_of_wpIn hfn (hassign _ _ W _ ⟨_, run_beginRound hl (by rw [hrec]), ?_⟩)⟩
      have hl2 : (W.putObj (w.heap.size + 1) (.loop { rec .ready none with state := .busy })).heap[w.heap.size + 1]? = some (.loop { rec .ready none with state := .busy }) := World.putObj_heap_same hlt
      have hk2 : (W.putObj (w.heap.size + 1) (.loop { rec .ready none with state := .busy })).heap[w.heap.size]? = some (.deferred (some [])) := (World.putObj_heap_other (by omega)).trans hk
      have hi2 := hIp s W (w.heap.size + 1) (.loop { rec .ready none with state := .busy }) hi (by omega) ⟨_, hl, rfl⟩
      have hway2 : WayAt (W.putObj (w.heap.size + 1) (.loop { rec .ready none with state := .busy })) k (short (gr s) f t) := by
        refine ⟨by simpa using hway.1, fun j p hp => ?_⟩
        have hc := hway.2 j p hp
        have hkl : k ≠ w.heap.size + 1 := by
          rintro rfl
          simp [World.cell?, hl] at hc
        exact (World.cell?_of_block (w := W) (a := ⟨k, j, none⟩) (World.putObj_heap_other hkl)).trans hc
      refine wpIn_mono (hbody _ s k c _ hi2 hne hway2 ⟨W0, hJ0.1, hy1, fun b o hb ho => (World.putObj_heap_other (by rintro rfl; have := hy2 _ _ hb ho; rw [hl] at this; cases this; simp [Obj.isCells] at ho)).trans (hy2 b o hb ho)⟩) ?_
      have fin : ∀ (jump : Option Code) (W3 : World), KeepsOthers (W.putObj (w.heap.size + 1) (.loop { rec .ready none with state := .busy })) W3 →
          (Instr.endRound (w.heap.size + 1) jump).run Try.prog W3 = .ok (.bool jump.isNone) (W3.putObj (w.heap.size + 1) (.loop (rec (if jump.isNone then .ready else .done) jump))) ∧
          W3.heap[w.heap.size + 1]? = some (.loop { rec .ready none with state := .busy }) ∧
          (W3.putObj (w.heap.size + 1) (.loop (rec (if jump.isNone then .ready else .done) jump))).heap[w.heap.size + 1]? = some (.loop (rec (if jump.isNone then .ready else .done) jump)) ∧
          (W3.putObj (w.heap.size + 1) (.loop (rec (if jump.isNone then .ready else .done) jump))).heap[w.heap.size]? = some (.deferred (some [])) := fun jump W3 hk3 => by
        have hl3 := hk3.same _ _ hl2 rfl
        have := run_endRound (P := Try.prog) jump hl3
        rw [hrec] at this ⊢
        exact ⟨this, by rw [hrec] at hl3; exact hl3, World.putObj_heap_same (Array.getElem?_eq_some_iff.1 hl3).1, (World.putObj_heap_other (by omega)).trans (hk3.same _ _ hk2 rfl)⟩
      rintro e a3 W3 hp
      cases e with
      | normal =>
        obtain ⟨hk3, s', hi3, hμ⟩ := hp
        obtain ⟨hr, hl3, hl4, hk4⟩ := fin none W3 hk3
        exact ⟨_, _, hr, .inl ⟨rfl, s', ⟨hIp s' W3 _ _ hi3 (by omega) ⟨_, hl3, rfl⟩, hl4, hk4⟩, hμ⟩⟩
      | exit k =>
        obtain ⟨rfl, hk3, hi3⟩ := hp
        obtain ⟨hr, hl3, hl4, hk4⟩ := fin (some (.exit k)) W3 hk3
        exact ⟨_, _, hr, .inr ⟨rfl, hXp W3 _ _ hi3 (by omega) ⟨_, hl3, rfl⟩, hl4, hk4⟩⟩
      | ret => exact hp.elim
      | goto t => exact hp.elim
      | panic ch => exact hp.elim
      | outgrown => exact hp.elim
    · rintro e W2 ⟨⟨v, rfl⟩, (⟨s, ⟨hi, hl, hk⟩, hnil⟩ | ⟨hi, hl, hk⟩)⟩
      · exact ⟨none, _, by have := run_endLoop (P := Try.prog) hl (by rw [hrec]; simp); rw [hrec] at this; exact this, hdone _ s _ hnil (hIp s W2 _ _ hi (by omega) ⟨_, hl, rfl⟩) (Nat.le_refl _) ((World.putObj_heap_other (by omega)).trans hk)⟩
      · exact ⟨some (.exit id), _, by have := run_endLoop (P := Try.prog) hl (by rw [hrec]; simp); rw [hrec] at this; exact this, hstop _ _ (hXp W2 _ _ hi (by omega) ⟨_, hl, rfl⟩) (Nat.le_refl _) ((World.putObj_heap_other (by omega)).trans hk)⟩
end Go.Proofs.Ytelcdiceongfdaa
