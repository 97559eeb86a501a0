/- The walk of paths.hops: the least numbers of hops to a party. -/
import Derived.Test.YtelcdiceongfdaaPathPure
import Derived.Test.YtelcdiceongfdaaParties
import Derived.ArgAppend
namespace Go.Proofs.Ytelcdiceongfdaa
open Go.RowKit Go.BigFrame
set_option maxRecDepth 100000

/-! ### arrays of 17 numbers -/
def outList (out : Nat → Nat) : List Value := (List.range 17).map fun p => Value.int .i64 (out p)
def outArr (out : Nat → Nat) : Array Value := (outList out).toArray
def OutAt (w : World) (b : Nat) (out : Nat → Nat) : Prop := w.heap[b]? = some (.cells (outArr out) 148 (0, 0))
theorem outList_get (out : Nat → Nat) {p : Nat} (h : p ≤ 16) : (outList out)[p]? = some (.int .i64 (out p)) := by
  unfold outList
  rw [List.getElem?_map, List.getElem?_range (by omega)]; rfl
theorem outArr_size (out : Nat → Nat) : (outArr out).size = 17 := by simp [outArr, outList]
theorem outArr_one (out : Nat → Nat) : (outArr out).all (·.oneCell') = true := by
  rw [Array.all_eq_true']
  intro v hv
  simp only [outArr, outList, List.mem_toArray, List.mem_map] at hv
  obtain ⟨i, _, rfl⟩ := hv
  rfl
theorem OutAt.lt {w : World} {b : Nat} {out : Nat → Nat} (h : OutAt w b out) : b < w.heap.size := lt_of_block h
theorem OutAt.cell {w : World} {b : Nat} {out : Nat → Nat} (h : OutAt w b out) {p : Nat} (hp : p ≤ 16) : w.cell? ⟨b, p, none⟩ = some (.int .i64 (out p)) := by
  unfold OutAt at h
  simp only [World.cell?, h, outArr]
  simpa using outList_get out hp
theorem OutAt.free {w : World} {b : Nat} {out : Nat → Nat} (h : OutAt w b out) (o : Nat) : w.frozen? ⟨b, o, none⟩ = false := by
  unfold OutAt at h
  simp [World.frozen?, h]
theorem outList_set (out : Nat → Nat) {p : Nat} (_h : p ≤ 16) (d : Nat) : (outList out).set p (.int .i64 d) = outList (setO out p d) := by
  unfold outList
  apply List.ext_getElem
  · simp
  · intro i h1 h2
    rw [List.getElem_set]
    simp only [List.getElem_map, List.getElem_range, setO]
    by_cases e : p = i
    · subst e; rw [if_pos rfl, if_pos rfl]
    · rw [if_neg e, if_neg (fun h => e h.symm)]
theorem OutAt.set {w : World} {b : Nat} {out : Nat → Nat} (h : OutAt w b out) {p : Nat} (hp : p ≤ 16) (d : Nat) : OutAt (w.setCell ⟨b, p, none⟩ (.int .i64 d)) b (setO out p d) := by
  unfold OutAt at *
  rw [heap_setCell_same h]
  unfold outArr
  rw [List.setIfInBounds_toArray, outList_set out hp]
theorem OutAt.chg {S : List Nat} {w w' : World} {b : Nat} {out : Nat → Nat} (h : OutAt w b out) (hc : Chg S w w') (hb : b ∉ S) : OutAt w' b out := (hc.block b h.lt hb).trans h
theorem OutAt.below {B : Nat} {w w' : World} {b : Nat} {out : Nat → Nat} (h : OutAt w b out) (hb : Below B w w') (hlt : b < B) : OutAt w' b out := (hb.block b hlt).trans h
theorem infoOut0 : ((Try.prog).info? 148).map (fun i => (i.zero, i.size)) = some (some (.agg (outArr fun _ => 0)), 17) := by kernel_rfl
theorem infoOut : ((Try.prog).info? 148).map (·.size) = some 17 := (zero_of_info infoOut0).2
theorem wpl_load_out {ops : Array Oper} {Q : Exit → Act → World → Prop} {rest : List Oper} {a : Act} {w : World} {dst : Option Tmp} {t : TypeId} {pos : String} {after : Array Edge} {x : Operand} {b : Nat} {out : Nat → Nat}
    (hg : OutAt w b out) (hx : a.eval x = .pointer (some ⟨b, 0, none⟩)) (h : wpList Try.prog ops Q rest (a.put dst (.agg (outArr out))) w) :
    wpList Try.prog ops Q ({ dst, op := .load 148 x, type := t, pos, after, guard := none } :: rest) a w :=
  wpList_load_row rfl _ _ rfl b hx _ (outArr out) (0, 0) _ hg Try.underlying148 rfl (by rw [outArr_size]; exact infoOut) h
theorem heap_setRow_same {w : World} {g : Nat} {old : Array Value} {t : TypeId} (cs : Array Value) (hg : w.heap[g]? = some (.cells old t (0, 0))) : (w.setRow g cs).heap[g]? = some (.cells cs t (0, 0)) := setRow_heap w g old cs t (0, 0) hg
/-- a whole array, stored into a block of the call's own -/
theorem wpl_store_out {ops : Array Oper} {Q : Exit → Act → World → Prop} {rest : List Oper} {a : Act} {w : World} {dst : Option Tmp} {t : TypeId} {pos : String} {after : Array Edge} {x v : Operand} {b : Nat} {old out : Nat → Nat}
    (hg : OutAt w b old) (hx : a.eval x = .pointer (some ⟨b, 0, none⟩)) (hv : a.eval v = .agg (outArr out)) (h : wpList Try.prog ops Q rest (a.put dst undef) (w.setRow b (outArr out))) :
    wpList Try.prog ops Q ({ dst, op := .store 148 x v, type := t, pos, after, guard := none } :: rest) a w := by
  have hr := run_storeVar_row (P := Try.prog) w b 148 148 (outArr old) (outArr out) hg (by rw [outArr_size]; exact infoOut) (by rw [outArr_size, outArr_size]) (outArr_one out)
  unfold wpList
  rw [if_pos (by simp [Region.wanted])]
  left
  unfold Oper.wp
  simp only [execOp, hx, hv, Instr.storeAt, Instr.sureAddr, Sem.run_bind, Sem.run_pure, hr, Result.andThen_ok]
  exact h

/-! ### a slice of parties, cut at its head -/
structure Queue (w : World) (B : Nat) (v : Value) (Q : List Nat) : Prop where
  ex : ∃ g off cap cur, v = .slice (some ⟨g, off, none⟩) Q.length cap ∧ B ≤ g ∧ w.heap[g]? = some (.cells cur 23 (0, 0)) ∧ off + cap ≤ cur.size ∧ Q.length ≤ cap ∧ (∀ j, j < Q.length → cur[off + j]? = (Q[j]?).map pval)
theorem Queue.form {w : World} {B : Nat} {v : Value} {Q : List Nat} (h : Queue w B v Q) : ∃ g off cap, v = .slice (some ⟨g, off, none⟩) Q.length cap ∧ B ≤ g ∧ g < w.heap.size ∧ Q.length ≤ cap ∧ ∀ (j : Nat) p, Q[j]? = some p → w.cell? ⟨g, off + j, none⟩ = some (.int .u8 p) := by
  obtain ⟨g, off, cap, cur, e, hB, hg, h1, h2, h3⟩ := h.ex
  refine ⟨g, off, cap, e, hB, lt_of_block hg, h2, fun j p hp => ?_⟩
  have hj : j < Q.length := (List.getElem?_eq_some_iff.1 hp).1
  simp only [World.cell?, hg]
  have := h3 j hj
  rw [hp] at this
  simpa [pval] using this
theorem Queue.below {w w' : World} {B : Nat} {v : Value} {Q : List Nat} (h : Queue w B v Q) (hb : Below w.heap.size w w') : Queue w' B v Q := by
  obtain ⟨g, off, cap, cur, e, hB, hg, h1, h2, h3⟩ := h.ex
  exact ⟨g, off, cap, cur, e, hB, (hb.block g (lt_of_block hg)).trans hg, h1, h2, h3⟩
theorem Queue.setCell {w : World} {B : Nat} {v : Value} {Q : List Nat} (h : Queue w B v Q) (b o : Nat) (x : Value) (hb : b < B) : Queue (w.setCell ⟨b, o, none⟩ x) B v Q := by
  obtain ⟨g, off, cap, cur, e, hB, hg, h1, h2, h3⟩ := h.ex
  exact ⟨g, off, cap, cur, e, hB, (Below.heap_setCell _ _ _ _ (by simp; omega)).trans hg, h1, h2, h3⟩
theorem Queue.one {w : World} {B p : Nat} (hB : B ≤ w.heap.size) : Queue (w.alloc (.cells #[.int .u8 p] 23)) B (.slice (some ⟨w.heap.size, 0, none⟩) 1 1) [p] :=
  ⟨w.heap.size, 0, 1, _, rfl, hB, alloc_new _ _, by simp, by simp, fun j hj => by simp at hj; subst hj; rfl⟩
theorem Queue.of_owns {w : World} {B base : Nat} {v : Value} {Q : List Nat} (h : w.ownsRow base 23 1 v Q.length (Q.map pval)) (hB : B ≤ base) (hne : Q ≠ []) : Queue w B v Q := by
  rcases h.2 with ⟨e, h0⟩ | ⟨g, cap, cur, e, hb, hg, h1, h2, h3, h4⟩
  · exact absurd (List.eq_nil_of_length_eq_zero h0) hne
  · refine ⟨g, 0, cap, cur, e, by omega, hg, by omega, h1, fun j hj => ?_⟩
    rw [Nat.zero_add, ← List.getElem?_map, ← h4, List.getElem?_take_of_lt (by omega), Array.getElem?_toList]

theorem queue_room {w : World} {B g off n cap : Nat} {L : List Nat} {p : Nat} (h : Queue w B (.slice (some ⟨g, off, none⟩) n cap) L) (hr : L.length + 1 ≤ cap) : n = L.length ∧ B ≤ g ∧ g < w.heap.size ∧ (w.cell? ⟨g, off + L.length, none⟩).isSome = true ∧ w.frozen? ⟨g, off + L.length, none⟩ = false ∧
    Queue (w.setCell ⟨g, off + L.length, none⟩ (pval p)) B (.slice (some ⟨g, off, none⟩) (L.length + 1) cap) (L ++ [p]) := by
  obtain ⟨g', off', cap', cur, e, hB, hg, h1, h2, h3⟩ := h.ex
  simp only [Value.slice.injEq, Option.some.injEq, Addr.mk.injEq, and_true] at e
  obtain ⟨⟨rfl, rfl⟩, rfl, rfl⟩ := e
  refine ⟨rfl, hB, lt_of_block hg, ?_, ?_, ⟨g, off, cap, cur.setIfInBounds (off + L.length) (pval p), by simp, hB, heap_setCell_same hg _, by simpa using h1, by simp; omega, fun j hj => ?_⟩⟩
  · simp only [World.cell?, hg]
    rw [Array.getElem?_eq_getElem (by omega)]; rfl
  · simp [World.frozen?, hg]
  · simp only [List.length_append, List.length_singleton] at hj
    rw [Array.getElem?_setIfInBounds]
    by_cases ej : j = L.length
    · subst ej
      rw [if_pos rfl, if_pos (by omega), List.getElem?_append_right (Nat.le_refl _)]; simp
    · rw [if_neg (by omega), h3 j (by omega), List.getElem?_append_left (by omega)]

/-- append of one party to a slice of the call's own, cut at its head or not -/
theorem wpl_append_party {ops : Array Oper} {Q : Exit → Act → World → Prop} {rest : List Oper} {a : Act} {w : World} {dst : Option Tmp} {t : TypeId} {pos : String} {after : Array Edge} {s x : Operand} {B : Nat} {v : Value} {L : List Nat} {ad : Addr} {p : Nat}
    (hq : Queue w B v L) (hs : a.eval s = v) (hx : a.eval x = .slice (some ad) 1 1) (hc : w.cell? (ad.add 0) = some (pval p)) (hB : B ≤ w.heap.size) (hlen : L.length ≤ 1000)
    (h : ∀ v' w', Queue w' B v' (L ++ [p]) → Below B w w' → wpList Try.prog ops Q rest (a.put dst v') w') :
    wpList Try.prog ops Q ({ dst, op := .call { callee := .builtin .append, args := #[s, x], argTypes := #[118, 118] }, type := t, pos, after, guard := none } :: rest) a w := by
  obtain ⟨i0, hi, iz0, iz1, iz2⟩ := info_parts infoParty
  obtain ⟨g, off, cap, rfl, hg, hgl, hcap, hcells⟩ := hq.form
  refine wpList_append_arg w rfl s x 118 rfl 23 i0 _ 1 1 Try.underlying118 hi iz0 iz1 iz2 rfl (by decide) g off L.length cap (L.map pval) hs (by simp) ?_ ad 1 1 [pval p] hx rfl ?_ (by simp [pval, Value.oneCell']) ?_ (by simp only [maxLen]; omega) (by omega) ?_ ?_
  · intro j u hu
    rw [List.getElem?_map] at hu
    obtain ⟨y, hy, rfl⟩ := Option.map_eq_some_iff.1 hu
    exact hcells j y hy
  · intro j u hu
    have hj : j = 0 := by
      have := (List.getElem?_eq_some_iff.1 hu).1; simpa using this
    subst hj
    rw [hc]; exact hu
  · intro hr j hj
    have hj0 : j = 0 := by simpa using hj
    subst hj0
    have := queue_room (p := p) hq hr
    rw [Nat.mul_one, Nat.add_zero]
    exact ⟨this.2.2.2.1, this.2.2.2.2.1⟩
  · intro hr
    have := queue_room (p := p) hq hr
    refine h _ _ ?_ ?_
    · rw [Nat.mul_one]
      exact this.2.2.2.2.2
    · rw [Nat.mul_one]
      exact (Below.refl B w).setCell (p := ⟨g, off + L.length, none⟩) hg _
  · intro _ v' w' hown hgrow
    refine h v' w' (Queue.of_owns (base := w.heap.size) (by simpa using hown) hB (by simp)) ?_
    exact (Below.refl B w).grown hgrow hB (fun k e => by cases e)
end Go.Proofs.Ytelcdiceongfdaa
