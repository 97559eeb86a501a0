/- The walk of a ledger's Parties: its parties, rising, in a row of the call's own. -/
import Derived.Test.YtelcdiceongfdaaGraph2
import Derived.Laws.AppendOwn
import Derived.OwnWalk
import Derived.Deep.AppendLies
import Derived.Deep.LoopGhost
namespace Go.Proofs.Ytelcdiceongfdaa
open Go.RowKit Go.BigFrame
set_option maxRecDepth 100000

def pval (p : Nat) : Value := .int .u8 p
def partiesTo (A : Ledger) (k : Nat) : List Nat := (List.range k).filter A.has
def parties (A : Ledger) : List Nat := partiesTo A 17
theorem partiesTo_yes {A : Ledger} {k : Nat} (h : A.has k = true) : partiesTo A (k + 1) = partiesTo A k ++ [k] := by
  simp [partiesTo, List.range_succ, List.filter_append, h]
theorem partiesTo_no {A : Ledger} {k : Nat} (h : A.has k = false) : partiesTo A (k + 1) = partiesTo A k := by
  simp [partiesTo, List.range_succ, List.filter_append, h]
theorem partiesTo_len (A : Ledger) (k : Nat) : (partiesTo A k).length ≤ k := by
  have := List.length_filter_le A.has (List.range k)
  simpa [partiesTo] using this

def boolArr (A : Ledger) : Array Value := ((List.range 17).map fun p => Value.bool (A.has p)).toArray
theorem boolArr_get (A : Ledger) {k : Nat} (h : k < 17) : (boolArr A)[k]? = some (.bool (A.has k)) := by
  simp [boolArr, h]
theorem loadBools {w : World} {b m : Nat} {A : Ledger} (h : LedgerAt w b m A) : (loadVar 32 ⟨b, 0, none⟩).run Try.prog w = .ok (.agg (boolArr A)) w := by
  have hl : (loadCells ⟨b, 0, none⟩ 17).run Try.prog w = .ok (boolArr A) w := by
    have := run_loadCells_list (P := Try.prog) w ⟨b, 0, none⟩ (boolArr A).toList (fun j v hv => by
      have hadd : (⟨b, 0, none⟩ : Addr).add j = ⟨b, j, none⟩ := by unfold Addr.add; split <;> simp_all
      rw [hadd]
      have hj : j < 17 := by
        rcases Nat.lt_or_ge j 17 with h' | h'
        · exact h'
        · rw [List.getElem?_eq_none (by simp [boolArr]; omega)] at hv; cases hv
      have h2 := boolArr_get A hj
      rw [Array.getElem?_toList] at hv
      rw [h2] at hv
      rw [← hv]
      exact h.has (by omega))
    simpa [boolArr] using this
  have hag : (isAgg 32).run Try.prog w = .ok true w := by kernel_rfl
  have hsz : (sizeOf 32).run Try.prog w = .ok 17 w := by kernel_rfl
  unfold loadVar
  rw [Sem.run_bind, hag]
  simp only [Result.andThen_ok, if_true, Sem.run_bind, hsz, hl]
  rfl
theorem wpl_load_bools {ops : Array Oper} {Q : Exit → Act → World → Prop} {rest : List Oper} {a : Act} {w : World} {dst : Option Tmp} {t : TypeId} {pos : String} {after : Array Edge} {x : Operand} {b m : Nat} {A : Ledger}
    (hg : LedgerAt w b m A) (hx : a.eval x = .pointer (some ⟨b, 0, none⟩)) (h : wpList Try.prog ops Q rest (a.put dst (.agg (boolArr A))) w) :
    wpList Try.prog ops Q ({ dst, op := .load 32 x, type := t, pos, after, guard := none } :: rest) a w := by
  unfold wpList
  rw [if_pos (by simp [Region.wanted])]
  left
  unfold Oper.wp
  simp only [execOp, hx, Instr.loadAt, Instr.sureAddr, Sem.run_bind, Sem.run_pure, loadBools hg, Result.andThen_ok]
  exact h
theorem run_indexBools (A : Ledger) {k : Nat} (h : k < 17) (w : World) : (Instr.index 32 (.agg (boolArr A)) (.int .i64 k)).run Try.prog w = .ok (.bool (A.has k)) w := by
  have hb := boolArr_get A h
  have hag : (isAgg 4).run Try.prog w = .ok false w := by kernel_rfl
  have hsz : (sizeOf 4).run Try.prog w = .ok 1 w := by kernel_rfl
  have hu : (Try.prog).underlying 32 = some (.array 17 4) := Try.underlying32
  have hk : (0 : Int) ≤ (k : Int) ∧ (k : Int) < ((17 : Nat) : Int) := by omega
  unfold Instr.index
  simp only [asIntOf, Sem.run_bind, Sem.run_pure, Result.andThen_ok, run_underlying hu, if_pos hk, hsz, part, hag]
  simp [hb]
theorem wpl_index_bools {ops : Array Oper} {Q : Exit → Act → World → Prop} {rest : List Oper} {a : Act} {w : World} {dst : Option Tmp} {t : TypeId} {pos : String} {after : Array Edge} {x i : Operand} {A : Ledger} {k : Nat}
    (hk : k < 17) (hx : a.eval x = .agg (boolArr A)) (hi : a.eval i = .int .i64 k) (h : wpList Try.prog ops Q rest (a.put dst (.bool (A.has k))) w) :
    wpList Try.prog ops Q ({ dst, op := .index 32 x i, type := t, pos, after, guard := none } :: rest) a w := by
  unfold wpList
  rw [if_pos (by simp [Region.wanted])]
  left
  unfold Oper.wp
  simp only [execOp, hx, hi, Sem.run_bind, run_indexBools A hk, Result.andThen_ok]
  exact h
theorem infoParty : ((Try.prog).info? 23).map (fun i => (i.zero, i.size, i.bytes)) = some (some (.int .u8 0), 1, 1) := by kernel_rfl

/-- all parties: a row of the call's own -/
def PartiesPost (w : World) (l : List Nat) (e : Ending) (w' : World) : Prop :=
  ∃ ad c, e = .returned (.slice ad l.length c) ∧ Below w.heap.size w w' ∧ w'.ownsRow w.heap.size 23 1 (.slice ad l.length c) l.length (l.map pval)

theorem parties_no {w : World} {q : Option Addr} (h : NoLedger w q) :
    Calls Try.prog 51 #[.pointer q] w fun e w' => e = .returned (.slice none 0 0) ∧ w = w' := by
  go_enter Try.func51, Try.ntmps51
  go_wp2_with (first | (go_at_call 33; refine (there_no h).mono ?_; rintro e w' ⟨rfl, rfl⟩))
  go_ret
  exact ⟨rfl, rfl⟩

theorem ownsRow_slice {w : World} {base : Nat} {e : TypeId} {size : Nat} {v : Value} {n : Nat} {xs : List Value} (h : w.ownsRow base e size v n xs) : ∃ ad c, v = .slice ad n c := by
  rcases h.2 with ⟨e, h0⟩ | ⟨g, cap, cur, e, _⟩
  · exact ⟨none, 0, by rw [h0]; exact e⟩
  · exact ⟨_, _, e⟩

theorem clipParty (ad : Option Addr) (n c : Nat) (hnc : n ≤ c) (hc : c ≤ 9223372036854775807) (had : ad = none → c = 0) (w : World) :
    Calls Try.prog 71 #[.slice ad n c] w fun e w' => e = .returned (.slice ad n n) ∧ w = w' := by
  cases ad with
  | none =>
    have := had rfl
    subst this
    obtain rfl : n = 0 := by omega
    go_enter Try.func71, Try.ntmps71
    go_wp2
    go_ret
    exact ⟨rfl, rfl⟩
  | some a =>
    go_enter Try.func71, Try.ntmps71
    go_wp2
    go_ret
    exact ⟨by simp, rfl⟩
theorem ownsRow_bounds {w : World} {base : Nat} {e : TypeId} {size : Nat} {ad : Option Addr} {n m c : Nat} {xs : List Value} (h : w.ownsRow base e size (.slice ad n c) m xs) : n ≤ c ∧ c ≤ 9223372036854775807 ∧ (ad = none → c = 0) := by
  rcases h.2 with ⟨e, h0⟩ | ⟨g, cap, cur, e, _, _, hnc, hcm, _⟩
  · simp only [Value.slice.injEq] at e
    obtain ⟨rfl, rfl, rfl⟩ := e
    exact ⟨Nat.le_refl _, by omega, fun _ => rfl⟩
  · simp only [Value.slice.injEq] at e
    obtain ⟨rfl, rfl, rfl⟩ := e
    exact ⟨hnc, by simp only [maxLen] at hcm; omega, fun h => by cases h⟩
/-- a row that is clipped: its cells are as they were -/
theorem ownsRow_clip {w : World} {base : Nat} {e : TypeId} {size : Nat} {ad : Option Addr} {n c : Nat} {xs : List Value} (h : w.ownsRow base e size (.slice ad n c) n xs) :
    (ad = none ∧ n = 0) ∨ ∃ g, ad = some ⟨g, 0, none⟩ ∧ base ≤ g ∧ g < w.heap.size ∧ ∀ j v, xs[j]? = some v → w.cell? ⟨g, j, none⟩ = some v := by
  rcases h.2 with ⟨e, h0⟩ | ⟨g, cap, cur, e, hb, hg, _⟩
  · simp only [Value.slice.injEq] at e
    exact .inl ⟨e.1, h0⟩
  · simp only [Value.slice.injEq] at e
    obtain ⟨rfl, -, rfl⟩ := e
    refine .inr ⟨g, rfl, hb, lt_of_block hg, fun j v hv => ?_⟩
    have := h.cells (g := g) rfl j v hv
    rwa [Addr.add_lit, Nat.zero_add] at this

theorem below_append {w wr w' : World} {e : TypeId} {size : Nat} {v : Value} {n : Nat} {xs : List Value} {o : Obj} (hB : Below w.heap.size w wr) (hr : wr.ownsRow w.heap.size e size v n xs) (hg : (wr.alloc o).grownBy w' v.ownBlock) : Below w.heap.size w w' :=
  hB.trans (((Below.refl _ wr).alloc (Nat.le_refl _) o).mono hB.size |>.grown hg (by simp; have := hB.size; omega) (fun k e => (hr.lt k e).1))

/-- all parties: a row -/
def RowPost (w : World) (l : List Nat) (e : Ending) (w' : World) : Prop :=
  ∃ ad, e = .returned (.slice ad l.length l.length) ∧ Below w.heap.size w w' ∧ ((ad = none ∧ l = []) ∨ ∃ g, ad = some ⟨g, 0, none⟩ ∧ w.heap.size ≤ g ∧ g < w'.heap.size ∧ ∀ (j : Nat) p, l[j]? = some p → w'.cell? ⟨g, j, none⟩ = some (.int .u8 p))

set_option maxHeartbeats 400000 in
theorem parties_any {w : World} {b m : Nat} {A : Ledger} (h : LedgerAt w b m A) :
    Calls Try.prog 51 #[.pointer (some ⟨b, 0, none⟩)] w (RowPost w (parties A)) := by
  obtain ⟨i0, hi, iz0, iz1, iz2⟩ := info_parts infoParty
  have hb := h.lt
  go_enter Try.func51, Try.ntmps51
  go_wp2_with (first | (go_at_call 33; refine (there_yes h.mapc).mono ?_; rintro e w' ⟨rfl, rfl⟩) | refine wpl_load_bools h rfl ?_)
  go_loopg [3, 4, 5, 13] 17 (fun gg s3 s4 s5 s13 wr => ∃ k : Nat, k ≤ 17 ∧ 17 - k ≤ gg ∧ s13 = .int .i64 k ∧ Aside (Below w.heap.size w wr) ∧ Aside (wr.ownsRow w.heap.size 23 1 s3 (partiesTo A k).length ((partiesTo A k).map pval)))
  case atStart => exact ⟨0, by omega, by omega, rfl, Below.refl _ w, World.ownsRow_nil _ _ _ _⟩
  case round =>
    obtain ⟨k, hk, hgg, rfl, BW, RW⟩ := hrel
    by_cases hlt : k < 17
    · have hltz : (k : Int) < 17 := by omega
      have hlen := partiesTo_len A k
      have hsz := BW.out.size
      cases hA : A.has k
      · have HA := Lib.hid hA; clear hA
        go_wp2_with (first | (refine wpl_index_bools hlt rfl rfl ?_; rw [HA.out]))
        go_roundg (17 - (k + 1))
        case measure => omega
        case rel => exact ⟨k + 1, by omega, by omega, by go_num, BW, by rw [partiesTo_no HA.out]; exact RW⟩
      · have HA := Lib.hid hA; clear hA
        obtain ⟨ad, c, hv⟩ := ownsRow_slice RW.out
        subst hv
        go_wp2_with (first | (refine wpl_index_bools hlt rfl rfl ?_; rw [HA.out]) | (at_builtin; refine wpList_append_own _ rfl _ _ 118 rfl w.heap.size 23 i0 _ 1 1 Try.underlying118 hi iz0 iz1 iz2 rfl (by decide) _ _ _ rfl (RW.out.alloc _) ⟨wr.heap.size, 0, none⟩ 1 1 [.int .u8 k] rfl rfl ?c1 ?c2 ?c3 ?c4 ?c5 ?_))
        case c1 => exact World.news_of_block (alloc_new _ _)
        case c2 => simp [Value.oneCell']
        case c3 => simp only [maxLen]; omega
        case c4 => omega
        case c5 => simp; omega
        intro v' w' hown hgrow _
        have HO : Aside (w'.ownsRow w.heap.size 23 1 v' (partiesTo A (k + 1)).length ((partiesTo A (k + 1)).map pval)) := by
          rw [partiesTo_yes HA.out, List.length_append, List.map_append]
          exact hown
        have HB : Aside (Below w.heap.size w w') := by
          refine below_append BW.out RW.out hgrow
        go_wp2
        go_roundg (17 - (k + 1))
        case measure => omega
        case rel => exact ⟨k + 1, by omega, by omega, by go_num, HB, HO⟩
    · have hltz : ¬ (k : Int) < 17 := by omega
      obtain rfl : k = 17 := by omega
      obtain ⟨ad, c, hv⟩ := ownsRow_slice RW.out
      subst hv
      have hbd := ownsRow_bounds RW.out
      go_wp2_with (go_at_call 71; refine (clipParty ad _ c hbd.1 hbd.2.1 hbd.2.2 _).mono ?_; rintro e w2 ⟨rfl, rfl⟩)
      go_ret
      refine ⟨ad, rfl, BW.out, ?_⟩
      rcases ownsRow_clip RW.out with ⟨h1, h2⟩ | ⟨g, h1, h2, h3, h4⟩
      · exact .inl ⟨h1, List.eq_nil_of_length_eq_zero h2⟩
      · exact .inr ⟨g, h1, h2, h3, fun j p hp => h4 j _ (by rw [List.getElem?_map]; show Option.map pval ((parties A)[j]?) = _; rw [hp]; rfl)⟩

end Go.Proofs.Ytelcdiceongfdaa
