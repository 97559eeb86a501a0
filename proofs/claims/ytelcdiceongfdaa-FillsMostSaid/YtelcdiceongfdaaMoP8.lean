/-
  The walk of a ledger's Parties: its parties, rising, in a row of the call's own.
  The walk of graphs.Of: a ledger's rooms, as a graph.
  The walk of paths.hops: the least numbers of hops to a party.
  The walk of paths.hops, its loops.
  The walk of paths.Short: the shortest way.
-/
import Derived.Test.YtelcdiceongfdaaMoP6
import Derived.Laws.AppendOwn
import Derived.OwnWalk
import Derived.Deep.AppendLies
import Derived.Deep.LoopGhost
import Derived.ArgAppend
section
namespace Go.Proofs.Ytelcdiceongfdaa
open Go.RowKit Go.BigFrame
set_option maxRecDepth 100000

def pval (p : Nat) : Value := .int .u8 p
def partiesTo (A : Ledger) (k : Nat) : List Nat := (List.range k).filter A.has
def parties (A : Ledger) : List Nat := partiesTo A 17
theorem partiesTo_yes {A : Ledger} {k : Nat} (h : A.has k = true) : partiesTo A (k + 1) = partiesTo A k ++ [k] := by
  simp [partiesTo, List.range_succ, List.filter_append, h]
theorem partiesTo_no {A : Ledger} {k : Nat} (h : A.has k = false) : partiesTo A (k + 1) = partiesTo A k := by
  simp [partiesTo, List.range_succ, List.filter_append, h]
theorem partiesTo_len (A : Ledger) (k : Nat) : (partiesTo A k).length ≤ k := by
  have := List.length_filter_le A.has (List.range k)
  simpa [partiesTo] using this

def boolArr (A : Ledger) : Array Value := ((List.range 17).map fun p => Value.bool (A.has p)).toArray
theorem boolArr_get (A : Ledger) {k : Nat} (h : k < 17) : (boolArr A)[k]? = some (.bool (A.has k)) := by
  simp [boolArr, h]
theorem loadBools {w : World} {b m : Nat} {A : Ledger} (h : LedgerAt w b m A) : (loadVar 32 ⟨b, 0, none⟩).run Try.prog w = .ok (.agg (boolArr A)) w := by
  have hl : (loadCells ⟨b, 0, none⟩ 17).run Try.prog w = .ok (boolArr A) w := by
    have := run_loadCells_list (P := Try.prog) w ⟨b, 0, none⟩ (boolArr A).toList (fun j v hv => by
      have hadd : (⟨b, 0, none⟩ : Addr).add j = ⟨b, j, none⟩ := by unfold Addr.add; split <;> simp_all
      rw [hadd]
      have hj : j < 17 := by
        rcases Nat.lt_or_ge j 17 with h' | h'
        · exact h'
        · rw [List.getElem?_eq_none (by simp [boolArr]; omega)] at hv; cases hv
      have h2 := boolArr_get A hj
      rw [Array.getElem?_toList] at hv
      rw [h2] at hv
      rw [← hv]
      exact h.has (by omega))
    simpa [boolArr] using this
  have hag : (isAgg 32).run Try.prog w = .ok true w := by kernel_rfl
  have hsz : (sizeOf 32).run Try.prog w = .ok 17 w := by kernel_rfl
  unfold loadVar
  rw [Sem.run_bind, hag]
  simp only [Result.andThen_ok, if_true, Sem.run_bind, hsz, hl]
  rfl
theorem wpl_load_bools {ops : Array Oper} {Q : Exit → Act → World → Prop} {rest : List Oper} {a : Act} {w : World} {dst : Option Tmp} {t : TypeId} {pos : String} {after : Array Edge} {x : Operand} {b m : Nat} {A : Ledger}
    (hg : LedgerAt w b m A) (hx : a.eval x = .pointer (some ⟨b, 0, none⟩)) (h : wpList Try.prog ops Q rest (a.put dst (.agg (boolArr A))) w) :
    wpList Try.prog ops Q ({ dst, op := .load 32 x, type := t, pos, after, guard := none } :: rest) a w := by
  unfold wpList
  rw [if_pos (by simp [Region.wanted])]
  left
  unfold Oper.wp
  simp only [execOp, hx, Instr.loadAt, Instr.sureAddr, Sem.run_bind, Sem.run_pure, loadBools hg, Result.andThen_ok]
  exact h
theorem run_indexBools (A : Ledger) {k : Nat} (h : k < 17) (w : World) : (Instr.index 32 (.agg (boolArr A)) (.int .i64 k)).run Try.prog w = .ok (.bool (A.has k)) w := by
  have hb := boolArr_get A h
  have hag : (isAgg 4).run Try.prog w = .ok false w := by kernel_rfl
  have hsz : (sizeOf 4).run Try.prog w = .ok 1 w := by kernel_rfl
  have hu : (Try.prog).underlying 32 = some (.array 17 4) := Try.underlying32
  have hk : (0 : Int) ≤ (k : Int) ∧ (k : Int) < ((17 : Nat) : Int) := by omega
  unfold Instr.index
  simp only [asIntOf, Sem.run_bind, Sem.run_pure, Result.andThen_ok, run_underlying hu, if_pos hk, hsz, part, hag]
  simp [hb]
theorem wpl_index_bools {ops : Array Oper} {Q : Exit → Act → World → Prop} {rest : List Oper} {a : Act} {w : World} {dst : Option Tmp} {t : TypeId} {pos : String} {after : Array Edge} {x i : Operand} {A : Ledger} {k : Nat}
    (hk : k < 17) (hx : a.eval x = .agg (boolArr A)) (hi : a.eval i = .int .i64 k) (h : wpList Try.prog ops Q rest (a.put dst (.bool (A.has k))) w) :
    wpList Try.prog ops Q ({ dst, op := .index 32 x i, type := t, pos, after, guard := none } :: rest) a w := by
  unfold wpList
  rw [if_pos (by simp [Region.wanted])]
  left
  unfold Oper.wp
  simp only [execOp, hx, hi, Sem.run_bind, run_indexBools A hk, Result.andThen_ok]
  exact h
theorem infoParty : ((Try.prog).info? 23).map (fun i => (i.zero, i.size, i.bytes)) = some (some (.int .u8 0), 1, 1) := by kernel_rfl

/-- all parties: a row of the call's own -/
def PartiesPost (w : World) (l : List Nat) (e : Ending) (w' : World) : Prop :=
  ∃ ad c, e = .returned (.slice ad l.length c) ∧ Below w.heap.size w w' ∧ w'.ownsRow w.heap.size 23 1 (.slice ad l.length c) l.length (l.map pval)

theorem parties_no {w : World} {q : Option Addr} (h : NoLedger w q) :
    Calls Try.prog 51 #[.pointer q] w fun e w' => e = .returned (.slice none 0 0) ∧ w = w' := by
  go_enter Try.func51, Try.ntmps51
  go_wp2_with (first | (go_at_call 33; refine (there_no h).mono ?_; rintro e w' ⟨rfl, rfl⟩))
  go_ret
  exact ⟨rfl, rfl⟩

theorem ownsRow_slice {w : World} {base : Nat} {e : TypeId} {size : Nat} {v : Value} {n : Nat} {xs : List Value} (h : w.ownsRow base e size v n xs) : ∃ ad c, v = .slice ad n c := by
  rcases h.2 with ⟨e, h0⟩ | ⟨g, cap, cur, e, _⟩
  · exact ⟨none, 0, by rw [h0]; exact e⟩
  · exact ⟨_, _, e⟩

theorem clipParty (ad : Option Addr) (n c : Nat) (hnc : n ≤ c) (hc : c ≤ 9223372036854775807) (had : ad = none → c = 0) (w : World) :
    Calls Try.prog 71 #[.slice ad n c] w fun e w' => e = .returned (.slice ad n n) ∧ w = w' := by
  cases ad with
  | none =>
    have := had rfl
    subst this
    obtain rfl : n = 0 := by omega
    go_enter Try.func71, Try.ntmps71
    go_wp2
    go_ret
    exact ⟨rfl, rfl⟩
  | some a =>
    go_enter Try.func71, Try.ntmps71
    go_wp2
    go_ret
    exact ⟨by simp, rfl⟩
theorem ownsRow_bounds {w : World} {base : Nat} {e : TypeId} {size : Nat} {ad : Option Addr} {n m c : Nat} {xs : List Value} (h : w.ownsRow base e size (.slice ad n c) m xs) : n ≤ c ∧ c ≤ 9223372036854775807 ∧ (ad = none → c = 0) := by
  rcases h.2 with ⟨e, h0⟩ | ⟨g, cap, cur, e, _, _, hnc, hcm, _⟩
  · simp only [Value.slice.injEq] at e
    obtain ⟨rfl, rfl, rfl⟩ := e
    exact ⟨Nat.le_refl _, by omega, fun _ => rfl⟩
  · simp only [Value.slice.injEq] at e
    obtain ⟨rfl, rfl, rfl⟩ := e
    exact ⟨hnc, by simp only [maxLen] at hcm; omega, fun h => by cases h⟩
/-- a row that is clipped: its cells are as they were -/
theorem ownsRow_clip {w : World} {base : Nat} {e : TypeId} {size : Nat} {ad : Option Addr} {n c : Nat} {xs : List Value} (h : w.ownsRow base e size (.slice ad n c) n xs) :
    (ad = none ∧ n = 0) ∨ ∃ g, ad = some ⟨g, 0, none⟩ ∧ base ≤ g ∧ g < w.heap.size ∧ ∀ j v, xs[j]? = some v → w.cell? ⟨g, j, none⟩ = some v := by
  rcases h.2 with ⟨e, h0⟩ | ⟨g, cap, cur, e, hb, hg, _⟩
  · simp only [Value.slice.injEq] at e
    exact .inl ⟨e.1, h0⟩
  · simp only [Value.slice.injEq] at e
    obtain ⟨rfl, -, rfl⟩ := e
    refine .inr ⟨g, rfl, hb, lt_of_block hg, fun j v hv => ?_⟩
    have := h.cells (g := g) rfl j v hv
    rwa [Addr.add_lit, Nat.zero_add] at this

theorem below_append {w wr w' : World} {e : TypeId} {size : Nat} {v : Value} {n : Nat} {xs : List Value} {o : Obj} (hB : Below w.heap.size w wr) (hr : wr.ownsRow w.heap.size e size v n xs) (hg : (wr.alloc o).grownBy w' v.ownBlock) : Below w.heap.size w w' :=
  hB.trans (((Below.refl _ wr).alloc (Nat.le_refl _) o).mono hB.size |>.grown hg (by simp; have := hB.size; omega) (fun k e => (hr.lt k e).1))

/-- all parties: a row -/
def RowPost (w : World) (l : List Nat) (e : Ending) (w' : World) : Prop :=
  ∃ ad, e = .returned (.slice ad l.length l.length) ∧ Below w.heap.size w w' ∧ ((ad = none ∧ l = []) ∨ ∃ g, ad = some ⟨g, 0, none⟩ ∧ w.heap.size ≤ g ∧ g < w'.heap.size ∧ ∀ (j : Nat) p, l[j]? = some p → w'.cell? ⟨g, j, none⟩ = some (.int .u8 p))

set_option maxHeartbeats 400000 in
theorem parties_any {w : World} {b m : Nat} {A : Ledger} (h : LedgerAt w b m A) :
    Calls Try.prog 51 #[.pointer (some ⟨b, 0, none⟩)] w (RowPost w (parties A)) := by
  obtain ⟨i0, hi, iz0, iz1, iz2⟩ := info_parts infoParty
  have hb := h.lt
  go_enter Try.func51, Try.ntmps51
  go_wp2_with (first | (go_at_call 33; refine (there_yes h.mapc).mono ?_; rintro e w' ⟨rfl, rfl⟩) | refine wpl_load_bools h rfl ?_)
  go_loopg [3, 4, 5, 13] 17 (fun gg s3 s4 s5 s13 wr => ∃ k : Nat, k ≤ 17 ∧ 17 - k ≤ gg ∧ s13 = .int .i64 k ∧ Aside (Below w.heap.size w wr) ∧ Aside (wr.ownsRow w.heap.size 23 1 s3 (partiesTo A k).length ((partiesTo A k).map pval)))
  case atStart => exact ⟨0, by omega, by omega, rfl, Below.refl _ w, World.ownsRow_nil _ _ _ _⟩
  case round =>
    obtain ⟨k, hk, hgg, rfl, BW, RW⟩ := hrel
    by_cases hlt : k < 17
    · have hltz : (k : Int) < 17 := by omega
      have hlen := partiesTo_len A k
      have hsz := BW.out.size
      cases hA : A.has k
      · have HA := Lib.hid hA; clear hA
        go_wp2_with (first | (refine wpl_index_bools hlt rfl rfl ?_; rw [HA.out]))
        go_roundg (17 - (k + 1))
        case measure => omega
        case rel => exact ⟨k + 1, by omega, by omega, by go_num, BW, by rw [partiesTo_no HA.out]; exact RW⟩
      · have HA := Lib.hid hA; clear hA
        obtain ⟨ad, c, hv⟩ := ownsRow_slice RW.out
        subst hv
        go_wp2_with (first | (refine wpl_index_bools hlt rfl rfl ?_; rw [HA.out]) | (at_builtin; refine wpList_append_own _ rfl _ _ 118 rfl w.heap.size 23 i0 _ 1 1 Try.underlying118 hi iz0 iz1 iz2 rfl (by decide) _ _ _ rfl (RW.out.alloc _) ⟨wr.heap.size, 0, none⟩ 1 1 [.int .u8 k] rfl rfl ?c1 ?c2 ?c3 ?c4 ?c5 ?_))
        case c1 => exact World.news_of_block (alloc_new _ _)
        case c2 => simp [Value.oneCell']
        case c3 => simp only [maxLen]; omega
        case c4 => omega
        case c5 => simp; omega
        intro v' w' hown hgrow _
        have HO : Aside (w'.ownsRow w.heap.size 23 1 v' (partiesTo A (k + 1)).length ((partiesTo A (k + 1)).map pval)) := by
          rw [partiesTo_yes HA.out, List.length_append, List.map_append]
          exact hown
        have HB : Aside (Below w.heap.size w w') := by
          refine below_append BW.out RW.out hgrow
        go_wp2
        go_roundg (17 - (k + 1))
        case measure => omega
        case rel => exact ⟨k + 1, by omega, by omega, by go_num, HB, HO⟩
    · have hltz : ¬ (k : Int) < 17 := by omega
      obtain rfl : k = 17 := by omega
      obtain ⟨ad, c, hv⟩ := ownsRow_slice RW.out
      subst hv
      have hbd := ownsRow_bounds RW.out
      go_wp2_with (go_at_call 71; refine (clipParty ad _ c hbd.1 hbd.2.1 hbd.2.2 _).mono ?_; rintro e w2 ⟨rfl, rfl⟩)
      go_ret
      refine ⟨ad, rfl, BW.out, ?_⟩
      rcases ownsRow_clip RW.out with ⟨h1, h2⟩ | ⟨g, h1, h2, h3, h4⟩
      · exact .inl ⟨h1, List.eq_nil_of_length_eq_zero h2⟩
      · exact .inr ⟨g, h1, h2, h3, fun j p hp => h4 j _ (by rw [List.getElem?_map]; show Option.map pval ((parties A)[j]?) = _; rw [hp]; rfl)⟩

end Go.Proofs.Ytelcdiceongfdaa
end
section
namespace Go.Proofs.Ytelcdiceongfdaa
open Go.RowKit Go.BigFrame
set_option maxRecDepth 100000

theorem mem_parties {A : Ledger} (hA : A.WF) {p : Nat} : p ∈ parties A ↔ A.has p = true := by
  simp only [parties, partiesTo, List.mem_filter, List.mem_range]
  constructor
  · exact fun h => h.2
  · intro h; have := hA.party p h; exact ⟨by omega, h⟩
/-- rooms that are laid when i rows, and j cells of the next one, are done -/
def roomsTo (A : Ledger) (c i j : Nat) : Caps := fun x y =>
  if (x ∈ (parties A).take i ∧ y ∈ parties A) ∨ ((parties A)[i]? = some x ∧ y ∈ (parties A).take j) then A.room x y c else 0
def rooms (A : Ledger) (c : Nat) : Caps := fun x y => A.room x y c

theorem roomsTo_zero (A : Ledger) (c : Nat) : roomsTo A c 0 0 = fun _ _ => 0 := by
  funext x y; simp [roomsTo]
theorem roomsTo_cell {A : Ledger} {c i j x y : Nat} (hi : (parties A)[i]? = some x) (hj : (parties A)[j]? = some y) : setG (roomsTo A c i j) x y (A.room x y c) = roomsTo A c i (j + 1) := by
  funext p q
  simp only [setG, roomsTo]
  have h1 : (parties A).take (j + 1) = (parties A).take j ++ [y] := by rw [List.take_add_one, hj]; rfl
  rw [h1, hi]
  by_cases e : p = x ∧ q = y
  · obtain ⟨rfl, rfl⟩ := e
    simp
  · rw [if_neg e]
    simp only [List.mem_append, List.mem_singleton, Option.some.injEq]
    congr 1
    apply propext
    constructor
    · rintro (h | ⟨rfl, h⟩)
      · exact .inl h
      · exact .inr ⟨rfl, .inl h⟩
    · rintro (h | ⟨rfl, h | rfl⟩)
      · exact .inl h
      · exact .inr ⟨rfl, h⟩
      · exact absurd ⟨rfl, rfl⟩ e
theorem roomsTo_row {A : Ledger} {c i x : Nat} (hi : (parties A)[i]? = some x) : roomsTo A c i (parties A).length = roomsTo A c (i + 1) 0 := by
  funext p q
  simp only [roomsTo]
  have h1 : (parties A).take (i + 1) = (parties A).take i ++ [x] := by rw [List.take_add_one, hi]; rfl
  rw [h1, hi, List.take_length]
  simp only [List.mem_append, List.mem_singleton, Option.some.injEq, List.take_zero, List.not_mem_nil, and_false, or_false]
  congr 1
  apply propext
  constructor
  · rintro (⟨h, h'⟩ | ⟨rfl, h⟩)
    · exact ⟨.inl h, h'⟩
    · exact ⟨.inr rfl, h⟩
  · rintro ⟨h | rfl, h'⟩
    · exact .inl ⟨h, h'⟩
    · exact .inr ⟨rfl, h'⟩
theorem room_zero {A : Ledger} (hA : A.WF) {x y c : Nat} (h : ¬ (A.has x = true ∧ A.has y = true)) : A.room x y c = 0 := by
  have l1 : A.lim x y c = 0 := by
    by_cases e : A.lim x y c = 0
    · exact e
    · have := hA.line x y c e; exact absurd ⟨this.1, this.2.1⟩ h
  have l2 : A.lim y x c = 0 := by
    by_cases e : A.lim y x c = 0
    · exact e
    · have := hA.line y x c e; exact absurd ⟨this.2.1, this.1⟩ h
  have d1 := hA.debt x y c
  have d2 := hA.debt y x c
  unfold Ledger.room; omega
theorem roomsTo_all {A : Ledger} (hA : A.WF) (c j : Nat) : roomsTo A c (parties A).length j = rooms A c := by
  funext x y
  simp only [roomsTo, rooms, List.take_length, mem_parties hA]
  split
  · rfl
  · rename_i h
    refine (room_zero hA fun h' => h (.inl h')).symm

theorem wpl_build_graph {ops : Array Oper} {Q : Exit → Act → World → Prop} {rest : List Oper} {a : Act} {w : World} {dst : Option Tmp} {t : TypeId} {pos : String} {after : Array Edge}
    (h : wpList Try.prog ops Q rest (a.put dst (.agg (graphCells fun _ _ => 0))) w) :
    wpList Try.prog ops Q ({ dst, op := .build 117 #[(1, .const (.bool true))], type := t, pos, after, guard := none } :: rest) a w := by
  unfold wpList
  rw [if_pos (by simp [Region.wanted])]
  left
  unfold Oper.wp
  have hr := run_graphBuild w
  unfold graphBuild at hr
  have hp : (#[(1, Operand.const (.bool true))].map fun (p : Nat × Operand) => (p.1, a.eval p.2)) = #[(1, Value.bool true)] := by simp; rfl
  simp only [execOp, Sem.run_bind, hp, hr, Result.andThen_ok]
  exact h

def OfPost (w : World) (G : Caps) (e : Ending) (w' : World) : Prop := e = .returned (.pointer (some ⟨w.heap.size, 0, none⟩)) ∧ Below w.heap.size w w' ∧ GraphAt w' w.heap.size G

theorem graphOf_no {w : World} {q : Option Addr} (h : NoLedger w q) (c : Nat) :
    Calls Try.prog 36 #[.pointer q, .int .u8 c] w (OfPost w fun _ _ => 0) := by
  have h' : NoLedger (w.alloc (.cells (graphCells fun _ _ => 0) 117)) q := h.below ((Below.refl _ _).alloc (Nat.le_refl _) _)
  go_enter Try.func36, Try.ntmps36
  go_wp2_with (first | refine wpl_build_graph ?_ | (go_at_call 51; refine (parties_no h').mono ?_; rintro e w' ⟨rfl, rfl⟩))
  go_loopg [17] 0 (fun gg s17 wr => s17 = .int .i64 0 ∧ wr = w.alloc (.cells (graphCells fun _ _ => 0) 117))
  case atStart => exact ⟨rfl, rfl⟩
  case round =>
    obtain ⟨rfl, rfl⟩ := hrel
    go_wp2
    go_ret
    exact ⟨rfl, (by repeat (first | with_reducible exact Below.refl _ _ | with_reducible assumption | refine Below.drew ?_ | refine Below.setCell ?_ (by first | exact Nat.le_refl _ | omega | (simp; done) | (simp; omega)) _ | refine Below.alloc ?_ (by first | exact Nat.le_refl _ | omega | (simp; done) | (simp; omega)) _ | refine Below.tr ?_ (Nat.le_refl _) (by assumption) | exact Below.refl _ _ | assumption)), alloc_new w _⟩

set_option maxHeartbeats 1000000 in
theorem graphOf {w : World} {b m : Nat} {A : Ledger} (h : LedgerAt w b m A) (c : Nat) :
    Calls Try.prog 36 #[.pointer (some ⟨b, 0, none⟩), .int .u8 c] w (OfPost w (rooms A c)) := by
  have h0 : LedgerAt (w.alloc (.cells (graphCells fun _ _ => 0) 117)) b m A := h.below ((Below.refl _ _).alloc (Nat.le_refl _) _)
  have hlen := partiesTo_len A 17
  have hb := h.lt
  go_enter Try.func36, Try.ntmps36
  go_wp2_with (first | refine wpl_build_graph ?_ | (go_at_call 51; refine (parties_any h0).mono ?_; rintro e w1 ⟨ad, rfl, hb1, hrow⟩))
  have hB1 : Below w.heap.size w w1 := (by repeat (first | with_reducible exact Below.refl _ _ | with_reducible assumption | refine Below.drew ?_ | refine Below.setCell ?_ (by first | exact Nat.le_refl _ | omega | (simp; done) | (simp; omega)) _ | refine Below.alloc ?_ (by first | exact Nat.le_refl _ | omega | (simp; done) | (simp; omega)) _ | refine Below.tr ?_ (Nat.le_refl _) (by assumption) | exact Below.refl _ _ | assumption))
  have h1 := h.below hB1
  have hG1 : GraphAt w1 w.heap.size fun _ _ => 0 := (hb1.block _ (by simp)).trans (alloc_new w _)
  have hz1 : w.heap.size + 1 ≤ w1.heap.size := by have := hb1.size; simpa using this
  have hR0 : Hid (roomsTo A c 0 0 = fun _ _ => 0) := roomsTo_zero A c
  have hlen' : (parties A).length ≤ 17 := hlen
  obtain ⟨n, hn⟩ : ∃ n, (parties A).length = n := ⟨_, rfl⟩
  rw [hn] at hlen' ⊢
  have HN := Lib.hid hn
  have Hrow : Hid (n = 0 ∨ ∃ g, ad = some ⟨g, 0, none⟩ ∧ w.heap.size + 1 ≤ g ∧ g < w1.heap.size ∧ ∀ (j : Nat) p, (parties A)[j]? = some p → w1.cell? ⟨g, j, none⟩ = some (.int .u8 p)) := by
    rcases hrow with ⟨_, h2⟩ | ⟨g, h2, h3, h4⟩
    · exact .inl (by rw [← hn, h2]; rfl)
    · exact .inr ⟨g, h2, by simpa using h3, h4⟩
  clear hn hrow hlen
  rcases Hrow.out with h0n | ⟨g, rfl, hg1, hg2, hgc⟩
  · subst h0n
    go_loopg [17] 0 (fun gg s17 wr => s17 = .int .i64 0 ∧ wr = w1)
    case atStart => exact ⟨rfl, rfl⟩
    case round =>
      obtain ⟨rfl, rfl⟩ := hrel
      go_wp2
      go_ret
      have e : rooms A c = fun _ _ => 0 := by
        have := roomsTo_all h.wf c 0
        rw [HN.out, hR0.out] at this
        exact this.symm
      rw [e]
      exact ⟨rfl, hB1, hG1⟩
  · clear Hrow
    have Hgc := Lib.hid hgc; clear hgc
    go_loopg [8, 10, 17, 21, 22, 23] n (fun gg s8 s10 s17 s21 s22 s23 wr => ∃ i : Nat, i ≤ n ∧ n - i ≤ gg ∧ s17 = .int .i64 i ∧ Aside (Chg [w.heap.size] w1 wr) ∧ Aside (GraphAt wr w.heap.size (roomsTo A c i 0)))
    case atStart => exact ⟨0, by omega, by omega, rfl, Chg.refl _ _, by rw [hR0.out]; exact hG1⟩
    case round =>
      obtain ⟨i, hi, hgg, rfl, CW, GW⟩ := hrel
      by_cases hlt : i < n
      · have hltz : (i : Int) < (n : Int) := by omega
        obtain ⟨x, hx⟩ : ∃ x, (parties A)[i]? = some x := ⟨_, List.getElem?_eq_getElem (by rw [HN.out]; exact hlt)⟩
        have hx16 : x ≤ 16 := (h.wf.party x ((mem_parties h.wf).1 (List.mem_of_getElem? hx))).2
        have hcx : wr.cell? ⟨g, i, none⟩ = some (.int .u8 x) := (CW.out.cell hg2 (by simp; omega)).trans (Hgc.out i x hx)
        have Hx := Lib.hid hx; clear hx
        go_wp2
        obtain ⟨wo, rfl⟩ : ∃ wo : World, wo = wr := ⟨_, rfl⟩
        obtain ⟨go, rfl⟩ : ∃ go : Nat, go = gk := ⟨_, rfl⟩
        go_loopg [10, 23] n (fun gg s10 s23 wq => ∃ j : Nat, j ≤ n ∧ n - j ≤ gg ∧ s23 = .int .i64 j ∧ Aside (Chg [w.heap.size] w1 wq) ∧ Aside (GraphAt wq w.heap.size (roomsTo A c i j)))
        case atStart => exact ⟨0, by omega, by omega, rfl, CW, GW⟩
        case round =>
          obtain ⟨j, hj, hgg2, rfl, CQ, GQ⟩ := hrel
          by_cases hlt2 : j < n
          · have hltz2 : (j : Int) < (n : Int) := by omega
            obtain ⟨y, hy⟩ : ∃ y, (parties A)[j]? = some y := ⟨_, List.getElem?_eq_getElem (by rw [HN.out]; exact hlt2)⟩
            have hy16 : y ≤ 16 := (h.wf.party y ((mem_parties h.wf).1 (List.mem_of_getElem? hy))).2
            have hcy : wr.cell? ⟨g, j, none⟩ = some (.int .u8 y) := (CQ.out.cell hg2 (by simp; omega)).trans (Hgc.out j y hy)
            have Hy := Lib.hid hy; clear hy
            have hQ := h1.chg CQ.out (by simp; omega) (by have := h.map.lt; simp; omega)
            have hf := GQ.out.free
            have hgl := GQ.out.lt
            have hcl := GQ.out.cell hx16 hy16
            go_wp2
            refine wp_region_later_tail 12 (by kernel_rfl) (by kernel_rfl) (by kernel_rfl) ?_; simp only [List.take_succ_cons, List.take_zero, List.drop_succ_cons, List.drop_zero]; (repeat (go_big_quiet_step ((go_at_call 52; exact Calls.later (room_any (hQ.below (Later.b _)) _ _ _))))); refine wpQuiet_nil ?_; rintro _ ⟨W, rfl⟩
            have hWb := W.b
            go_wp2
            have hBW : Below wr.heap.size wr W.w := W.b
            go_roundg (n - (j + 1))
            case measure => omega
            case rel =>
              refine ⟨j + 1, by omega, by omega, by go_num, ?_, ?_⟩
              · exact ((CQ.out.trans (Chg.of_below (S := []) hBW) (by simp)).trans (Chg.setCell (S := [w.heap.size]) W.w w.heap.size (x * 17 + y) (.int .i64 (A.room x y c)) (by simp)) (fun z hz _ => hz))
              · have h2 := ((GQ.out.below hBW).set hx16 hy16 (A.room x y c))
                rw [roomsTo_cell Hx.out Hy.out] at h2
                exact h2
          · have hltz2 : ¬ (j : Int) < (n : Int) := by omega
            obtain rfl : j = n := by omega
            have hrw : roomsTo A c i j = roomsTo A c (i + 1) 0 := by
              have := roomsTo_row Hx.out (c := c)
              rw [HN.out] at this; exact this
            have Hrw := Lib.hid hrw; clear hrw
            go_wp2
            go_roundg (j - (i + 1))
            case measure => omega
            case rel => exact ⟨i + 1, by omega, by omega, by go_num, CQ, by have := GQ.out; rw [Hrw.out] at this; exact this⟩
      · have hltz : ¬ (i : Int) < (n : Int) := by omega
        obtain rfl : i = n := by omega
        go_wp2
        go_ret
        have e := roomsTo_all h.wf c 0
        rw [HN.out] at e
        have hG := GW.out
        rw [e] at hG
        refine ⟨rfl, ?_, hG⟩
        exact (Chg.trans (S := []) (Chg.of_below hB1) CW.out (fun z hz hlt => by simp at hz; omega)).below

end Go.Proofs.Ytelcdiceongfdaa
end
section
namespace Go.Proofs.Ytelcdiceongfdaa
open Go.RowKit Go.BigFrame
set_option maxRecDepth 100000

/-! ### arrays of 17 numbers -/
def outList (out : Nat → Nat) : List Value := (List.range 17).map fun p => Value.int .i64 (out p)
def outArr (out : Nat → Nat) : Array Value := (outList out).toArray
def OutAt (w : World) (b : Nat) (out : Nat → Nat) : Prop := w.heap[b]? = some (.cells (outArr out) 148 (0, 0))
theorem outList_get (out : Nat → Nat) {p : Nat} (h : p ≤ 16) : (outList out)[p]? = some (.int .i64 (out p)) := by
  unfold outList
  rw [List.getElem?_map, List.getElem?_range (by omega)]; rfl
theorem outArr_size (out : Nat → Nat) : (outArr out).size = 17 := by simp [outArr, outList]
theorem outArr_one (out : Nat → Nat) : (outArr out).all (·.oneCell') = true := by
  rw [Array.all_eq_true']
  intro v hv
  simp only [outArr, outList, List.mem_toArray, List.mem_map] at hv
  obtain ⟨i, _, rfl⟩ := hv
  rfl
theorem OutAt.lt {w : World} {b : Nat} {out : Nat → Nat} (h : OutAt w b out) : b < w.heap.size := lt_of_block h
theorem OutAt.cell {w : World} {b : Nat} {out : Nat → Nat} (h : OutAt w b out) {p : Nat} (hp : p ≤ 16) : w.cell? ⟨b, p, none⟩ = some (.int .i64 (out p)) := by
  unfold OutAt at h
  simp only [World.cell?, h, outArr]
  simpa using outList_get out hp
theorem OutAt.free {w : World} {b : Nat} {out : Nat → Nat} (h : OutAt w b out) (o : Nat) : w.frozen? ⟨b, o, none⟩ = false := by
  unfold OutAt at h
  simp [World.frozen?, h]
theorem outList_set (out : Nat → Nat) {p : Nat} (_h : p ≤ 16) (d : Nat) : (outList out).set p (.int .i64 d) = outList (setO out p d) := by
  unfold outList
  apply List.ext_getElem
  · simp
  · intro i h1 h2
    rw [List.getElem_set]
    simp only [List.getElem_map, List.getElem_range, setO]
    by_cases e : p = i
    · subst e; rw [if_pos rfl, if_pos rfl]
    · rw [if_neg e, if_neg (fun h => e h.symm)]
theorem OutAt.set {w : World} {b : Nat} {out : Nat → Nat} (h : OutAt w b out) {p : Nat} (hp : p ≤ 16) (d : Nat) : OutAt (w.setCell ⟨b, p, none⟩ (.int .i64 d)) b (setO out p d) := by
  unfold OutAt at *
  rw [heap_setCell_same h]
  unfold outArr
  rw [List.setIfInBounds_toArray, outList_set out hp]
theorem OutAt.chg {S : List Nat} {w w' : World} {b : Nat} {out : Nat → Nat} (h : OutAt w b out) (hc : Chg S w w') (hb : b ∉ S) : OutAt w' b out := (hc.block b h.lt hb).trans h
theorem OutAt.below {B : Nat} {w w' : World} {b : Nat} {out : Nat → Nat} (h : OutAt w b out) (hb : Below B w w') (hlt : b < B) : OutAt w' b out := (hb.block b hlt).trans h
theorem infoOut0 : ((Try.prog).info? 148).map (fun i => (i.zero, i.size)) = some (some (.agg (outArr fun _ => 0)), 17) := by kernel_rfl
theorem infoOut : ((Try.prog).info? 148).map (·.size) = some 17 := (zero_of_info infoOut0).2
theorem wpl_load_out {ops : Array Oper} {Q : Exit → Act → World → Prop} {rest : List Oper} {a : Act} {w : World} {dst : Option Tmp} {t : TypeId} {pos : String} {after : Array Edge} {x : Operand} {b : Nat} {out : Nat → Nat}
    (hg : OutAt w b out) (hx : a.eval x = .pointer (some ⟨b, 0, none⟩)) (h : wpList Try.prog ops Q rest (a.put dst (.agg (outArr out))) w) :
    wpList Try.prog ops Q ({ dst, op := .load 148 x, type := t, pos, after, guard := none } :: rest) a w :=
  wpList_load_row rfl _ _ rfl b hx _ (outArr out) (0, 0) _ hg Try.underlying148 rfl (by rw [outArr_size]; exact infoOut) h
theorem heap_setRow_same {w : World} {g : Nat} {old : Array Value} {t : TypeId} (cs : Array Value) (hg : w.heap[g]? = some (.cells old t (0, 0))) : (w.setRow g cs).heap[g]? = some (.cells cs t (0, 0)) := setRow_heap w g old cs t (0, 0) hg
/-- a whole array, stored into a block of the call's own -/
theorem wpl_store_out {ops : Array Oper} {Q : Exit → Act → World → Prop} {rest : List Oper} {a : Act} {w : World} {dst : Option Tmp} {t : TypeId} {pos : String} {after : Array Edge} {x v : Operand} {b : Nat} {old out : Nat → Nat}
    (hg : OutAt w b old) (hx : a.eval x = .pointer (some ⟨b, 0, none⟩)) (hv : a.eval v = .agg (outArr out)) (h : wpList Try.prog ops Q rest (a.put dst undef) (w.setRow b (outArr out))) :
    wpList Try.prog ops Q ({ dst, op := .store 148 x v, type := t, pos, after, guard := none } :: rest) a w := by
  have hr := run_storeVar_row (P := Try.prog) w b 148 148 (outArr old) (outArr out) hg (by rw [outArr_size]; exact infoOut) (by rw [outArr_size, outArr_size]) (outArr_one out)
  unfold wpList
  rw [if_pos (by simp [Region.wanted])]
  left
  unfold Oper.wp
  simp only [execOp, hx, hv, Instr.storeAt, Instr.sureAddr, Sem.run_bind, Sem.run_pure, hr, Result.andThen_ok]
  exact h

/-! ### a slice of parties, cut at its head -/
structure Queue (w : World) (B : Nat) (v : Value) (Q : List Nat) : Prop where
  ex : ∃ g off cap cur, v = .slice (some ⟨g, off, none⟩) Q.length cap ∧ B ≤ g ∧ w.heap[g]? = some (.cells cur 23 (0, 0)) ∧ off + cap ≤ cur.size ∧ Q.length ≤ cap ∧ (∀ j, j < Q.length → cur[off + j]? = (Q[j]?).map pval)
theorem Queue.form {w : World} {B : Nat} {v : Value} {Q : List Nat} (h : Queue w B v Q) : ∃ g off cap, v = .slice (some ⟨g, off, none⟩) Q.length cap ∧ B ≤ g ∧ g < w.heap.size ∧ Q.length ≤ cap ∧ ∀ (j : Nat) p, Q[j]? = some p → w.cell? ⟨g, off + j, none⟩ = some (.int .u8 p) := by
  obtain ⟨g, off, cap, cur, e, hB, hg, h1, h2, h3⟩ := h.ex
  refine ⟨g, off, cap, e, hB, lt_of_block hg, h2, fun j p hp => ?_⟩
  have hj : j < Q.length := (List.getElem?_eq_some_iff.1 hp).1
  simp only [World.cell?, hg]
  have := h3 j hj
  rw [hp] at this
  simpa [pval] using this
theorem Queue.below {w w' : World} {B : Nat} {v : Value} {Q : List Nat} (h : Queue w B v Q) (hb : Below w.heap.size w w') : Queue w' B v Q := by
  obtain ⟨g, off, cap, cur, e, hB, hg, h1, h2, h3⟩ := h.ex
  exact ⟨g, off, cap, cur, e, hB, (hb.block g (lt_of_block hg)).trans hg, h1, h2, h3⟩
theorem Queue.setCell {w : World} {B : Nat} {v : Value} {Q : List Nat} (h : Queue w B v Q) (b o : Nat) (x : Value) (hb : b < B) : Queue (w.setCell ⟨b, o, none⟩ x) B v Q := by
  obtain ⟨g, off, cap, cur, e, hB, hg, h1, h2, h3⟩ := h.ex
  exact ⟨g, off, cap, cur, e, hB, (Below.heap_setCell _ _ _ _ (by simp; omega)).trans hg, h1, h2, h3⟩
theorem Queue.one {w : World} {B p : Nat} (hB : B ≤ w.heap.size) : Queue (w.alloc (.cells #[.int .u8 p] 23)) B (.slice (some ⟨w.heap.size, 0, none⟩) 1 1) [p] :=
  ⟨w.heap.size, 0, 1, _, rfl, hB, alloc_new _ _, by simp, by simp, fun j hj => by simp at hj; subst hj; rfl⟩
theorem Queue.of_owns {w : World} {B base : Nat} {v : Value} {Q : List Nat} (h : w.ownsRow base 23 1 v Q.length (Q.map pval)) (hB : B ≤ base) (hne : Q ≠ []) : Queue w B v Q := by
  rcases h.2 with ⟨e, h0⟩ | ⟨g, cap, cur, e, hb, hg, h1, h2, h3, h4⟩
  · exact absurd (List.eq_nil_of_length_eq_zero h0) hne
  · refine ⟨g, 0, cap, cur, e, by omega, hg, by omega, h1, fun j hj => ?_⟩
    rw [Nat.zero_add, ← List.getElem?_map, ← h4, List.getElem?_take_of_lt (by omega), Array.getElem?_toList]

theorem queue_room {w : World} {B g off n cap : Nat} {L : List Nat} {p : Nat} (h : Queue w B (.slice (some ⟨g, off, none⟩) n cap) L) (hr : L.length + 1 ≤ cap) : n = L.length ∧ B ≤ g ∧ g < w.heap.size ∧ (w.cell? ⟨g, off + L.length, none⟩).isSome = true ∧ w.frozen? ⟨g, off + L.length, none⟩ = false ∧
    Queue (w.setCell ⟨g, off + L.length, none⟩ (pval p)) B (.slice (some ⟨g, off, none⟩) (L.length + 1) cap) (L ++ [p]) := by
  obtain ⟨g', off', cap', cur, e, hB, hg, h1, h2, h3⟩ := h.ex
  simp only [Value.slice.injEq, Option.some.injEq, Addr.mk.injEq, and_true] at e
  obtain ⟨⟨rfl, rfl⟩, rfl, rfl⟩ := e
  refine ⟨rfl, hB, lt_of_block hg, ?_, ?_, ⟨g, off, cap, cur.setIfInBounds (off + L.length) (pval p), by simp, hB, heap_setCell_same hg _, by simpa using h1, by simp; omega, fun j hj => ?_⟩⟩
  · simp only [World.cell?, hg]
    rw [Array.getElem?_eq_getElem (by omega)]; rfl
  · simp [World.frozen?, hg]
  · simp only [List.length_append, List.length_singleton] at hj
    rw [Array.getElem?_setIfInBounds]
    by_cases ej : j = L.length
    · subst ej
      rw [if_pos rfl, if_pos (by omega), List.getElem?_append_right (Nat.le_refl _)]; simp
    · rw [if_neg (by omega), h3 j (by omega), List.getElem?_append_left (by omega)]

/-- append of one party to a slice of the call's own, cut at its head or not -/
theorem wpl_append_party {ops : Array Oper} {Q : Exit → Act → World → Prop} {rest : List Oper} {a : Act} {w : World} {dst : Option Tmp} {t : TypeId} {pos : String} {after : Array Edge} {s x : Operand} {B : Nat} {v : Value} {L : List Nat} {ad : Addr} {p : Nat}
    (hq : Queue w B v L) (hs : a.eval s = v) (hx : a.eval x = .slice (some ad) 1 1) (hc : w.cell? (ad.add 0) = some (pval p)) (hB : B ≤ w.heap.size) (hlen : L.length ≤ 1000)
    (h : ∀ v' w', Queue w' B v' (L ++ [p]) → Below B w w' → wpList Try.prog ops Q rest (a.put dst v') w') :
    wpList Try.prog ops Q ({ dst, op := .call { callee := .builtin .append, args := #[s, x], argTypes := #[118, 118] }, type := t, pos, after, guard := none } :: rest) a w := by
  obtain ⟨i0, hi, iz0, iz1, iz2⟩ := info_parts infoParty
  obtain ⟨g, off, cap, rfl, hg, hgl, hcap, hcells⟩ := hq.form
  refine wpList_append_arg w rfl s x 118 rfl 23 i0 _ 1 1 Try.underlying118 hi iz0 iz1 iz2 rfl (by decide) g off L.length cap (L.map pval) hs (by simp) ?_ ad 1 1 [pval p] hx rfl ?_ (by simp [pval, Value.oneCell']) ?_ (by simp only [maxLen]; omega) (by omega) ?_ ?_
  · intro j u hu
    rw [List.getElem?_map] at hu
    obtain ⟨y, hy, rfl⟩ := Option.map_eq_some_iff.1 hu
    exact hcells j y hy
  · intro j u hu
    have hj : j = 0 := by
      have := (List.getElem?_eq_some_iff.1 hu).1; simpa using this
    subst hj
    rw [hc]; exact hu
  · intro hr j hj
    have hj0 : j = 0 := by simpa using hj
    subst hj0
    have := queue_room (p := p) hq hr
    rw [Nat.mul_one, Nat.add_zero]
    exact ⟨this.2.2.2.1, this.2.2.2.2.1⟩
  · intro hr
    have := queue_room (p := p) hq hr
    refine h _ _ ?_ ?_
    · rw [Nat.mul_one]
      exact this.2.2.2.2.2
    · rw [Nat.mul_one]
      exact (Below.refl B w).setCell (p := ⟨g, off + L.length, none⟩) hg _
  · intro _ v' w' hown hgrow
    refine h v' w' (Queue.of_owns (base := w.heap.size) (by simpa using hown) hB (by simp)) ?_
    exact (Below.refl B w).grown hgrow hB (fun k e => by cases e)
end Go.Proofs.Ytelcdiceongfdaa
end
section
namespace Go.Proofs.Ytelcdiceongfdaa
open Go.RowKit Go.BigFrame
set_option maxRecDepth 100000

def HopsPost (w : World) (out : Nat → Nat) (e : Ending) (w' : World) : Prop := e = .returned (.agg (outArr out)) ∧ Below w.heap.size w w'
def first17 (k : Nat) : Nat → Nat := fun p => if p < k then 17 else 0
theorem first17_set {k : Nat} : setO (first17 k) k 17 = first17 (k + 1) := by
  funext p
  simp only [setO, first17]
  by_cases e : p = k
  · subst e; simp
  · rw [if_neg e]
    by_cases h : p < k
    · rw [if_pos h, if_pos (by omega)]
    · rw [if_neg h, if_neg (by omega)]
theorem outArr_zero : outArr (fun _ => 0) = #[.int .i64 0, .int .i64 0, .int .i64 0, .int .i64 0, .int .i64 0, .int .i64 0, .int .i64 0, .int .i64 0, .int .i64 0, .int .i64 0, .int .i64 0, .int .i64 0, .int .i64 0, .int .i64 0, .int .i64 0, .int .i64 0, .int .i64 0] := rfl
theorem outArr_congr {o o' : Nat → Nat} (h : ∀ p, p ≤ 16 → o p = o' p) : outArr o = outArr o' := by
  unfold outArr outList
  congr 1
  exact List.map_congr_left fun p hp => by rw [h p (by have := List.mem_range.1 hp; omega)]

theorem start_arr (to : Nat) (_h : to ≤ 16) : outArr (setO (first17 17) to 0) = outArr (start to) :=
  outArr_congr fun p hp => by
    simp only [setO, first17, start]
    by_cases e : p = to
    · rw [if_pos e, if_pos e]
    · rw [if_neg e, if_neg e, if_pos (by omega)]
theorem Below.setRow' {B : Nat} {w w' : World} (h : Below B w w') {g : Nat} (hg : B ≤ g) (cs : Array Value) : Below B w (w'.setRow g cs) :=
  ⟨h.os, h.tape, h.output, by simpa using h.size, fun k hk => by
    have : (w'.setRow g cs).heap[k]? = w'.heap[k]? := by
      simp only [World.setRow, Array.getElem?_modify]
      rw [if_neg (by omega)]
    exact this.trans (h.block k hk)⟩
theorem Queue.pop {w : World} {B g off n cap c : Nat} {Q : List Nat} (h : Queue w B (.slice (some ⟨g, off, none⟩) n cap) (c :: Q)) (_hc : cap ≠ 1) : Queue w B (.slice (some ⟨g, off + 1, none⟩) (n - 1) (cap - 1)) Q := by
  obtain ⟨g', off', cap', cur, e, hB, hg, h1, h2, h3⟩ := h.ex
  simp only [Value.slice.injEq, Option.some.injEq, Addr.mk.injEq, and_true] at e
  obtain ⟨⟨rfl, rfl⟩, rfl, rfl⟩ := e
  simp only [List.length_cons] at h2 h3
  refine ⟨g, off + 1, cap - 1, cur, by simp, hB, hg, by omega, by omega, fun j hj => ?_⟩
  have := h3 (j + 1) (by omega)
  rw [show off + 1 + j = off + (j + 1) by omega, this]; simp
theorem Queue.pop1 {w : World} {B g off n c : Nat} {Q : List Nat} (h : Queue w B (.slice (some ⟨g, off, none⟩) n 1) (c :: Q)) : Q = [] ∧ Queue w B (.slice (some ⟨g, off, none⟩) 0 0) Q := by
  obtain ⟨g', off', cap', cur, e, hB, hg, h1, h2, h3⟩ := h.ex
  simp only [Value.slice.injEq, Option.some.injEq, Addr.mk.injEq, and_true] at e
  obtain ⟨⟨rfl, rfl⟩, rfl, rfl⟩ := e
  simp only [List.length_cons] at h2
  have : Q = [] := List.eq_nil_of_length_eq_zero (by omega)
  subst this
  exact ⟨rfl, g, off, 0, cur, rfl, hB, hg, by omega, by simp, fun j hj => by simp at hj⟩

set_option maxHeartbeats 1000000 in
theorem hops_any {w : World} {b : Nat} {G : Caps} (h : GraphAt w b G) (to : Nat) (ht : 1 ≤ to ∧ to ≤ 16) :
    Calls Try.prog 82 #[.pointer (some ⟨b, 0, none⟩), .int .u8 to] w (HopsPost w (dist G to)) := by
  have hb := h.lt
  go_enter Try.func82, Try.ntmps82
  go_wp2
  go_loopg [6, 10] 17 (fun gg s6 s10 wr => ∃ k : Nat, k ≤ 17 ∧ 17 - k ≤ gg ∧ s10 = .int .i64 k ∧ Aside (OutAt wr w.heap.size (fun _ => 0)) ∧ Aside (OutAt wr (w.heap.size + 1) (first17 k)) ∧ Aside (Below w.heap.size w wr))
  case atStart =>
    refine ⟨0, by omega, by omega, rfl, ?_, ?_, ?_⟩
    · show _ = _
      rw [outArr_zero]
      exact (Below.heap_alloc _ _ _ (by simp)).trans (alloc_new w _)
    · show _ = _
      rw [show first17 0 = fun _ => 0 from by funext p; simp [first17], outArr_zero]
      have := alloc_new (w.alloc (.cells #[.int .i64 0, .int .i64 0, .int .i64 0, .int .i64 0, .int .i64 0, .int .i64 0, .int .i64 0, .int .i64 0, .int .i64 0, .int .i64 0, .int .i64 0, .int .i64 0, .int .i64 0, .int .i64 0, .int .i64 0, .int .i64 0, .int .i64 0] 148)) (.cells #[.int .i64 0, .int .i64 0, .int .i64 0, .int .i64 0, .int .i64 0, .int .i64 0, .int .i64 0, .int .i64 0, .int .i64 0, .int .i64 0, .int .i64 0, .int .i64 0, .int .i64 0, .int .i64 0, .int .i64 0, .int .i64 0, .int .i64 0] 148)
      simpa using this
    · exact (by repeat (first | with_reducible exact Below.refl _ _ | with_reducible assumption | refine Below.drew ?_ | refine Below.setCell ?_ (by first | exact Nat.le_refl _ | omega | (simp; done) | (simp; omega)) _ | refine Below.alloc ?_ (by first | exact Nat.le_refl _ | omega | (simp; done) | (simp; omega)) _ | refine Below.tr ?_ (Nat.le_refl _) (by assumption) | exact Below.refl _ _ | assumption))
  case round =>
    obtain ⟨k, hk, hgg, rfl, O0, O1, BW⟩ := hrel
    by_cases hlt : k < 17
    · have hltz : (k : Int) < 17 := by omega
      have hc := O1.out.cell (p := k) (by omega)
      have hf := O1.out.free
      have hl := O1.out.lt
      go_wp2
      have hO := O1.out.set (p := k) (by omega) 17
      rw [first17_set] at hO
      go_roundg (17 - (k + 1))
      case measure => omega
      case rel => exact ⟨k + 1, by omega, by omega, by go_num, (Below.heap_setCell _ _ _ _ (by simp)).trans O0.out, hO, BW.out.setCell (by simp) _⟩
    · obtain rfl : k = 17 := by omega
      have hc := O1.out.cell (p := to) ht.2
      have hf := O1.out.free
      have hl := O1.out.lt
      go_wp2
      obtain ⟨W2, hW2⟩ : ∃ W2, (wr.setCell ⟨w.heap.size + 1, to, none⟩ (.int .i64 0)).alloc (.cells #[.int .u8 to] 23) = W2 := ⟨_, rfl⟩
      have A0 : Aside (OutAt W2 w.heap.size (fun _ => 0)) := by
        show OutAt W2 _ _
        rw [← hW2]
        exact ((Below.heap_alloc _ _ _ (by simp; omega)).trans (Below.heap_setCell _ _ _ _ (by simp))).trans O0.out
      have A1 : Aside (OutAt W2 (w.heap.size + 1) (start to)) := by
        show OutAt W2 _ _
        rw [← hW2]
        have h2 := O1.out.set (p := to) ht.2 0
        unfold OutAt at h2 ⊢
        rw [start_arr to ht.2] at h2
        exact (Below.heap_alloc _ _ _ (by simpa using hl)).trans h2
      have AQ : Aside (Queue W2 (w.heap.size + 2) (.slice (some ⟨wr.heap.size, 0, none⟩) 1 1) [to]) := by
        show Queue W2 _ _ _
        rw [← hW2]
        have := Queue.one (w := wr.setCell ⟨w.heap.size + 1, to, none⟩ (.int .i64 0)) (B := w.heap.size + 2) (p := to) (by simp; omega)
        simpa using this
      have AB : Aside (Below w.heap.size w W2) := by
        show Below _ _ _
        rw [← hW2]
        exact (BW.out.setCell (by simp) _).alloc (by simp; omega) _
      have AS : Aside (w.heap.size + 2 ≤ W2.heap.size) := by
        show _ ≤ _
        rw [← hW2]; simp; omega
      have AI : Aside (BfsI G to (start to) [to]) := bfs_start ht
      rw [hW2]
      have hu : Aside (und (start to) ≤ 17) := und_le _
      clear hW2 O0 O1 BW hc hf hl hk hgg
      clear hlt
      go_loopg [7, 8, 9] 40 (fun gg s7 s8 s9 wr => ∃ (out : Nat → Nat) (Q : List Nat), Aside (Queue wr (w.heap.size + 2) s7 Q) ∧ 2 * und out + Q.length ≤ gg ∧ 2 * und out + Q.length ≤ 40 ∧ Aside (OutAt wr w.heap.size (fun _ => 0)) ∧ Aside (OutAt wr (w.heap.size + 1) out) ∧ Aside (Below w.heap.size w wr) ∧ Aside (w.heap.size + 2 ≤ wr.heap.size) ∧ Aside (BfsI G to out Q))
      case atStart => exact ⟨_, _, AQ, by have := hu.out; simp; omega, by have := hu.out; simp; omega, A0, A1, AB, AS, AI⟩
      case round =>
        obtain ⟨out, Q, RQ, hgg, h40, R0, R1, RB, RS, RI⟩ := hrel
        cases Q with
        | nil =>
          obtain ⟨g, off, cap, hv, hgB, hgl, hcap, hcells⟩ := RQ.out.form
          subst hv
          have hd : outArr out = outArr (dist G to) := by rw [show out = dist G to from funext fun p => bfs_done RI.out p]
          have Hd := Lib.hid hd; clear hd
          go_wp2_with (first | refine wpl_load_out R1.out rfl ?_ | refine wpl_store_out (old := fun _ => 0) R0.out rfl rfl ?_)
          refine bodyPost_ret (v := .agg (outArr out)) (results_cell_row rfl _ _ w.heap.size _ _ (0, 0) _ rfl (heap_setRow_same _ R0.out) Try.underlying148 rfl (by rw [outArr_size]; exact infoOut)) rfl ?_
          exact ⟨by rw [Hd.out], Below.setRow' RB.out (Nat.le_refl _) _⟩
        | cons c Q =>
          obtain ⟨g, off, cap, hv, hgB, hgl, hcap, hcells⟩ := RQ.out.form
          subst hv
          have hJ := bfs_pop RI.out
          have hcr := (RI.out.q c List.mem_cons_self)
          have hcc := hcells 0 c rfl
          rw [Nat.add_zero] at hcc
          obtain ⟨n, hn⟩ : ∃ n, Q.length = n := ⟨_, rfl⟩
          have hlen : (c :: Q).length = n + 1 := by simp [hn]
          rw [hlen] at hgg h40 hcap
          have HN := Lib.hid hn
          have hout : outArr out = outArr out := rfl
          clear hcells hn hout
          have RQ2 : Aside (Queue wr (w.heap.size + 2) (.slice (some ⟨g, off, none⟩) (n + 1) cap) (c :: Q)) := by
            have := RQ.out; rw [hlen] at this; exact this
          rw [hlen]
          have HJ := Lib.hid hJ
          clear RQ hlen hJ RI
          have hc16 := hcr.2
          have hn17 := hcr.1
          clear hcr
          obtain ⟨vq, hvq⟩ : ∃ vq, vq = (if cap = 1 then Value.slice (some ⟨g, off, none⟩) 0 0 else Value.slice (some ⟨g, off + 1, none⟩) n (cap - 1)) := ⟨_, rfl⟩
          have RQ3 : Aside (Queue wr (w.heap.size + 2) vq Q) := by
            show Queue _ _ _ _
            rw [hvq]
            by_cases h1 : cap = 1
            · rw [if_pos h1]; subst h1; exact (Queue.pop1 RQ2.out).2
            · rw [if_neg h1]; exact Queue.pop RQ2.out h1
          have hlim : n ≤ 40 := by omega
          have HG : Aside (2 * und out + (n + 1) ≤ gk) := (show _ ≤ _ from hgg)
          have H40 : Aside (2 * und out + (n + 1) ≤ 40) := (show _ ≤ _ from h40)
          clear hgg h40
          have split : ∀ {p : Prop}, (∀ vq, Queue wr (w.heap.size + 2) vq Q → cap = 1 → n = 0 → vq = Value.slice (some ⟨g, off, none⟩) 0 0 → p) → (∀ vq, Queue wr (w.heap.size + 2) vq Q → cap ≠ 1 → vq = Value.slice (some ⟨g, off + 1, none⟩) n (cap - 1) → p) → p := fun h1 h2 => by
            by_cases hc : cap = 1
            · rw [if_pos hc] at hvq; exact h1 vq RQ3.out hc (by omega) hvq
            · rw [if_neg hc] at hvq; exact h2 vq RQ3.out hc hvq
          have Split := @split
          clear split hvq RQ3 vq
          refine Split (fun vq RQ3 h1 h1n hvq => ?_) (fun vq RQ3 h1 hvq => ?_)
          · subst h1
            subst h1n
            subst hvq
            have RQ3' : Aside (Queue wr (w.heap.size + 2) (.slice (some ⟨g, off, none⟩) 0 0) Q) := RQ3
            clear Split RQ3
            go_wp2
            obtain ⟨wo, rfl⟩ : ∃ wo : World, wo = wr := ⟨_, rfl⟩
            obtain ⟨gko, rfl⟩ : ∃ go : Nat, go = gk := ⟨_, rfl⟩
            go_loopg [7, 9] 17 (fun gg s7 s9 wr => ∃ (o2 : Nat → Nat) (Q2 : List Nat) (p : Nat), (1 ≤ p ∧ p ≤ 17) ∧ 17 - p ≤ gg ∧ s9 = .int .u8 p ∧ Aside (Queue wr (w.heap.size + 2) s7 Q2) ∧ Aside (2 * und o2 + Q2.length + 1 ≤ gko) ∧ Aside (2 * und o2 + Q2.length + 1 ≤ 40) ∧ Aside (OutAt wr w.heap.size (fun _ => 0)) ∧ Aside (OutAt wr (w.heap.size + 1) o2) ∧ Aside (Below w.heap.size w wr) ∧ Aside (w.heap.size + 2 ≤ wr.heap.size) ∧ Aside (BfsJ G to c o2 Q2 p))
            case atStart => exact ⟨out, Q, 1, by omega, by omega, rfl, RQ3', (show _ ≤ _ by have := HG.out; rw [HN.out]; omega), (show _ ≤ _ by have := H40.out; rw [HN.out]; omega), R0, R1, RB, RS, HJ.out⟩
            case round =>
              obtain ⟨o2, Q2, p, hp, hg2, rfl, TQ, TG, T40, T0, T1, TB, TS, TJ⟩ := hrel
              by_cases hlt : p < 17
              · have hltz : (p : Int) < 17 := by omega
                have hp16 : p ≤ 16 := by omega
                have hcp := T1.out.cell hp16
                have hcc2 := T1.out.cell hc16.2
                have hf := T1.out.free
                have hl := T1.out.lt
                have hGr := (h.below TB.out)
                have hTS := TS.out
                by_cases ho : o2 p = 17
                · rw [ho] at hcp
                  have Ho := Lib.hid ho; clear ho
                  obtain ⟨v, hv⟩ : ∃ v, capOf G p c = v := ⟨_, rfl⟩
                  by_cases hpos : 0 < v
                  · have ha : Aside (adj G p c = true) := (show _ = _ from decide_eq_true (by rw [hv]; exact hpos))
                    have Hv := Lib.hid hv; clear hv
                    obtain ⟨d, hd⟩ : ∃ d, o2 c = d := ⟨_, rfl⟩
                    have hd16 : d < 17 := by
                      have := (TJ.out.ok c TJ.out.cur.1).lt hc16
                      omega
                    rw [hd] at hcc2
                    have Hd := Lib.hid hd; clear hd
                    go_wp2_with (first | (go_at_call 78; refine (cap_any hGr p c (by omega) (by omega)).mono ?_; rintro e w' ⟨rfl, rfl⟩; rw [Hv.out]) | refine wpl_append_party (B := w.heap.size + 2) (p := p) (L := Q2) ((TQ.out.setCell (w.heap.size + 1) p _ (by omega)).below ((Below.refl _ _).alloc (Nat.le_refl _) _)) rfl rfl ?_ ?_ ?_ ?_)
                    · exact World.news_of_block (by have := alloc_new (wr.setCell ⟨w.heap.size + 1, p, none⟩ (.int .i64 ((d : Int) + 1))) (.cells #[.int .u8 p] 23); simpa using this) 0 _ rfl
                    · simp; omega
                    · have := T40.out; omega
                    · intro v' w' hq' hb'
                      have hB2 : Aside (Below w.heap.size w w') := by
                        refine (TB.out.trans ?_ : Below w.heap.size w w')
                        exact (((Below.refl w.heap.size wr).setCell (p := ⟨w.heap.size + 1, p, none⟩) (by simp) _).alloc (by simp; omega) _).trans ⟨hb'.os, hb'.tape, hb'.output, hb'.size, fun k hk => hb'.block k (by omega)⟩
                      have ho2 : Aside (OutAt w' (w.heap.size + 1) (setO o2 p (d + 1))) := by
                        have h2 := T1.out.set hp16 (d + 1)
                        exact (hb'.block _ (by omega)).trans ((Below.heap_alloc _ _ _ (by simpa using hl)).trans h2)
                      have h00 : Aside (OutAt w' w.heap.size (fun _ => 0)) :=
                        (hb'.block _ (by omega)).trans ((Below.heap_alloc _ _ _ (by simp; omega)).trans ((Below.heap_setCell _ _ _ _ (by simp)).trans T0.out))
                      have hS2 : Aside (w.heap.size + 2 ≤ w'.heap.size) := (show _ ≤ _ by have := hb'.size; simp at this; omega)
                      have hJ2 : Aside (BfsJ G to c (setO o2 p (d + 1)) (Q2 ++ [p]) (p + 1)) := (show BfsJ _ _ _ _ _ _ by
                        have := bfs_take TJ.out Ho.out ha.out
                        rw [Hd.out] at this; exact this)
                      have hu2 := und_set (d := d + 1) Ho.out hp16 (by have := (TJ.out.ok c TJ.out.cur.1).lt hc16; have := Hd.out; omega)
                      have HU := Lib.hid hu2
                      clear hu2
                      have hq2 : Aside (Queue w' (w.heap.size + 2) v' (Q2 ++ [p])) := hq'
                      clear hq' hb'
                      go_wp2
                      go_roundg (17 - (p + 1))
                      case measure => omega
                      case rel => exact ⟨setO o2 p (d + 1), Q2 ++ [p], p + 1, by omega, by omega, by go_num, hq2, (show _ ≤ _ by have := HU.out; have := TG.out; simp; omega), (show _ ≤ _ by have := HU.out; have := T40.out; simp; omega), h00, ho2, hB2, hS2, hJ2⟩
                  · have ha : Aside (adj G p c = false) := (show _ = _ from decide_eq_false (by rw [hv]; exact hpos))
                    have Hv := Lib.hid hv; clear hv
                    have hJ2 : Aside (BfsJ G to c o2 Q2 (p + 1)) := (show BfsJ _ _ _ _ _ _ from bfs_skip TJ.out (.inr ha.out))
                    go_wp2_with (first | (go_at_call 78; refine (cap_any hGr p c (by omega) (by omega)).mono ?_; rintro e w' ⟨rfl, rfl⟩; rw [Hv.out]))
                    go_roundg (17 - (p + 1))
                    case measure => omega
                    case rel => exact ⟨o2, Q2, p + 1, by omega, by omega, by go_num, TQ, TG, T40, T0, T1, TB, TS, hJ2⟩
                · have hJ2 : Aside (BfsJ G to c o2 Q2 (p + 1)) := (show BfsJ _ _ _ _ _ _ from bfs_skip TJ.out (.inl ho))
                  have hob : ((o2 p : Int) == 17) = false := by simp; omega
                  clear ho
                  go_wp2
                  go_roundg (17 - (p + 1))
                  case measure => omega
                  case rel => exact ⟨o2, Q2, p + 1, by omega, by omega, by go_num, TQ, TG, T40, T0, T1, TB, TS, hJ2⟩
              · have hltz : ¬ (p : Int) < 17 := by omega
                obtain rfl : p = 17 := by omega
                have hI2 : Aside (BfsI G to o2 Q2) := (show BfsI _ _ _ _ from bfs_end TJ.out)
                have hT : 2 * und o2 + Q2.length < gko := (show _ < _ by have := TG.out; omega)
                go_wp2
                go_roundg (2 * und o2 + Q2.length)
                case measure => exact hT
                case rel => exact ⟨o2, Q2, TQ, Nat.le_refl _, by have := T40.out; omega, T0, T1, TB, TS, hI2⟩
          · subst hvq
            have RQ3' : Aside (Queue wr (w.heap.size + 2) (.slice (some ⟨g, off + 1, none⟩) n (cap - 1)) Q) := RQ3
            clear Split RQ3
            go_wp2
            obtain ⟨wo, rfl⟩ : ∃ wo : World, wo = wr := ⟨_, rfl⟩
            obtain ⟨gko, rfl⟩ : ∃ go : Nat, go = gk := ⟨_, rfl⟩
            go_loopg [7, 9] 17 (fun gg s7 s9 wr => ∃ (o2 : Nat → Nat) (Q2 : List Nat) (p : Nat), (1 ≤ p ∧ p ≤ 17) ∧ 17 - p ≤ gg ∧ s9 = .int .u8 p ∧ Aside (Queue wr (w.heap.size + 2) s7 Q2) ∧ Aside (2 * und o2 + Q2.length + 1 ≤ gko) ∧ Aside (2 * und o2 + Q2.length + 1 ≤ 40) ∧ Aside (OutAt wr w.heap.size (fun _ => 0)) ∧ Aside (OutAt wr (w.heap.size + 1) o2) ∧ Aside (Below w.heap.size w wr) ∧ Aside (w.heap.size + 2 ≤ wr.heap.size) ∧ Aside (BfsJ G to c o2 Q2 p))
            case atStart => exact ⟨out, Q, 1, by omega, by omega, rfl, RQ3', (show _ ≤ _ by have := HG.out; rw [HN.out]; omega), (show _ ≤ _ by have := H40.out; rw [HN.out]; omega), R0, R1, RB, RS, HJ.out⟩
            case round =>
              obtain ⟨o2, Q2, p, hp, hg2, rfl, TQ, TG, T40, T0, T1, TB, TS, TJ⟩ := hrel
              by_cases hlt : p < 17
              · have hltz : (p : Int) < 17 := by omega
                have hp16 : p ≤ 16 := by omega
                have hcp := T1.out.cell hp16
                have hcc2 := T1.out.cell hc16.2
                have hf := T1.out.free
                have hl := T1.out.lt
                have hGr := (h.below TB.out)
                have hTS := TS.out
                by_cases ho : o2 p = 17
                · rw [ho] at hcp
                  have Ho := Lib.hid ho; clear ho
                  obtain ⟨v, hv⟩ : ∃ v, capOf G p c = v := ⟨_, rfl⟩
                  by_cases hpos : 0 < v
                  · have ha : Aside (adj G p c = true) := (show _ = _ from decide_eq_true (by rw [hv]; exact hpos))
                    have Hv := Lib.hid hv; clear hv
                    obtain ⟨d, hd⟩ : ∃ d, o2 c = d := ⟨_, rfl⟩
                    have hd16 : d < 17 := by
                      have := (TJ.out.ok c TJ.out.cur.1).lt hc16
                      omega
                    rw [hd] at hcc2
                    have Hd := Lib.hid hd; clear hd
                    go_wp2_with (first | (go_at_call 78; refine (cap_any hGr p c (by omega) (by omega)).mono ?_; rintro e w' ⟨rfl, rfl⟩; rw [Hv.out]) | refine wpl_append_party (B := w.heap.size + 2) (p := p) (L := Q2) ((TQ.out.setCell (w.heap.size + 1) p _ (by omega)).below ((Below.refl _ _).alloc (Nat.le_refl _) _)) rfl rfl ?_ ?_ ?_ ?_)
                    · exact World.news_of_block (by have := alloc_new (wr.setCell ⟨w.heap.size + 1, p, none⟩ (.int .i64 ((d : Int) + 1))) (.cells #[.int .u8 p] 23); simpa using this) 0 _ rfl
                    · simp; omega
                    · have := T40.out; omega
                    · intro v' w' hq' hb'
                      have hB2 : Aside (Below w.heap.size w w') := by
                        refine (TB.out.trans ?_ : Below w.heap.size w w')
                        exact (((Below.refl w.heap.size wr).setCell (p := ⟨w.heap.size + 1, p, none⟩) (by simp) _).alloc (by simp; omega) _).trans ⟨hb'.os, hb'.tape, hb'.output, hb'.size, fun k hk => hb'.block k (by omega)⟩
                      have ho2 : Aside (OutAt w' (w.heap.size + 1) (setO o2 p (d + 1))) := by
                        have h2 := T1.out.set hp16 (d + 1)
                        exact (hb'.block _ (by omega)).trans ((Below.heap_alloc _ _ _ (by simpa using hl)).trans h2)
                      have h00 : Aside (OutAt w' w.heap.size (fun _ => 0)) :=
                        (hb'.block _ (by omega)).trans ((Below.heap_alloc _ _ _ (by simp; omega)).trans ((Below.heap_setCell _ _ _ _ (by simp)).trans T0.out))
                      have hS2 : Aside (w.heap.size + 2 ≤ w'.heap.size) := (show _ ≤ _ by have := hb'.size; simp at this; omega)
                      have hJ2 : Aside (BfsJ G to c (setO o2 p (d + 1)) (Q2 ++ [p]) (p + 1)) := (show BfsJ _ _ _ _ _ _ by
                        have := bfs_take TJ.out Ho.out ha.out
                        rw [Hd.out] at this; exact this)
                      have hu2 := und_set (d := d + 1) Ho.out hp16 (by have := (TJ.out.ok c TJ.out.cur.1).lt hc16; have := Hd.out; omega)
                      have HU := Lib.hid hu2
                      clear hu2
                      have hq2 : Aside (Queue w' (w.heap.size + 2) v' (Q2 ++ [p])) := hq'
                      clear hq' hb'
                      go_wp2
                      go_roundg (17 - (p + 1))
                      case measure => omega
                      case rel => exact ⟨setO o2 p (d + 1), Q2 ++ [p], p + 1, by omega, by omega, by go_num, hq2, (show _ ≤ _ by have := HU.out; have := TG.out; simp; omega), (show _ ≤ _ by have := HU.out; have := T40.out; simp; omega), h00, ho2, hB2, hS2, hJ2⟩
                  · have ha : Aside (adj G p c = false) := (show _ = _ from decide_eq_false (by rw [hv]; exact hpos))
                    have Hv := Lib.hid hv; clear hv
                    have hJ2 : Aside (BfsJ G to c o2 Q2 (p + 1)) := (show BfsJ _ _ _ _ _ _ from bfs_skip TJ.out (.inr ha.out))
                    go_wp2_with (first | (go_at_call 78; refine (cap_any hGr p c (by omega) (by omega)).mono ?_; rintro e w' ⟨rfl, rfl⟩; rw [Hv.out]))
                    go_roundg (17 - (p + 1))
                    case measure => omega
                    case rel => exact ⟨o2, Q2, p + 1, by omega, by omega, by go_num, TQ, TG, T40, T0, T1, TB, TS, hJ2⟩
                · have hJ2 : Aside (BfsJ G to c o2 Q2 (p + 1)) := (show BfsJ _ _ _ _ _ _ from bfs_skip TJ.out (.inl ho))
                  have hob : ((o2 p : Int) == 17) = false := by simp; omega
                  clear ho
                  go_wp2
                  go_roundg (17 - (p + 1))
                  case measure => omega
                  case rel => exact ⟨o2, Q2, p + 1, by omega, by omega, by go_num, TQ, TG, T40, T0, T1, TB, TS, hJ2⟩
              · have hltz : ¬ (p : Int) < 17 := by omega
                obtain rfl : p = 17 := by omega
                have hI2 : Aside (BfsI G to o2 Q2) := (show BfsI _ _ _ _ from bfs_end TJ.out)
                have hT : 2 * und o2 + Q2.length < gko := (show _ < _ by have := TG.out; omega)
                go_wp2
                go_roundg (2 * und o2 + Q2.length)
                case measure => exact hT
                case rel => exact ⟨o2, Q2, TQ, Nat.le_refl _, by have := T40.out; omega, T0, T1, TB, TS, hI2⟩
end Go.Proofs.Ytelcdiceongfdaa
end
section
namespace Go.Proofs.Ytelcdiceongfdaa
open Go.RowKit Go.BigFrame
set_option maxRecDepth 100000

theorem pathsMay (p : Nat) (hp : p < 256) (w : World) :
    Calls Try.prog 81 #[.int .u8 p] w fun e w' => e = .returned (.bool (decide (1 ≤ p ∧ p ≤ 16))) ∧ w = w' := by
  by_cases h1 : 1 ≤ p
  · go_enter Try.func81, Try.ntmps81
    go_wp2
    go_ret
    exact ⟨ret_bool (by rw [Bool.eq_iff_iff]; simp [h1] <;> omega), rfl⟩
  · go_enter Try.func81, Try.ntmps81
    go_wp2
    go_ret
    exact ⟨ret_bool (by simp <;> omega), rfl⟩

/-- a whole array, stored: the world behind it -/
theorem wpl_store_out' {ops : Array Oper} {Q : Exit → Act → World → Prop} {rest : List Oper} {a : Act} {w : World} {dst : Option Tmp} {t : TypeId} {pos : String} {after : Array Edge} {x v : Operand} {b : Nat} {old out : Nat → Nat}
    (hg : OutAt w b old) (hx : a.eval x = .pointer (some ⟨b, 0, none⟩)) (hv : a.eval v = .agg (outArr out)) (h : ∀ w', OutAt w' b out → Chg [b] w w' → w'.heap.size = w.heap.size → wpList Try.prog ops Q rest (a.put dst undef) w') :
    wpList Try.prog ops Q ({ dst, op := .store 148 x v, type := t, pos, after, guard := none } :: rest) a w :=
  wpl_store_out hg hx hv (h _ (heap_setRow_same _ hg) ⟨rfl, rfl, rfl, by simp, fun k _ hn => by
    simp only [World.setRow, Array.getElem?_modify]
    rw [if_neg (by intro e; exact hn (by simp [e]))]⟩ (by simp))
theorem outZero_new (w : World) : OutAt (w.alloc (.cells #[.int .i64 0, .int .i64 0, .int .i64 0, .int .i64 0, .int .i64 0, .int .i64 0, .int .i64 0, .int .i64 0, .int .i64 0, .int .i64 0, .int .i64 0, .int .i64 0, .int .i64 0, .int .i64 0, .int .i64 0, .int .i64 0, .int .i64 0] 148)) w.heap.size (fun _ => 0) := by
  show _ = _
  rw [outArr_zero]
  exact alloc_new w _

def NonePost (w : World) (e : Ending) (w' : World) : Prop := e = .returned (.slice none 0 0) ∧ Below w.heap.size w w'
theorem short_bad {w : World} (b f t : Nat) (hf : f < 256) (ht : t < 256) (h : ¬ ((1 ≤ f ∧ f ≤ 16) ∧ (1 ≤ t ∧ t ≤ 16) ∧ f ≠ t)) :
    Calls Try.prog 77 #[.pointer (some ⟨b, 0, none⟩), .int .u8 f, .int .u8 t] w (NonePost w) := by
  by_cases h1 : 1 ≤ f ∧ f ≤ 16
  · have e1 := Lib.hid (decide_eq_true h1)
    by_cases h2 : 1 ≤ t ∧ t ≤ 16
    · have e2 := Lib.hid (decide_eq_true h2)
      have h3 : f = t := by omega
      subst h3
      go_enter Try.func77, Try.ntmps77
      go_wp2_with (go_at_call 81; refine (pathsMay _ (by omega) _).mono ?_; rintro e w' ⟨rfl, rfl⟩; first | rw [e1.out] | rw [e2.out])
      go_ret
      exact ⟨rfl, (by repeat (first | with_reducible exact Below.refl _ _ | with_reducible assumption | refine Below.drew ?_ | refine Below.setCell ?_ (by first | exact Nat.le_refl _ | omega | (simp; done) | (simp; omega)) _ | refine Below.alloc ?_ (by first | exact Nat.le_refl _ | omega | (simp; done) | (simp; omega)) _ | refine Below.tr ?_ (Nat.le_refl _) (by assumption) | exact Below.refl _ _ | assumption))⟩
    · have e2 := Lib.hid (decide_eq_false h2)
      go_enter Try.func77, Try.ntmps77
      go_wp2_with (go_at_call 81; refine (pathsMay _ (by omega) _).mono ?_; rintro e w' ⟨rfl, rfl⟩; first | rw [e1.out] | rw [e2.out])
      go_ret
      exact ⟨rfl, (by repeat (first | with_reducible exact Below.refl _ _ | with_reducible assumption | refine Below.drew ?_ | refine Below.setCell ?_ (by first | exact Nat.le_refl _ | omega | (simp; done) | (simp; omega)) _ | refine Below.alloc ?_ (by first | exact Nat.le_refl _ | omega | (simp; done) | (simp; omega)) _ | refine Below.tr ?_ (Nat.le_refl _) (by assumption) | exact Below.refl _ _ | assumption))⟩
  · have e1 := Lib.hid (decide_eq_false h1)
    go_enter Try.func77, Try.ntmps77
    go_wp2_with (go_at_call 81; refine (pathsMay _ (by omega) _).mono ?_; rintro e w' ⟨rfl, rfl⟩; first | rw [e1.out])
    go_ret
    exact ⟨rfl, (by repeat (first | with_reducible exact Below.refl _ _ | with_reducible assumption | refine Below.drew ?_ | refine Below.setCell ?_ (by first | exact Nat.le_refl _ | omega | (simp; done) | (simp; omega)) _ | refine Below.alloc ?_ (by first | exact Nat.le_refl _ | omega | (simp; done) | (simp; omega)) _ | refine Below.tr ?_ (Nat.le_refl _) (by assumption) | exact Below.refl _ _ | assumption))⟩

theorem short_far {w : World} {b : Nat} {G : Caps} (h : GraphAt w b G) (f t : Nat) (hf : 1 ≤ f ∧ f ≤ 16) (ht : 1 ≤ t ∧ t ≤ 16) (hft : f ≠ t) (hd : dist G t f = 17) :
    Calls Try.prog 77 #[.pointer (some ⟨b, 0, none⟩), .int .u8 f, .int .u8 t] w (NonePost w) := by
  have e1 := Lib.hid (decide_eq_true hf)
  have e2 := Lib.hid (decide_eq_true ht)
  have hne : ((f : Int) == t) = false := by simp; omega
  have HD := Lib.hid hd; clear hd
  go_enter Try.func77, Try.ntmps77
  go_wp2_with (first | (go_at_call 81; refine (pathsMay _ (by omega) _).mono ?_; rintro e w' ⟨rfl, rfl⟩; first | rw [e1.out] | rw [e2.out]) | (go_at_call 82; refine (hops_any (h.below (by repeat (first | with_reducible exact Below.refl _ _ | with_reducible assumption | refine Below.drew ?_ | refine Below.setCell ?_ (by first | exact Nat.le_refl _ | omega | (simp; done) | (simp; omega)) _ | refine Below.alloc ?_ (by first | exact Nat.le_refl _ | omega | (simp; done) | (simp; omega)) _ | refine Below.tr ?_ (Nat.le_refl _) (by assumption) | exact Below.refl _ _ | assumption))) t ht).mono ?_; rintro e w1 ⟨rfl, hb1⟩) | (refine wpl_store_out' (b := w1.heap.size) (old := fun _ => 0) (outZero_new w1) rfl rfl ?_; intro w2 hO2 hC2 hz2; have hc2 := hO2.cell hf.2; rw [HD.out] at hc2; have HZ := Lib.hid hz2; clear hz2))
  go_ret
  refine ⟨rfl, hb1.trans (Chg.below (Chg.trans (S := []) (Chg.of_below ((Below.refl _ _).alloc (Nat.le_refl _) _)) hC2 (fun x hx hlt => by simp at hx; omega)) |>.mono hb1.size)⟩

theorem run_makeWay : ∀ (d : Nat), d < 16 → ∀ (w : World), (Instr.makeSlice 118 (.int .i64 1) (.int .i64 ((d : Int) + 1))).run Try.prog w = .ok (.slice (some ⟨w.heap.size, 0, none⟩) 1 (d + 1)) (w.alloc (.cells (Array.replicate (d + 1) (.int .u8 0)) 23))
  | 0, _, w => by kernel_rfl
  | 1, _, w => by kernel_rfl
  | 2, _, w => by kernel_rfl
  | 3, _, w => by kernel_rfl
  | 4, _, w => by kernel_rfl
  | 5, _, w => by kernel_rfl
  | 6, _, w => by kernel_rfl
  | 7, _, w => by kernel_rfl
  | 8, _, w => by kernel_rfl
  | 9, _, w => by kernel_rfl
  | 10, _, w => by kernel_rfl
  | 11, _, w => by kernel_rfl
  | 12, _, w => by kernel_rfl
  | 13, _, w => by kernel_rfl
  | 14, _, w => by kernel_rfl
  | 15, _, w => by kernel_rfl
  | n + 16, h, _ => absurd h (by omega)
theorem wpl_make_way {ops : Array Oper} {Q : Exit → Act → World → Prop} {rest : List Oper} {a : Act} {w : World} {dst : Option Tmp} {t : TypeId} {pos : String} {after : Array Edge} {l c : Operand} {d : Nat}
    (hd : d < 16) (hl : a.eval l = .int .i64 1) (hc : a.eval c = .int .i64 ((d : Int) + 1)) (h : wpList Try.prog ops Q rest (a.put dst (.slice (some ⟨w.heap.size, 0, none⟩) 1 (d + 1))) (w.alloc (.cells (Array.replicate (d + 1) (.int .u8 0)) 23))) :
    wpList Try.prog ops Q ({ dst, op := .makeSlice 118 l c, type := t, pos, after, guard := none } :: rest) a w := by
  unfold wpList
  rw [if_pos (by simp [Region.wanted])]
  left
  unfold Oper.wp
  simp only [execOp, hl, hc, Sem.run_bind, run_makeWay d hd, Result.andThen_ok]
  exact h

theorem wayFrom_head (G : Caps) (to : Nat) (d c : Nat) : wayFrom G to d c = [c] ++ (wayFrom G to d c).tail := by
  cases d <;> rfl
/-- a way: a row of the call's own -/
def WayPost (w : World) (l : List Nat) (e : Ending) (w' : World) : Prop :=
  ∃ g c, e = .returned (.slice (some ⟨g, 0, none⟩) l.length c) ∧ Below w.heap.size w w' ∧ w.heap.size ≤ g ∧ g < w'.heap.size ∧ ∀ (j : Nat) p, l[j]? = some p → w'.cell? ⟨g, j, none⟩ = some (.int .u8 p)

theorem ownsRow_later {w w' : World} {base : Nat} {e : TypeId} {size : Nat} {v : Value} {n : Nat} {xs : List Value} (h : w.ownsRow base e size v n xs) (hb : Below w.heap.size w w') : w'.ownsRow base e size v n xs := by
  refine ⟨h.1, ?_⟩
  rcases h.2 with h0 | ⟨g, cap, cur, e1, e2, hg, e3⟩
  · exact .inl h0
  · exact .inr ⟨g, cap, cur, e1, e2, (hb.block g (lt_of_block hg)).trans hg, e3⟩

set_option maxHeartbeats 1000000 in
theorem short_way {w : World} {b : Nat} {G : Caps} (h : GraphAt w b G) (f t : Nat) (hf : 1 ≤ f ∧ f ≤ 16) (ht : 1 ≤ t ∧ t ≤ 16) (hft : f ≠ t) (hd : dist G t f ≠ 17) :
    Calls Try.prog 77 #[.pointer (some ⟨b, 0, none⟩), .int .u8 f, .int .u8 t] w (WayPost w (wayFrom G t (dist G t f) f)) := by
  obtain ⟨i0, hi, iz0, iz1, iz2⟩ := info_parts infoParty
  have e1 := Lib.hid (decide_eq_true hf)
  have e2 := Lib.hid (decide_eq_true ht)
  have hne : ((f : Int) == t) = false := by simp; omega
  have hlt := (isDist_dist hd).lt hf
  obtain ⟨d, hd0⟩ : ∃ d, dist G t f = d := ⟨_, rfl⟩
  rw [hd0] at hlt ⊢
  have hd1 : ((d : Int) == 17) = false := by simp; omega
  have HD := Lib.hid hd0; clear hd0 hd
  go_enter Try.func77, Try.ntmps77
  go_wp2_with (first | (go_at_call 81; refine (pathsMay _ (by omega) _).mono ?_; rintro e w' ⟨rfl, rfl⟩; first | rw [e1.out] | rw [e2.out]) | (go_at_call 82; refine (hops_any (h.below (by repeat (first | with_reducible exact Below.refl _ _ | with_reducible assumption | refine Below.drew ?_ | refine Below.setCell ?_ (by first | exact Nat.le_refl _ | omega | (simp; done) | (simp; omega)) _ | refine Below.alloc ?_ (by first | exact Nat.le_refl _ | omega | (simp; done) | (simp; omega)) _ | refine Below.tr ?_ (Nat.le_refl _) (by assumption) | exact Below.refl _ _ | assumption))) t ht).mono ?_; rintro e w1 ⟨rfl, hb1⟩) | (refine wpl_store_out' (b := w1.heap.size) (old := fun _ => 0) (outZero_new w1) rfl rfl ?_; intro w2 hO2 hC2 hz2; have hc2 := hO2.cell hf.2; rw [HD.out] at hc2; have HZ := Lib.hid hz2; clear hz2) | refine wpl_make_way (d := d) (by omega) rfl rfl ?_)
  have hS1 : w.heap.size + 0 ≤ w1.heap.size := hb1.size
  have hz2 : w2.heap.size = w1.heap.size + 1 := by have := HZ.out; simpa using this
  have hB2 : Below w.heap.size w w2 := hb1.trans (Chg.below (Chg.trans (S := []) (Chg.of_below ((Below.refl _ _).alloc (Nat.le_refl _) _)) hC2 (fun x hx hlt => by simp at hx; omega)) |>.mono hb1.size)
  obtain ⟨W3, hW3⟩ : ∃ W3, w2.alloc (.cells ((Array.replicate (d + 1) (.int .u8 0)).setIfInBounds 0 (.int .u8 f)) 23) = W3 := ⟨_, rfl⟩
  have AB : Aside (Below w.heap.size w W3) := (show Below _ _ _ by rw [← hW3]; exact hB2.alloc (by omega) _)
  have AO : Aside (OutAt W3 w1.heap.size (dist G t)) := (show OutAt _ _ _ by rw [← hW3]; exact (Below.heap_alloc _ _ _ (by omega)).trans hO2)
  have AQ : Aside (W3.ownsRow w2.heap.size 23 1 (.slice (some ⟨w2.heap.size, 0, none⟩) 1 (d + 1)) 1 [pval f]) := (show World.ownsRow _ _ _ _ _ _ _ by
    rw [← hW3]
    refine ⟨rfl, .inr ⟨w2.heap.size, d + 1, _, rfl, Nat.le_refl _, alloc_new _ _, by omega, by simp only [maxLen]; omega, by simp, ?_⟩⟩
    simp [pval, List.replicate_succ])
  have AS : Aside (w2.heap.size ≤ W3.heap.size) := (show _ ≤ _ by rw [← hW3]; simp)
  have HS : Aside (w2.heap.size = w1.heap.size + 1) := hz2
  have HS1 : Aside (w.heap.size ≤ w1.heap.size) := hS1
  have hw1 : w1.heap.size < w2.heap.size := by omega
  have hw0 : w.heap.size ≤ w2.heap.size := by omega
  have hbw := h.lt
  rw [hW3]
  clear hW3 hB2 hz2 HZ hS1 hO2 hC2 hc2 hb1
  go_loopg [8, 9, 10] 16 (fun gg s8 s9 s10 wr => ∃ (L : List Nat) (c e : Nat), s9 = .int .u8 c ∧ e ≤ gg ∧ e ≤ 15 ∧ (1 ≤ c ∧ c ≤ 16) ∧ Aside (wr.ownsRow w2.heap.size 23 1 s8 L.length (L.map pval)) ∧ Aside (L.length + e = d + 1) ∧ Aside (dist G t c = e) ∧ Aside (wayFrom G t d f = L ++ (wayFrom G t e c).tail) ∧ Aside (Below w.heap.size w wr) ∧ Aside (OutAt wr w1.heap.size (dist G t)) ∧ Aside (w2.heap.size ≤ wr.heap.size))
  case atStart => exact ⟨[f], f, d, rfl, by omega, by omega, hf, AQ, (show _ = _ by simp; omega), HD.out, (show _ = _ from wayFrom_head _ _ _ _), AB, AO, AS⟩
  case round =>
    obtain ⟨L, c, e, rfl, hgg, he15, hc16, RQ, RL, RD, RW, RB, RO, RS⟩ := hrel
    by_cases hct : c = t
    · have he0 : e = 0 := by rw [← RD.out]; exact dist_zero.2 hct
      have hL : wayFrom G t d f = L := by
        have := RW.out
        rw [he0] at this
        simpa [wayFrom] using this
      have HL := Lib.hid hL; clear hL
      have hneq : ((c : Int) != t) = false := by simp; omega
      obtain ⟨ad, cap, hv⟩ := ownsRow_slice RQ.out
      subst hv
      clear hct
      go_wp2
      go_ret
      rcases ownsRow_clip RQ.out with ⟨h1, h2⟩ | ⟨g, h1, h2, h3, h4⟩
      · exfalso
        have := RL.out
        omega
      · subst h1
        refine ⟨g, cap, by rw [HL.out]; rfl, RB.out, by omega, h3, fun j p hp => ?_⟩
        rw [HL.out] at hp
        exact h4 j _ (by rw [List.getElem?_map, hp]; rfl)
    · have hneq : ((c : Int) != t) = true := by rw [bne_iff_ne]; omega
      obtain ⟨e', he⟩ : ∃ e', e = e' + 1 := ⟨e - 1, by
        have : e ≠ 0 := fun h0 => hct (dist_zero.1 (RD.out.trans h0))
        omega⟩
      subst he
      have hN := next_spec (G := G) (to := t) (c := c) (d := e') RD.out (by omega)
      obtain ⟨n, hn⟩ : ∃ n, next G t c = n := ⟨_, rfl⟩
      rw [hn] at hN
      have Hn := Lib.hid hn; clear hn
      obtain ⟨N1, N2, N3, N4⟩ := hN
      have HN1 := Lib.hid N1; have HN2 := Lib.hid N2; have HN4 := Lib.hid N4
      clear N1 N2 N4
      obtain ⟨wo, rfl⟩ : ∃ wo : World, wo = wr := ⟨_, rfl⟩
      obtain ⟨gko, rfl⟩ : ∃ go : Nat, go = gk := ⟨_, rfl⟩
      obtain ⟨ad, cap, hv⟩ := ownsRow_slice RQ.out
      subst hv
      go_wp2
      go_loopg [9, 10] 17 (fun gg s9 s10 wr => ∃ p : Nat, (1 ≤ p ∧ p ≤ n) ∧ 17 - p ≤ gg ∧ s9 = .int .u8 c ∧ s10 = .int .u8 p ∧ Aside (wr.ownsRow w2.heap.size 23 1 (.slice ad L.length cap) L.length (L.map pval)) ∧ Aside (Below w.heap.size w wr) ∧ Aside (OutAt wr w1.heap.size (dist G t)) ∧ Aside (w2.heap.size ≤ wr.heap.size))
      case atStart => exact ⟨1, by omega, by omega, rfl, rfl, RQ, RB, RO, RS⟩
      case round =>
        obtain ⟨p, hp, hg2, rfl, rfl, TQ, TB, TO, TS⟩ := hrel
        have hltz : (p : Int) < 17 := by omega
        have hcp := TO.out.cell (p := p) (by omega)
        have hcc := TO.out.cell (p := c) hc16.2
        rw [RD.out] at hcc
        have hol := TO.out.lt
        have hGr := (h.below TB.out)
        have hGl := hGr.lt
        obtain ⟨v, hv⟩ : ∃ v, capOf G c p = v := ⟨_, rfl⟩
        have hcap : Hid (∀ W, GraphAt W b G → Calls Try.prog 78 #[.pointer (some ⟨b, 0, none⟩), .int .u8 c, .int .u8 p] W fun e w' => e = .returned (.int .i64 v) ∧ W = w') := fun W hW => by
          rw [← hv]; exact cap_any hW c p (by omega) (by omega)
        have hf := TO.out.free
        by_cases hpn : p = n
        · have hq : dist G t p = e' := by rw [hpn]; exact HN1.out
          rw [hq] at hcp
          have hpos : 0 < v := by
            have := HN2.out
            rw [← hpn] at this
            rw [← hv]
            exact of_decide_eq_true this
          have Hq : Hid (dist G t p = e') := hq
          have Hpn : Hid (p = n) := hpn
          have Hv := Lib.hid hv; clear hv hq hpn
          go_wp2
          refine wp_region_later (by kernel_rfl) (by kernel_rfl) ?_; (repeat (go_big_quiet_step ((go_at_call 78; exact Calls.later_same (hcap.out _ (hGr.below (Later.b _))))))); refine wpQuiet_nil ?_; rintro _ ⟨W, rfl⟩
          have hWb := W.b
          have RQw := ownsRow_later TQ.out hWb
          have hWB : Below w.heap.size w W.w := TB.out.trans (hWb.mono TB.out.size)
          have hWS : w2.heap.size ≤ W.w.heap.size := Nat.le_trans TS.out hWb.size
          have hLl : L.length ≤ 16 := by have := RL.out; omega
          go_wp2_with (first | (at_builtin; refine wpList_append_own _ rfl _ _ 118 rfl w2.heap.size 23 i0 _ 1 1 Try.underlying118 hi iz0 iz1 iz2 rfl (by decide) _ _ _ rfl (RQw.alloc _) ⟨W.w.heap.size, 0, none⟩ 1 1 [.int .u8 p] rfl rfl ?c1 ?c2 ?c3 ?c4 ?c5 ?_))
          case c1 => exact World.news_of_block (alloc_new _ _)
          case c2 => simp [Value.oneCell']
          case c3 => simp only [maxLen]; omega
          case c4 => omega
          case c5 => simp; omega
          intro v' w' hown hgrow _
          have HO : Aside (w'.ownsRow w2.heap.size 23 1 v' (L ++ [p]).length ((L ++ [p]).map pval)) := by
            show World.ownsRow _ _ _ _ _ _ _
            rw [List.length_append, List.map_append]
            exact hown
          have hg2 : Below w2.heap.size W.w w' := ((Below.refl w2.heap.size W.w).alloc hWS (.cells #[.int .u8 p] 23)).grown hgrow (by simp; omega) (fun k e => (RQw.lt k e).1)
          have HB : Aside (Below w.heap.size w w') := hWB.trans ⟨hg2.os, hg2.tape, hg2.output, hg2.size, fun k hk => hg2.block k (by omega)⟩
          have HO1 : Aside (OutAt w' w1.heap.size (dist G t)) := (hg2.block _ hw1).trans ((hWb.block _ hol).trans TO.out)
          have HS2 : Aside (w2.heap.size ≤ w'.heap.size) := Nat.le_trans hWS hg2.size
          have HW : Aside (wayFrom G t d f = (L ++ [p]) ++ (wayFrom G t e' p).tail) := (show _ = _ by
            rw [RW.out]
            show L ++ wayFrom G t e' (next G t c) = _
            rw [Hn.out, ← Hpn.out, List.append_assoc, ← wayFrom_head])
          have HD2 : Aside (dist G t p = e') := Hq.out
          have HL2 : Aside ((L ++ [p]).length + e' = d + 1) := (show _ = _ by have := RL.out; simp; omega)
          clear hown hgrow hg2
          go_wp2
          go_roundg e'
          case measure => omega
          case rel => exact ⟨L ++ [p], p, e', rfl, by omega, by omega, by omega, HO, HL2, HD2, HW, HB, HO1, HS2⟩
        · have hpn2 : p < n := by omega
          have hhop := HN4.out p hpn2
          by_cases hq : dist G t p = e'
          · have hpos : ¬ 0 < v := by
              intro hp0
              have : hop G t c p = true := by
                simp only [hop, Bool.and_eq_true, decide_eq_true_eq]
                exact ⟨by rw [hq, RD.out], decide_eq_true (by rw [hv]; exact hp0)⟩
              rw [this] at hhop; cases hhop
            rw [hq] at hcp
            have Hv := Lib.hid hv; clear hv hq hpn hhop
            go_wp2
            refine wp_region_later (by kernel_rfl) (by kernel_rfl) ?_; (repeat (go_big_quiet_step ((go_at_call 78; exact Calls.later_same (hcap.out _ (hGr.below (Later.b _))))))); refine wpQuiet_nil ?_; rintro _ ⟨W, rfl⟩
            have hWb := W.b
            go_wp2
            go_roundg (17 - (p + 1))
            case measure => omega
            case rel => exact ⟨p + 1, by omega, by omega, rfl, by go_num, ownsRow_later TQ.out hWb, TB.out.trans (hWb.mono TB.out.size), TO.out.below hWb hol, Nat.le_trans TS.out hWb.size⟩
          · obtain ⟨q, hq2⟩ : ∃ q, dist G t p = q := ⟨_, rfl⟩
            rw [hq2] at hq hcp
            have hqb : ((q : Int) == (e' : Int)) = false := by simp; omega
            have Hv := Lib.hid hv; have Hq2 := Lib.hid hq2; clear hv hq hpn hhop hq2
            go_wp2
            refine wp_region_later (by kernel_rfl) (by kernel_rfl) ?_; (repeat (go_big_quiet_step (fail))); refine wpQuiet_nil ?_; rintro _ ⟨W, rfl⟩
            have hWb := W.b
            go_wp2
            go_roundg (17 - (p + 1))
            case measure => omega
            case rel => exact ⟨p + 1, by omega, by omega, rfl, by go_num, ownsRow_later TQ.out hWb, TB.out.trans (hWb.mono TB.out.size), TO.out.below hWb hol, Nat.le_trans TS.out hWb.size⟩
end Go.Proofs.Ytelcdiceongfdaa
end
