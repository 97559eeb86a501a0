/- The walk of graphs.Of: a ledger's rooms, as a graph. -/
import Derived.Test.YtelcdiceongfdaaParties
namespace Go.Proofs.Ytelcdiceongfdaa
open Go.RowKit Go.BigFrame
set_option maxRecDepth 100000

theorem mem_parties {A : Ledger} (hA : A.WF) {p : Nat} : p ∈ parties A ↔ A.has p = true := by
  simp only [parties, partiesTo, List.mem_filter, List.mem_range]
  constructor
  · exact fun h => h.2
  · intro h; have := hA.party p h; exact ⟨by omega, h⟩
/-- rooms that are laid when i rows, and j cells of the next one, are done -/
def roomsTo (A : Ledger) (c i j : Nat) : Caps := fun x y =>
  if (x ∈ (parties A).take i ∧ y ∈ parties A) ∨ ((parties A)[i]? = some x ∧ y ∈ (parties A).take j) then A.room x y c else 0
def rooms (A : Ledger) (c : Nat) : Caps := fun x y => A.room x y c

theorem roomsTo_zero (A : Ledger) (c : Nat) : roomsTo A c 0 0 = fun _ _ => 0 := by
  funext x y; simp [roomsTo]
theorem roomsTo_cell {A : Ledger} {c i j x y : Nat} (hi : (parties A)[i]? = some x) (hj : (parties A)[j]? = some y) : setG (roomsTo A c i j) x y (A.room x y c) = roomsTo A c i (j + 1) := by
  funext p q
  simp only [setG, roomsTo]
  have h1 : (parties A).take (j + 1) = (parties A).take j ++ [y] := by rw [List.take_add_one, hj]; rfl
  rw [h1, hi]
  by_cases e : p = x ∧ q = y
  · obtain ⟨rfl, rfl⟩ := e
    simp
  · rw [if_neg e]
    simp only [List.mem_append, List.mem_singleton, Option.some.injEq]
    congr 1
    apply propext
    constructor
    · rintro (h | ⟨rfl, h⟩)
      · exact .inl h
      · exact .inr ⟨rfl, .inl h⟩
    · rintro (h | ⟨rfl, h | rfl⟩)
      · exact .inl h
      · exact .inr ⟨rfl, h⟩
      · exact absurd ⟨rfl, rfl⟩ e
theorem roomsTo_row {A : Ledger} {c i x : Nat} (hi : (parties A)[i]? = some x) : roomsTo A c i (parties A).length = roomsTo A c (i + 1) 0 := by
  funext p q
  simp only [roomsTo]
  have h1 : (parties A).take (i + 1) = (parties A).take i ++ [x] := by rw [List.take_add_one, hi]; rfl
  rw [h1, hi, List.take_length]
  simp only [List.mem_append, List.mem_singleton, Option.some.injEq, List.take_zero, List.not_mem_nil, and_false, or_false]
  congr 1
  apply propext
  constructor
  · rintro (⟨h, h'⟩ | ⟨rfl, h⟩)
    · exact ⟨.inl h, h'⟩
    · exact ⟨.inr rfl, h⟩
  · rintro ⟨h | rfl, h'⟩
    · exact .inl ⟨h, h'⟩
    · exact .inr ⟨rfl, h'⟩
theorem room_zero {A : Ledger} (hA : A.WF) {x y c : Nat} (h : ¬ (A.has x = true ∧ A.has y = true)) : A.room x y c = 0 := by
  have l1 : A.lim x y c = 0 := by
    by_cases e : A.lim x y c = 0
    · exact e
    · have := hA.line x y c e; exact absurd ⟨this.1, this.2.1⟩ h
  have l2 : A.lim y x c = 0 := by
    by_cases e : A.lim y x c = 0
    · exact e
    · have := hA.line y x c e; exact absurd ⟨this.2.1, this.1⟩ h
  have d1 := hA.debt x y c
  have d2 := hA.debt y x c
  unfold Ledger.room; omega
theorem roomsTo_all {A : Ledger} (hA : A.WF) (c j : Nat) : roomsTo A c (parties A).length j = rooms A c := by
  funext x y
  simp only [roomsTo, rooms, List.take_length, mem_parties hA]
  split
  · rfl
  · rename_i h
    refine (room_zero hA fun h' => h (.inl h')).symm

theorem wpl_build_graph {ops : Array Oper} {Q : Exit → Act → World → Prop} {rest : List Oper} {a : Act} {w : World} {dst : Option Tmp} {t : TypeId} {pos : String} {after : Array Edge}
    (h : wpList Try.prog ops Q rest (a.put dst (.agg (graphCells fun _ _ => 0))) w) :
    wpList Try.prog ops Q ({ dst, op := .build 117 #[(1, .const (.bool true))], type := t, pos, after, guard := none } :: rest) a w := by
  unfold wpList
  rw [if_pos (by simp [Region.wanted])]
  left
  unfold Oper.wp
  have hr := run_graphBuild w
  unfold graphBuild at hr
  have hp : (#[(1, Operand.const (.bool true))].map fun (p : Nat × Operand) => (p.1, a.eval p.2)) = #[(1, Value.bool true)] := by simp; rfl
  simp only [execOp, Sem.run_bind, hp, hr, Result.andThen_ok]
  exact h

def OfPost (w : World) (G : Caps) (e : Ending) (w' : World) : Prop := e = .returned (.pointer (some ⟨w.heap.size, 0, none⟩)) ∧ Below w.heap.size w w' ∧ GraphAt w' w.heap.size G

theorem graphOf_no {w : World} {q : Option Addr} (h : NoLedger w q) (c : Nat) :
    Calls Try.prog 36 #[.pointer q, .int .u8 c] w (OfPost w fun _ _ => 0) := by
  have h' : NoLedger (w.alloc (.cells (graphCells fun _ _ => 0) 117)) q := h.below ((Below.refl _ _).alloc (Nat.le_refl _) _)
  go_enter Try.func36, Try.ntmps36
  go_wp2_with (first | refine wpl_build_graph ?_ | (go_at_call 51; refine (parties_no h').mono ?_; rintro e w' ⟨rfl, rfl⟩))
  go_loopg [17] 0 (fun gg s17 wr => s17 = .int .i64 0 ∧ wr = w.alloc (.cells (graphCells fun _ _ => 0) 117))
  case atStart => exact ⟨rfl, rfl⟩
  case round =>
    obtain ⟨rfl, rfl⟩ := hrel
    go_wp2
    go_ret
    exact ⟨rfl, (by repeat (first | with_reducible exact Below.refl _ _ | with_reducible assumption | refine Below.drew ?_ | refine Below.setCell ?_ (by first | exact Nat.le_refl _ | omega | (simp; done) | (simp; omega)) _ | refine Below.alloc ?_ (by first | exact Nat.le_refl _ | omega | (simp; done) | (simp; omega)) _ | refine Below.tr ?_ (Nat.le_refl _) (by assumption) | exact Below.refl _ _ | assumption)), alloc_new w _⟩

set_option maxHeartbeats 1000000 in
theorem graphOf {w : World} {b m : Nat} {A : Ledger} (h : LedgerAt w b m A) (c : Nat) :
    Calls Try.prog 36 #[.pointer (some ⟨b, 0, none⟩), .int .u8 c] w (OfPost w (rooms A c)) := by
  have h0 : LedgerAt (w.alloc (.cells (graphCells fun _ _ => 0) 117)) b m A := h.below ((Below.refl _ _).alloc (Nat.le_refl _) _)
  have hlen := partiesTo_len A 17
  have hb := h.lt
  go_enter Try.func36, Try.ntmps36
  go_wp2_with (first | refine wpl_build_graph ?_ | (go_at_call 51; refine (parties_any h0).mono ?_; rintro e w1 ⟨ad, rfl, hb1, hrow⟩))
  have hB1 : Below w.heap.size w w1 := (by repeat (first | with_reducible exact Below.refl _ _ | with_reducible assumption | refine Below.drew ?_ | refine Below.setCell ?_ (by first | exact Nat.le_refl _ | omega | (simp; done) | (simp; omega)) _ | refine Below.alloc ?_ (by first | exact Nat.le_refl _ | omega | (simp; done) | (simp; omega)) _ | refine Below.tr ?_ (Nat.le_refl _) (by assumption) | exact Below.refl _ _ | assumption))
  have h1 := h.below hB1
  have hG1 : GraphAt w1 w.heap.size fun _ _ => 0 := (hb1.block _ (by simp)).trans (alloc_new w _)
  have hz1 : w.heap.size + 1 ≤ w1.heap.size := by have := hb1.size; simpa using this
  have hR0 : Hid (roomsTo A c 0 0 = fun _ _ => 0) := roomsTo_zero A c
  have hlen' : (parties A).length ≤ 17 := hlen
  obtain ⟨n, hn⟩ : ∃ n, (parties A).length = n := ⟨_, rfl⟩
  rw [hn] at hlen' ⊢
  have HN := Lib.hid hn
  have Hrow : Hid (n = 0 ∨ ∃ g, ad = some ⟨g, 0, none⟩ ∧ w.heap.size + 1 ≤ g ∧ g < w1.heap.size ∧ ∀ (j : Nat) p, (parties A)[j]? = some p → w1.cell? ⟨g, j, none⟩ = some (.int .u8 p)) := by
    rcases hrow with ⟨_, h2⟩ | ⟨g, h2, h3, h4⟩
    · exact .inl (by rw [← hn, h2]; rfl)
    · exact .inr ⟨g, h2, by simpa using h3, h4⟩
  clear hn hrow hlen
  rcases Hrow.out with h0n | ⟨g, rfl, hg1, hg2, hgc⟩
  · subst h0n
    go_loopg [17] 0 (fun gg s17 wr => s17 = .int .i64 0 ∧ wr = w1)
    case atStart => exact ⟨rfl, rfl⟩
    case round =>
      obtain ⟨rfl, rfl⟩ := hrel
      go_wp2
      go_ret
      have e : rooms A c = fun _ _ => 0 := by
        have := roomsTo_all h.wf c 0
        rw [HN.out, hR0.out] at this
        exact this.symm
      rw [e]
      exact ⟨rfl, hB1, hG1⟩
  · clear Hrow
    have Hgc := Lib.hid hgc; clear hgc
    go_loopg [8, 10, 17, 21, 22, 23] n (fun gg s8 s10 s17 s21 s22 s23 wr => ∃ i : Nat, i ≤ n ∧ n - i ≤ gg ∧ s17 = .int .i64 i ∧ Aside (Chg [w.heap.size] w1 wr) ∧ Aside (GraphAt wr w.heap.size (roomsTo A c i 0)))
    case atStart => exact ⟨0, by omega, by omega, rfl, Chg.refl _ _, by rw [hR0.out]; exact hG1⟩
    case round =>
      obtain ⟨i, hi, hgg, rfl, CW, GW⟩ := hrel
      by_cases hlt : i < n
      · have hltz : (i : Int) < (n : Int) := by omega
        obtain ⟨x, hx⟩ : ∃ x, (parties A)[i]? = some x := ⟨_, List.getElem?_eq_getElem (by rw [HN.out]; exact hlt)⟩
        have hx16 : x ≤ 16 := (h.wf.party x ((mem_parties h.wf).1 (List.mem_of_getElem? hx))).2
        have hcx : wr.cell? ⟨g, i, none⟩ = some (.int .u8 x) := (CW.out.cell hg2 (by simp; omega)).trans (Hgc.out i x hx)
        have Hx := Lib.hid hx; clear hx
        go_wp2
        obtain ⟨wo, rfl⟩ : ∃ wo : World, wo = wr := ⟨_, rfl⟩
        obtain ⟨go, rfl⟩ : ∃ go : Nat, go = gk := ⟨_, rfl⟩
        go_loopg [10, 23] n (fun gg s10 s23 wq => ∃ j : Nat, j ≤ n ∧ n - j ≤ gg ∧ s23 = .int .i64 j ∧ Aside (Chg [w.heap.size] w1 wq) ∧ Aside (GraphAt wq w.heap.size (roomsTo A c i j)))
        case atStart => exact ⟨0, by omega, by omega, rfl, CW, GW⟩
        case round =>
          obtain ⟨j, hj, hgg2, rfl, CQ, GQ⟩ := hrel
          by_cases hlt2 : j < n
          · have hltz2 : (j : Int) < (n : Int) := by omega
            obtain ⟨y, hy⟩ : ∃ y, (parties A)[j]? = some y := ⟨_, List.getElem?_eq_getElem (by rw [HN.out]; exact hlt2)⟩
            have hy16 : y ≤ 16 := (h.wf.party y ((mem_parties h.wf).1 (List.mem_of_getElem? hy))).2
            have hcy : wr.cell? ⟨g, j, none⟩ = some (.int .u8 y) := (CQ.out.cell hg2 (by simp; omega)).trans (Hgc.out j y hy)
            have Hy := Lib.hid hy; clear hy
            have hQ := h1.chg CQ.out (by simp; omega) (by have := h.map.lt; simp; omega)
            have hf := GQ.out.free
            have hgl := GQ.out.lt
            have hcl := GQ.out.cell hx16 hy16
            go_wp2
            refine wp_region_later_tail 12 (by kernel_rfl) (by kernel_rfl) (by kernel_rfl) ?_; simp only [List.take_succ_cons, List.take_zero, List.drop_succ_cons, List.drop_zero]; (repeat (go_big_quiet_step ((go_at_call 52; exact Calls.later (room_any (hQ.below (Later.b _)) _ _ _))))); refine wpQuiet_nil ?_; rintro _ ⟨W, rfl⟩
            have hWb := W.b
            go_wp2
            have hBW : Below wr.heap.size wr W.w := W.b
            go_roundg (n - (j + 1))
            case measure => omega
            case rel =>
              refine ⟨j + 1, by omega, by omega, by go_num, ?_, ?_⟩
              · exact ((CQ.out.trans (Chg.of_below (S := []) hBW) (by simp)).trans (Chg.setCell (S := [w.heap.size]) W.w w.heap.size (x * 17 + y) (.int .i64 (A.room x y c)) (by simp)) (fun z hz _ => hz))
              · have h2 := ((GQ.out.below hBW).set hx16 hy16 (A.room x y c))
                rw [roomsTo_cell Hx.out Hy.out] at h2
                exact h2
          · have hltz2 : ¬ (j : Int) < (n : Int) := by omega
            obtain rfl : j = n := by omega
            have hrw : roomsTo A c i j = roomsTo A c (i + 1) 0 := by
              have := roomsTo_row Hx.out (c := c)
              rw [HN.out] at this; exact this
            have Hrw := Lib.hid hrw; clear hrw
            go_wp2
            go_roundg (j - (i + 1))
            case measure => omega
            case rel => exact ⟨i + 1, by omega, by omega, by go_num, CQ, by have := GQ.out; rw [Hrw.out] at this; exact this⟩
      · have hltz : ¬ (i : Int) < (n : Int) := by omega
        obtain rfl : i = n := by omega
        go_wp2
        go_ret
        have e := roomsTo_all h.wf c 0
        rw [HN.out] at e
        have hG := GW.out
        rw [e] at hG
        refine ⟨rfl, ?_, hG⟩
        exact (Chg.trans (S := []) (Chg.of_below hB1) CW.out (fun z hz hlt => by simp at hz; omega)).below

end Go.Proofs.Ytelcdiceongfdaa
