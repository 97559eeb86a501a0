/- The walk of paths.hops, its loops. -/
import Derived.Test.YtelcdiceongfdaaHops
import Derived.Deep.LoopGhost
namespace Go.Proofs.Ytelcdiceongfdaa
open Go.RowKit Go.BigFrame
set_option maxRecDepth 100000

def HopsPost (w : World) (out : Nat → Nat) (e : Ending) (w' : World) : Prop := e = .returned (.agg (outArr out)) ∧ Below w.heap.size w w'
def first17 (k : Nat) : Nat → Nat := fun p => if p < k then 17 else 0
theorem first17_set {k : Nat} : setO (first17 k) k 17 = first17 (k + 1) := by
  funext p
  simp only [setO, first17]
  by_cases e : p = k
  · subst e; simp
  · rw [if_neg e]
    by_cases h : p < k
    · rw [if_pos h, if_pos (by omega)]
    · rw [if_neg h, if_neg (by omega)]
theorem outArr_zero : outArr (fun _ => 0) = #[.int .i64 0, .int .i64 0, .int .i64 0, .int .i64 0, .int .i64 0, .int .i64 0, .int .i64 0, .int .i64 0, .int .i64 0, .int .i64 0, .int .i64 0, .int .i64 0, .int .i64 0, .int .i64 0, .int .i64 0, .int .i64 0, .int .i64 0] := rfl
theorem outArr_congr {o o' : Nat → Nat} (h : ∀ p, p ≤ 16 → o p = o' p) : outArr o = outArr o' := by
  unfold outArr outList
  congr 1
  exact List.map_congr_left fun p hp => by rw [h p (by have := List.mem_range.1 hp; omega)]

theorem start_arr (to : Nat) (_h : to ≤ 16) : outArr (setO (first17 17) to 0) = outArr (start to) :=
  outArr_congr fun p hp => by
    simp only [setO, first17, start]
    by_cases e : p = to
    · rw [if_pos e, if_pos e]
    · rw [if_neg e, if_neg e, if_pos (by omega)]
theorem Below.setRow' {B : Nat} {w w' : World} (h : Below B w w') {g : Nat} (hg : B ≤ g) (cs : Array Value) : Below B w (w'.setRow g cs) :=
  ⟨h.os, h.tape, h.output, by simpa using h.size, fun k hk => by
    have : (w'.setRow g cs).heap[k]? = w'.heap[k]? := by
      simp only [World.setRow, Array.getElem?_modify]
      rw [if_neg (by omega)]
    exact this.trans (h.block k hk)⟩
theorem Queue.pop {w : World} {B g off n cap c : Nat} {Q : List Nat} (h : Queue w B (.slice (some ⟨g, off, none⟩) n cap) (c :: Q)) (_hc : cap ≠ 1) : Queue w B (.slice (some ⟨g, off + 1, none⟩) (n - 1) (cap - 1)) Q := by
  obtain ⟨g', off', cap', cur, e, hB, hg, h1, h2, h3⟩ := h.ex
  simp only [Value.slice.injEq, Option.some.injEq, Addr.mk.injEq, and_true] at e
  obtain ⟨⟨rfl, rfl⟩, rfl, rfl⟩ := e
  simp only [List.length_cons] at h2 h3
  refine ⟨g, off + 1, cap - 1, cur, by simp, hB, hg, by omega, by omega, fun j hj => ?_⟩
  have := h3 (j + 1) (by omega)
  rw [show off + 1 + j = off + (j + 1) by omega, this]; simp
theorem Queue.pop1 {w : World} {B g off n c : Nat} {Q : List Nat} (h : Queue w B (.slice (some ⟨g, off, none⟩) n 1) (c :: Q)) : Q = [] ∧ Queue w B (.slice (some ⟨g, off, none⟩) 0 0) Q := by
  obtain ⟨g', off', cap', cur, e, hB, hg, h1, h2, h3⟩ := h.ex
  simp only [Value.slice.injEq, Option.some.injEq, Addr.mk.injEq, and_true] at e
  obtain ⟨⟨rfl, rfl⟩, rfl, rfl⟩ := e
  simp only [List.length_cons] at h2
  have : Q = [] := List.eq_nil_of_length_eq_zero (by omega)
  subst this
  exact ⟨rfl, g, off, 0, cur, rfl, hB, hg, by omega, by simp, fun j hj => by simp at hj⟩

set_option maxHeartbeats 1000000 in
theorem hops_any {w : World} {b : Nat} {G : Caps} (h : GraphAt w b G) (to : Nat) (ht : 1 ≤ to ∧ to ≤ 16) :
    Calls Try.prog 82 #[.pointer (some ⟨b, 0, none⟩), .int .u8 to] w (HopsPost w (dist G to)) := by
  have hb := h.lt
  go_enter Try.func82, Try.ntmps82
  go_wp2
  go_loopg [6, 10] 17 (fun gg s6 s10 wr => ∃ k : Nat, k ≤ 17 ∧ 17 - k ≤ gg ∧ s10 = .int .i64 k ∧ Aside (OutAt wr w.heap.size (fun _ => 0)) ∧ Aside (OutAt wr (w.heap.size + 1) (first17 k)) ∧ Aside (Below w.heap.size w wr))
  case atStart =>
    refine ⟨0, by omega, by omega, rfl, ?_, ?_, ?_⟩
    · show _ = _
      rw [outArr_zero]
      exact (Below.heap_alloc _ _ _ (by simp)).trans (alloc_new w _)
    · show _ = _
      rw [show first17 0 = fun _ => 0 from by funext p; simp [first17], outArr_zero]
      have := alloc_new (w.alloc (.cells #[.int .i64 0, .int .i64 0, .int .i64 0, .int .i64 0, .int .i64 0, .int .i64 0, .int .i64 0, .int .i64 0, .int .i64 0, .int .i64 0, .int .i64 0, .int .i64 0, .int .i64 0, .int .i64 0, .int .i64 0, .int .i64 0, .int .i64 0] 148)) (.cells #[.int .i64 0, .int .i64 0, .int .i64 0, .int .i64 0, .int .i64 0, .int .i64 0, .int .i64 0, .int .i64 0, .int .i64 0, .int .i64 0, .int .i64 0, .int .i64 0, .int .i64 0, .int .i64 0, .int .i64 0, .int .i64 0, .int .i64 0] 148)
      simpa using this
    · exact (by repeat (first | with_reducible exact Below.refl _ _ | with_reducible assumption | refine Below.drew ?_ | refine Below.setCell ?_ (by first | exact Nat.le_refl _ | omega | (simp; done) | (simp; omega)) _ | refine Below.alloc ?_ (by first | exact Nat.le_refl _ | omega | (simp; done) | (simp; omega)) _ | refine Below.tr ?_ (Nat.le_refl _) (by assumption) | exact Below.refl _ _ | assumption))
  case round =>
    obtain ⟨k, hk, hgg, rfl, O0, O1, BW⟩ := hrel
    by_cases hlt : k < 17
    · have hltz : (k : Int) < 17 := by omega
      have hc := O1.out.cell (p := k) (by omega)
      have hf := O1.out.free
      have hl := O1.out.lt
      go_wp2
      have hO := O1.out.set (p := k) (by omega) 17
      rw [first17_set] at hO
      go_roundg (17 - (k + 1))
      case measure => omega
      case rel => exact ⟨k + 1, by omega, by omega, by go_num, (Below.heap_setCell _ _ _ _ (by simp)).trans O0.out, hO, BW.out.setCell (by simp) _⟩
    · obtain rfl : k = 17 := by omega
      have hc := O1.out.cell (p := to) ht.2
      have hf := O1.out.free
      have hl := O1.out.lt
      go_wp2
      obtain ⟨W2, hW2⟩ : ∃ W2, (wr.setCell ⟨w.heap.size + 1, to, none⟩ (.int .i64 0)).alloc (.cells #[.int .u8 to] 23) = W2 := ⟨_, rfl⟩
      have A0 : Aside (OutAt W2 w.heap.size (fun _ => 0)) := by
        show OutAt W2 _ _
        rw [← hW2]
        exact ((Below.heap_alloc _ _ _ (by simp; omega)).trans (Below.heap_setCell _ _ _ _ (by simp))).trans O0.out
      have A1 : Aside (OutAt W2 (w.heap.size + 1) (start to)) := by
        show OutAt W2 _ _
        rw [← hW2]
        have h2 := O1.out.set (p := to) ht.2 0
        unfold OutAt at h2 ⊢
        rw [start_arr to ht.2] at h2
        exact (Below.heap_alloc _ _ _ (by simpa using hl)).trans h2
      have AQ : Aside (Queue W2 (w.heap.size + 2) (.slice (some ⟨wr.heap.size, 0, none⟩) 1 1) [to]) := by
        show Queue W2 _ _ _
        rw [← hW2]
        have := Queue.one (w := wr.setCell ⟨w.heap.size + 1, to, none⟩ (.int .i64 0)) (B := w.heap.size + 2) (p := to) (by simp; omega)
        simpa using this
      have AB : Aside (Below w.heap.size w W2) := by
        show Below _ _ _
        rw [← hW2]
        exact (BW.out.setCell (by simp) _).alloc (by simp; omega) _
      have AS : Aside (w.heap.size + 2 ≤ W2.heap.size) := by
        show _ ≤ _
        rw [← hW2]; simp; omega
      have AI : Aside (BfsI G to (start to) [to]) := bfs_start ht
      rw [hW2]
      have hu : Aside (und (start to) ≤ 17) := und_le _
      clear hW2 O0 O1 BW hc hf hl hk hgg
      clear hlt
      go_loopg [7, 8, 9] 40 (fun gg s7 s8 s9 wr => ∃ (out : Nat → Nat) (Q : List Nat), Aside (Queue wr (w.heap.size + 2) s7 Q) ∧ 2 * und out + Q.length ≤ gg ∧ 2 * und out + Q.length ≤ 40 ∧ Aside (OutAt wr w.heap.size (fun _ => 0)) ∧ Aside (OutAt wr (w.heap.size + 1) out) ∧ Aside (Below w.heap.size w wr) ∧ Aside (w.heap.size + 2 ≤ wr.heap.size) ∧ Aside (BfsI G to out Q))
      case atStart => exact ⟨_, _, AQ, by have := hu.out; simp; omega, by have := hu.out; simp; omega, A0, A1, AB, AS, AI⟩
      case round =>
        obtain ⟨out, Q, RQ, hgg, h40, R0, R1, RB, RS, RI⟩ := hrel
        cases Q with
        | nil =>
          obtain ⟨g, off, cap, hv, hgB, hgl, hcap, hcells⟩ := RQ.out.form
          subst hv
          have hd : outArr out = outArr (dist G to) := by rw [show out = dist G to from funext fun p => bfs_done RI.out p]
          have Hd := Lib.hid hd; clear hd
          go_wp2_with (first | refine wpl_load_out R1.out rfl ?_ | refine wpl_store_out (old := fun _ => 0) R0.out rfl rfl ?_)
          refine bodyPost_ret (v := .agg (outArr out)) (results_cell_row rfl _ _ w.heap.size _ _ (0, 0) _ rfl (heap_setRow_same _ R0.out) Try.underlying148 rfl (by rw [outArr_size]; exact infoOut)) rfl ?_
          exact ⟨by rw [Hd.out], Below.setRow' RB.out (Nat.le_refl _) _⟩
        | cons c Q =>
          obtain ⟨g, off, cap, hv, hgB, hgl, hcap, hcells⟩ := RQ.out.form
          subst hv
          have hJ := bfs_pop RI.out
          have hcr := (RI.out.q c List.mem_cons_self)
          have hcc := hcells 0 c rfl
          rw [Nat.add_zero] at hcc
          obtain ⟨n, hn⟩ : ∃ n, Q.length = n := ⟨_, rfl⟩
          have hlen : (c :: Q).length = n + 1 := by simp [hn]
          rw [hlen] at hgg h40 hcap
          have HN := Lib.hid hn
          have hout : outArr out = outArr out := rfl
          clear hcells hn hout
          have RQ2 : Aside (Queue wr (w.heap.size + 2) (.slice (some ⟨g, off, none⟩) (n + 1) cap) (c :: Q)) := by
            have := RQ.out; rw [hlen] at this; exact this
          rw [hlen]
          have HJ := Lib.hid hJ
          clear RQ hlen hJ RI
          have hc16 := hcr.2
          have hn17 := hcr.1
          clear hcr
          obtain ⟨vq, hvq⟩ : ∃ vq, vq = (if cap = 1 then Value.slice (some ⟨g, off, none⟩) 0 0 else Value.slice (some ⟨g, off + 1, none⟩) n (cap - 1)) := ⟨_, rfl⟩
          have RQ3 : Aside (Queue wr (w.heap.size + 2) vq Q) := by
            show Queue _ _ _ _
            rw [hvq]
            by_cases h1 : cap = 1
            · rw [if_pos h1]; subst h1; exact (Queue.pop1 RQ2.out).2
            · rw [if_neg h1]; exact Queue.pop RQ2.out h1
          have hlim : n ≤ 40 := by omega
          have HG : Aside (2 * und out + (n + 1) ≤ gk) := (show _ ≤ _ from hgg)
          have H40 : Aside (2 * und out + (n + 1) ≤ 40) := (show _ ≤ _ from h40)
          clear hgg h40
          have split : ∀ {p : Prop}, (∀ vq, Queue wr (w.heap.size + 2) vq Q → cap = 1 → n = 0 → vq = Value.slice (some ⟨g, off, none⟩) 0 0 → p) → (∀ vq, Queue wr (w.heap.size + 2) vq Q → cap ≠ 1 → vq = Value.slice (some ⟨g, off + 1, none⟩) n (cap - 1) → p) → p := fun h1 h2 => by
            by_cases hc : cap = 1
            · rw [if_pos hc] at hvq; exact h1 vq RQ3.out hc (by omega) hvq
            · rw [if_neg hc] at hvq; exact h2 vq RQ3.out hc hvq
          have Split := @split
          clear split hvq RQ3 vq
          refine Split (fun vq RQ3 h1 h1n hvq => ?_) (fun vq RQ3 h1 hvq => ?_)
          · subst h1
            subst h1n
            subst hvq
            have RQ3' : Aside (Queue wr (w.heap.size + 2) (.slice (some ⟨g, off, none⟩) 0 0) Q) := RQ3
            clear Split RQ3
            go_wp2
            obtain ⟨wo, rfl⟩ : ∃ wo : World, wo = wr := ⟨_, rfl⟩
            obtain ⟨gko, rfl⟩ : ∃ go : Nat, go = gk := ⟨_, rfl⟩
            go_loopg [7, 9] 17 (fun gg s7 s9 wr => ∃ (o2 : Nat → Nat) (Q2 : List Nat) (p : Nat), (1 ≤ p ∧ p ≤ 17) ∧ 17 - p ≤ gg ∧ s9 = .int .u8 p ∧ Aside (Queue wr (w.heap.size + 2) s7 Q2) ∧ Aside (2 * und o2 + Q2.length + 1 ≤ gko) ∧ Aside (2 * und o2 + Q2.length + 1 ≤ 40) ∧ Aside (OutAt wr w.heap.size (fun _ => 0)) ∧ Aside (OutAt wr (w.heap.size + 1) o2) ∧ Aside (Below w.heap.size w wr) ∧ Aside (w.heap.size + 2 ≤ wr.heap.size) ∧ Aside (BfsJ G to c o2 Q2 p))
            case atStart => exact ⟨out, Q, 1, by omega, by omega, rfl, RQ3', (show _ ≤ _ by have := HG.out; rw [HN.out]; omega), (show _ ≤ _ by have := H40.out; rw [HN.out]; omega), R0, R1, RB, RS, HJ.out⟩
            case round =>
              obtain ⟨o2, Q2, p, hp, hg2, rfl, TQ, TG, T40, T0, T1, TB, TS, TJ⟩ := hrel
              by_cases hlt : p < 17
              · have hltz : (p : Int) < 17 := by omega
                have hp16 : p ≤ 16 := by omega
                have hcp := T1.out.cell hp16
                have hcc2 := T1.out.cell hc16.2
                have hf := T1.out.free
                have hl := T1.out.lt
                have hGr := (h.below TB.out)
                have hTS := TS.out
                by_cases ho : o2 p = 17
                · rw [ho] at hcp
                  have Ho := Lib.hid ho; clear ho
                  obtain ⟨v, hv⟩ : ∃ v, capOf G p c = v := ⟨_, rfl⟩
                  by_cases hpos : 0 < v
                  · have ha : Aside (adj G p c = true) := (show _ = _ from decide_eq_true (by rw [hv]; exact hpos))
                    have Hv := Lib.hid hv; clear hv
                    obtain ⟨d, hd⟩ : ∃ d, o2 c = d := ⟨_, rfl⟩
                    have hd16 : d < 17 := by
                      have := (TJ.out.ok c TJ.out.cur.1).lt hc16
                      omega
                    rw [hd] at hcc2
                    have Hd := Lib.hid hd; clear hd
                    go_wp2_with (first | (go_at_call 78; refine (cap_any hGr p c (by omega) (by omega)).mono ?_; rintro e w' ⟨rfl, rfl⟩; rw [Hv.out]) | refine wpl_append_party (B := w.heap.size + 2) (p := p) (L := Q2) ((TQ.out.setCell (w.heap.size + 1) p _ (by omega)).below ((Below.refl _ _).alloc (Nat.le_refl _) _)) rfl rfl ?_ ?_ ?_ ?_)
                    · exact World.news_of_block (by have := alloc_new (wr.setCell ⟨w.heap.size + 1, p, none⟩ (.int .i64 ((d : Int) + 1))) (.cells #[.int .u8 p] 23); simpa using this) 0 _ rfl
                    · simp; omega
                    · have := T40.out; omega
                    · intro v' w' hq' hb'
                      have hB2 : Aside (Below w.heap.size w w') := by
                        refine (TB.out.trans ?_ : Below w.heap.size w w')
                        exact (((Below.refl w.heap.size wr).setCell (p := ⟨w.heap.size + 1, p, none⟩) (by simp) _).alloc (by simp; omega) _).trans ⟨hb'.os, hb'.tape, hb'.output, hb'.size, fun k hk => hb'.block k (by omega)⟩
                      have ho2 : Aside (OutAt w' (w.heap.size + 1) (setO o2 p (d + 1))) := by
                        have h2 := T1.out.set hp16 (d + 1)
                        exact (hb'.block _ (by omega)).trans ((Below.heap_alloc _ _ _ (by simpa using hl)).trans h2)
                      have h00 : Aside (OutAt w' w.heap.size (fun _ => 0)) :=
                        (hb'.block _ (by omega)).trans ((Below.heap_alloc _ _ _ (by simp; omega)).trans ((Below.heap_setCell _ _ _ _ (by simp)).trans T0.out))
                      have hS2 : Aside (w.heap.size + 2 ≤ w'.heap.size) := (show _ ≤ _ by have := hb'.size; simp at this; omega)
                      have hJ2 : Aside (BfsJ G to c (setO o2 p (d + 1)) (Q2 ++ [p]) (p + 1)) := (show BfsJ _ _ _ _ _ _ by
                        have := bfs_take TJ.out Ho.out ha.out
                        rw [Hd.out] at this; exact this)
                      have hu2 := und_set (d := d + 1) Ho.out hp16 (by have := (TJ.out.ok c TJ.out.cur.1).lt hc16; have := Hd.out; omega)
                      have HU := Lib.hid hu2
                      clear hu2
                      have hq2 : Aside (Queue w' (w.heap.size + 2) v' (Q2 ++ [p])) := hq'
                      clear hq' hb'
                      go_wp2
                      go_roundg (17 - (p + 1))
                      case measure => omega
                      case rel => exact ⟨setO o2 p (d + 1), Q2 ++ [p], p + 1, by omega, by omega, by go_num, hq2, (show _ ≤ _ by have := HU.out; have := TG.out; simp; omega), (show _ ≤ _ by have := HU.out; have := T40.out; simp; omega), h00, ho2, hB2, hS2, hJ2⟩
                  · have ha : Aside (adj G p c = false) := (show _ = _ from decide_eq_false (by rw [hv]; exact hpos))
                    have Hv := Lib.hid hv; clear hv
                    have hJ2 : Aside (BfsJ G to c o2 Q2 (p + 1)) := (show BfsJ _ _ _ _ _ _ from bfs_skip TJ.out (.inr ha.out))
                    go_wp2_with (first | (go_at_call 78; refine (cap_any hGr p c (by omega) (by omega)).mono ?_; rintro e w' ⟨rfl, rfl⟩; rw [Hv.out]))
                    go_roundg (17 - (p + 1))
                    case measure => omega
                    case rel => exact ⟨o2, Q2, p + 1, by omega, by omega, by go_num, TQ, TG, T40, T0, T1, TB, TS, hJ2⟩
                · have hJ2 : Aside (BfsJ G to c o2 Q2 (p + 1)) := (show BfsJ _ _ _ _ _ _ from bfs_skip TJ.out (.inl ho))
                  have hob : ((o2 p : Int) == 17) = false := by simp; omega
                  clear ho
                  go_wp2
                  go_roundg (17 - (p + 1))
                  case measure => omega
                  case rel => exact ⟨o2, Q2, p + 1, by omega, by omega, by go_num, TQ, TG, T40, T0, T1, TB, TS, hJ2⟩
              · have hltz : ¬ (p : Int) < 17 := by omega
                obtain rfl : p = 17 := by omega
                have hI2 : Aside (BfsI G to o2 Q2) := (show BfsI _ _ _ _ from bfs_end TJ.out)
                have hT : 2 * und o2 + Q2.length < gko := (show _ < _ by have := TG.out; omega)
                go_wp2
                go_roundg (2 * und o2 + Q2.length)
                case measure => exact hT
                case rel => exact ⟨o2, Q2, TQ, Nat.le_refl _, by have := T40.out; omega, T0, T1, TB, TS, hI2⟩
          · subst hvq
            have RQ3' : Aside (Queue wr (w.heap.size + 2) (.slice (some ⟨g, off + 1, none⟩) n (cap - 1)) Q) := RQ3
            clear Split RQ3
            go_wp2
            obtain ⟨wo, rfl⟩ : ∃ wo : World, wo = wr := ⟨_, rfl⟩
            obtain ⟨gko, rfl⟩ : ∃ go : Nat, go = gk := ⟨_, rfl⟩
            go_loopg [7, 9] 17 (fun gg s7 s9 wr => ∃ (o2 : Nat → Nat) (Q2 : List Nat) (p : Nat), (1 ≤ p ∧ p ≤ 17) ∧ 17 - p ≤ gg ∧ s9 = .int .u8 p ∧ Aside (Queue wr (w.heap.size + 2) s7 Q2) ∧ Aside (2 * und o2 + Q2.length + 1 ≤ gko) ∧ Aside (2 * und o2 + Q2.length + 1 ≤ 40) ∧ Aside (OutAt wr w.heap.size (fun _ => 0)) ∧ Aside (OutAt wr (w.heap.size + 1) o2) ∧ Aside (Below w.heap.size w wr) ∧ Aside (w.heap.size + 2 ≤ wr.heap.size) ∧ Aside (BfsJ G to c o2 Q2 p))
            case atStart => exact ⟨out, Q, 1, by omega, by omega, rfl, RQ3', (show _ ≤ _ by have := HG.out; rw [HN.out]; omega), (show _ ≤ _ by have := H40.out; rw [HN.out]; omega), R0, R1, RB, RS, HJ.out⟩
            case round =>
              obtain ⟨o2, Q2, p, hp, hg2, rfl, TQ, TG, T40, T0, T1, TB, TS, TJ⟩ := hrel
              by_cases hlt : p < 17
              · have hltz : (p : Int) < 17 := by omega
                have hp16 : p ≤ 16 := by omega
                have hcp := T1.out.cell hp16
                have hcc2 := T1.out.cell hc16.2
                have hf := T1.out.free
                have hl := T1.out.lt
                have hGr := (h.below TB.out)
                have hTS := TS.out
                by_cases ho : o2 p = 17
                · rw [ho] at hcp
                  have Ho := Lib.hid ho; clear ho
                  obtain ⟨v, hv⟩ : ∃ v, capOf G p c = v := ⟨_, rfl⟩
                  by_cases hpos : 0 < v
                  · have ha : Aside (adj G p c = true) := (show _ = _ from decide_eq_true (by rw [hv]; exact hpos))
                    have Hv := Lib.hid hv; clear hv
                    obtain ⟨d, hd⟩ : ∃ d, o2 c = d := ⟨_, rfl⟩
                    have hd16 : d < 17 := by
                      have := (TJ.out.ok c TJ.out.cur.1).lt hc16
                      omega
                    rw [hd] at hcc2
                    have Hd := Lib.hid hd; clear hd
                    go_wp2_with (first | (go_at_call 78; refine (cap_any hGr p c (by omega) (by omega)).mono ?_; rintro e w' ⟨rfl, rfl⟩; rw [Hv.out]) | refine wpl_append_party (B := w.heap.size + 2) (p := p) (L := Q2) ((TQ.out.setCell (w.heap.size + 1) p _ (by omega)).below ((Below.refl _ _).alloc (Nat.le_refl _) _)) rfl rfl ?_ ?_ ?_ ?_)
                    · exact World.news_of_block (by have := alloc_new (wr.setCell ⟨w.heap.size + 1, p, none⟩ (.int .i64 ((d : Int) + 1))) (.cells #[.int .u8 p] 23); simpa using this) 0 _ rfl
                    · simp; omega
                    · have := T40.out; omega
                    · intro v' w' hq' hb'
                      have hB2 : Aside (Below w.heap.size w w') := by
                        refine (TB.out.trans ?_ : Below w.heap.size w w')
                        exact (((Below.refl w.heap.size wr).setCell (p := ⟨w.heap.size + 1, p, none⟩) (by simp) _).alloc (by simp; omega) _).trans ⟨hb'.os, hb'.tape, hb'.output, hb'.size, fun k hk => hb'.block k (by omega)⟩
                      have ho2 : Aside (OutAt w' (w.heap.size + 1) (setO o2 p (d + 1))) := by
                        have h2 := T1.out.set hp16 (d + 1)
                        exact (hb'.block _ (by omega)).trans ((Below.heap_alloc _ _ _ (by simpa using hl)).trans h2)
                      have h00 : Aside (OutAt w' w.heap.size (fun _ => 0)) :=
                        (hb'.block _ (by omega)).trans ((Below.heap_alloc _ _ _ (by simp; omega)).trans ((Below.heap_setCell _ _ _ _ (by simp)).trans T0.out))
                      have hS2 : Aside (w.heap.size + 2 ≤ w'.heap.size) := (show _ ≤ _ by have := hb'.size; simp at this; omega)
                      have hJ2 : Aside (BfsJ G to c (setO o2 p (d + 1)) (Q2 ++ [p]) (p + 1)) := (show BfsJ _ _ _ _ _ _ by
                        have := bfs_take TJ.out Ho.out ha.out
                        rw [Hd.out] at this; exact this)
                      have hu2 := und_set (d := d + 1) Ho.out hp16 (by have := (TJ.out.ok c TJ.out.cur.1).lt hc16; have := Hd.out; omega)
                      have HU := Lib.hid hu2
                      clear hu2
                      have hq2 : Aside (Queue w' (w.heap.size + 2) v' (Q2 ++ [p])) := hq'
                      clear hq' hb'
                      go_wp2
                      go_roundg (17 - (p + 1))
                      case measure => omega
                      case rel => exact ⟨setO o2 p (d + 1), Q2 ++ [p], p + 1, by omega, by omega, by go_num, hq2, (show _ ≤ _ by have := HU.out; have := TG.out; simp; omega), (show _ ≤ _ by have := HU.out; have := T40.out; simp; omega), h00, ho2, hB2, hS2, hJ2⟩
                  · have ha : Aside (adj G p c = false) := (show _ = _ from decide_eq_false (by rw [hv]; exact hpos))
                    have Hv := Lib.hid hv; clear hv
                    have hJ2 : Aside (BfsJ G to c o2 Q2 (p + 1)) := (show BfsJ _ _ _ _ _ _ from bfs_skip TJ.out (.inr ha.out))
                    go_wp2_with (first | (go_at_call 78; refine (cap_any hGr p c (by omega) (by omega)).mono ?_; rintro e w' ⟨rfl, rfl⟩; rw [Hv.out]))
                    go_roundg (17 - (p + 1))
                    case measure => omega
                    case rel => exact ⟨o2, Q2, p + 1, by omega, by omega, by go_num, TQ, TG, T40, T0, T1, TB, TS, hJ2⟩
                · have hJ2 : Aside (BfsJ G to c o2 Q2 (p + 1)) := (show BfsJ _ _ _ _ _ _ from bfs_skip TJ.out (.inl ho))
                  have hob : ((o2 p : Int) == 17) = false := by simp; omega
                  clear ho
                  go_wp2
                  go_roundg (17 - (p + 1))
                  case measure => omega
                  case rel => exact ⟨o2, Q2, p + 1, by omega, by omega, by go_num, TQ, TG, T40, T0, T1, TB, TS, hJ2⟩
              · have hltz : ¬ (p : Int) < 17 := by omega
                obtain rfl : p = 17 := by omega
                have hI2 : Aside (BfsI G to o2 Q2) := (show BfsI _ _ _ _ from bfs_end TJ.out)
                have hT : 2 * und o2 + Q2.length < gko := (show _ < _ by have := TG.out; omega)
                go_wp2
                go_roundg (2 * und o2 + Q2.length)
                case measure => exact hT
                case rel => exact ⟨o2, Q2, TQ, Nat.le_refl _, by have := T40.out; omega, T0, T1, TB, TS, hI2⟩
end Go.Proofs.Ytelcdiceongfdaa
