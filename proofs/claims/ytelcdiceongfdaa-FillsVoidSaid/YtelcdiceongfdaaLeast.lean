/- The walk of flows.least: the least capacity along a way. -/
import Derived.Test.YtelcdiceongfdaaWays
namespace Go.Proofs.Ytelcdiceongfdaa
open Go.RowKit Go.BigFrame
set_option maxRecDepth 100000

def leastTo (G : Caps) (l : List Nat) (want : Int) : Nat → Int
  | 0 => want
  | i + 1 => min (leastTo G l want i) (capOf G (l.getD i 0) (l.getD (i + 1) 0))
def LeastPost (w : World) (n : Int) (e : Ending) (w' : World) : Prop := e = .returned (.int .i64 n) ∧ Below w.heap.size w w'

set_option maxHeartbeats 400000 in
theorem least_any {w : World} {b g c : Nat} {G : Caps} {l : List Nat} (h : GraphAt w b G) (hw : WayAt w g l) (hl : 1 ≤ l.length) (hl2 : l.length ≤ 100) (hp : ∀ p ∈ l, p ≤ 16) (want : Int) :
    Calls Try.prog 63 #[.pointer (some ⟨b, 0, none⟩), .slice (some ⟨g, 0, none⟩) l.length c, .int .i64 want] w (LeastPost w (leastTo G l want (l.length - 1))) := by
  obtain ⟨hg, hcells⟩ := hw
  have hb := h.lt
  obtain ⟨n, hn⟩ : ∃ n, l.length = n + 1 := ⟨l.length - 1, by omega⟩
  rw [hn, Nat.add_sub_cancel]
  have HN := Lib.hid hn
  have hn2 : n ≤ 100 := by omega
  have HC := Lib.hid hcells; have HP := Lib.hid hp
  clear hn hcells hp hl hl2
  go_enter Try.func63, Try.ntmps63
  go_wp2
  go_loopg [2, 7, 11] n (fun gg s2 s7 s11 wr => ∃ i : Nat, i ≤ n ∧ n - i ≤ gg ∧ s11 = .int .i64 i ∧ s2 = .int .i64 (leastTo G l want i) ∧ Aside (Below w.heap.size w wr))
  case atStart => exact ⟨0, by omega, by omega, rfl, rfl, Below.refl _ w⟩
  case round =>
    obtain ⟨i, hi, hgg, rfl, rfl, BW⟩ := hrel
    by_cases hlt : i < n
    · have hltz : (i : Int) < (n : Int) := by omega
      have hltz2 : (i : Int) < (n : Int) + 1 := by omega
      have hltz3 : (i : Int) + 1 < (n : Int) + 1 := by omega
      have HL : Aside (leastTo G l want (i + 1) = min (leastTo G l want i) (capOf G (l.getD i 0) (l.getD (i + 1) 0))) := rfl
      have hx : l[i]? = some (l.getD i 0) := by
        have := HN.out
        rw [List.getD_eq_getElem?_getD, List.getElem?_eq_getElem (by omega)]; rfl
      have hy : l[i + 1]? = some (l.getD (i + 1) 0) := by
        have := HN.out
        rw [List.getD_eq_getElem?_getD, List.getElem?_eq_getElem (by omega)]; rfl
      obtain ⟨x, hx0⟩ : ∃ x, l.getD i 0 = x := ⟨_, rfl⟩
      obtain ⟨y, hy0⟩ : ∃ y, l.getD (i + 1) 0 = y := ⟨_, rfl⟩
      rw [hx0] at hx
      rw [hy0] at hy
      have HLX : Aside (leastTo G l want (i + 1) = min (leastTo G l want i) (capOf G x y)) := (show _ = _ by rw [HL.out, hx0, hy0])
      have hx16 := HP.out x (List.mem_of_getElem? hx)
      have hy16 := HP.out y (List.mem_of_getElem? hy)
      have hcx : wr.cell? ⟨g, i, none⟩ = some (.int .u8 x) := (BW.out.cell (p := ⟨g, i, none⟩) hg).trans (HC.out i x hx)
      have hcy : wr.cell? ⟨g, i + 1, none⟩ = some (.int .u8 y) := (BW.out.cell (p := ⟨g, i + 1, none⟩) hg).trans (HC.out (i + 1) y hy)
      have hGr := h.below BW.out
      have hgr : g < wr.heap.size := Nat.lt_of_lt_of_le hg BW.out.size
      clear hx0 hy0 hx hy HL
      obtain ⟨m, hm⟩ : ∃ m, leastTo G l want i = m := ⟨_, rfl⟩
      rw [hm]
      have HM := Lib.hid hm; clear hm
      go_wp2
      refine wp_region_later (by kernel_rfl) (by kernel_rfl) ?_; (repeat (go_big_quiet_step ((go_at_call 78; exact Calls.later_same (cap_any (hGr.below (Later.b _)) x y (by omega) (by omega)))))); refine wpQuiet_nil ?_; rintro _ ⟨W, rfl⟩
      have hWb := W.b
      go_wp2
      all_goals
        go_roundg (n - (i + 1))
        case measure => omega
        case rel =>
          refine ⟨i + 1, by omega, by omega, by go_num, ?_, BW.out.trans (hWb.mono BW.out.size)⟩
          rw [HLX.out, HM.out]
          first | rw [Int.min_eq_left (by assumption)] | rw [Int.min_eq_right (by omega)]
    · have hltz : ¬ (i : Int) < (n : Int) := by omega
      obtain rfl : i = n := by omega
      go_wp2
      go_ret
      exact ⟨rfl, BW.out⟩
end Go.Proofs.Ytelcdiceongfdaa
