/- Walks of the layer fills, second part: the least of four bounds. -/
import Derived.Test.YtelcdiceongfdaaFill
import Derived.Laws.EntriesVeiled
namespace Go.Proofs.Ytelcdiceongfdaa
open Go.RowKit Go.BigFrame
set_option maxRecDepth 100000

def leastI (x1 x2 x3 x4 : Int) : Int := max (min (min (min (min 1099511627776 x1) x2) x3) x4) 0
def leastK (x1 x2 x3 x4 : Int) : Nat → Int
  | 0 => 1099511627776
  | 1 => min 1099511627776 x1
  | 2 => min (min 1099511627776 x1) x2
  | 3 => min (min (min 1099511627776 x1) x2) x3
  | _ => min (min (min (min 1099511627776 x1) x2) x3) x4
set_option maxHeartbeats 400000 in
theorem least_4 {w : World} {g c : Nat} {v : Value} {x1 x2 x3 x4 : Int}
    (hc : ∀ (j : Nat) (u : Value), (#[Value.func (.func 23) #[v] #[], .func (.func 24) #[v] #[], .func (.func 25) #[v] #[], .func (.func 26) #[v] #[]] : Array Value)[j]? = some u → w.cell? ⟨g, j, none⟩ = some u) (hg : g < w.heap.size)
    (h1 : ∀ W, Below w.heap.size w W → Calls Try.prog 23 #[v] W (IntPost W x1)) (h2 : ∀ W, Below w.heap.size w W → Calls Try.prog 24 #[v] W (IntPost W x2))
    (h3 : ∀ W, Below w.heap.size w W → Calls Try.prog 25 #[v] W (IntPost W x3)) (h4 : ∀ W, Below w.heap.size w W → Calls Try.prog 26 #[v] W (IntPost W x4)) :
    Calls Try.prog 22 #[.slice (some ⟨g, 0, none⟩) 4 c] w (IntPost w (leastI x1 x2 x3 x4)) := by
  have HC := Lib.hid hc; have H1 := Lib.hid h1; have H2 := Lib.hid h2; have H3 := Lib.hid h3; have H4 := Lib.hid h4
  clear hc h1 h2 h3 h4
  go_enter Try.func22, Try.ntmps22
  go_wp2
  go_loopg [3, 8] 4 (fun gg s3 s8 wr => ∃ i : Nat, i ≤ 4 ∧ 4 - i ≤ gg ∧ s8 = .int .i64 i ∧ s3 = .int .i64 (leastK x1 x2 x3 x4 i) ∧ Aside (Below w.heap.size w wr))
  case atStart => exact ⟨0, by omega, by omega, rfl, rfl, Below.refl _ _⟩
  case round =>
    obtain ⟨i, hi, hgg, rfl, rfl, BW⟩ := hrel
    have q : ∀ j u, (#[Value.func (.func 23) #[v] #[], .func (.func 24) #[v] #[], .func (.func 25) #[v] #[], .func (.func 26) #[v] #[]] : Array Value)[j]? = some u → wr.cell? ⟨g, j, none⟩ = some u := fun j u hu => (BW.out.cell (p := ⟨g, j, none⟩) hg).trans (HC.out j u hu)
    have q0 := q 0 _ rfl
    have q1 := q 1 _ rfl
    have q2 := q 2 _ rfl
    have q3 := q 3 _ rfl
    have hgl : g < wr.heap.size := Nat.lt_of_lt_of_le hg BW.out.size
    clear q
    have hcase : i = 0 ∨ i = 1 ∨ i = 2 ∨ i = 3 ∨ i = 4 := by omega
    rcases hcase with rfl | rfl | rfl | rfl | rfl
    · go_wp2_with (go_at_call 23; refine (H1.out _ BW.out).mono ?_; rintro e w1 ⟨rfl, hb1⟩)
      all_goals
        go_roundg 3
        case measure => omega
        case rel => exact ⟨1, by omega, by omega, rfl, by simp only [leastK] at *; congr 1; omega, BW.out.trans (hb1.mono BW.out.size)⟩
    · go_wp2_with (go_at_call 24; refine (H2.out _ BW.out).mono ?_; rintro e w1 ⟨rfl, hb1⟩)
      all_goals
        go_roundg 2
        case measure => omega
        case rel => exact ⟨2, by omega, by omega, rfl, by simp only [leastK] at *; congr 1; omega, BW.out.trans (hb1.mono BW.out.size)⟩
    · go_wp2_with (go_at_call 25; refine (H3.out _ BW.out).mono ?_; rintro e w1 ⟨rfl, hb1⟩)
      all_goals
        go_roundg 1
        case measure => omega
        case rel => exact ⟨3, by omega, by omega, rfl, by simp only [leastK] at *; congr 1; omega, BW.out.trans (hb1.mono BW.out.size)⟩
    · go_wp2_with (go_at_call 26; refine (H4.out _ BW.out).mono ?_; rintro e w1 ⟨rfl, hb1⟩)
      all_goals
        go_roundg 0
        case measure => omega
        case rel => exact ⟨4, by omega, by omega, rfl, by simp only [leastK] at *; congr 1; omega, BW.out.trans (hb1.mono BW.out.size)⟩
    · go_wp2
      all_goals
        go_ret
        exact ⟨ret_int (by unfold leastI; simp only [leastK] at *; omega), BW.out⟩
end Go.Proofs.Ytelcdiceongfdaa
