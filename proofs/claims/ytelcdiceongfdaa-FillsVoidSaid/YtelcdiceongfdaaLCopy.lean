/- The walk of a ledger's Copy: another ledger in memory, with the same. -/
import Derived.Test.YtelcdiceongfdaaLedger4
namespace Go.Proofs.Ytelcdiceongfdaa
open Go.RowKit Go.BigFrame
set_option maxRecDepth 100000

def CopyPost (w : World) (A : Ledger) (e : Ending) (w' : World) : Prop := ∃ b' m', e = .returned (.pointer (some ⟨b', 0, none⟩)) ∧ Below w.heap.size w w' ∧ LedgerAt w' b' m' A ∧ w.heap.size ≤ b' ∧ w.heap.size ≤ m'

set_option maxHeartbeats 1000000 in
theorem ledgersCopy {w : World} {b m : Nat} {A : Ledger} (h : LedgerAt w b m A) :
    Calls Try.prog 16 #[.pointer (some ⟨b, 0, none⟩)] w (CopyPost w A) := by
  have c0 := h.has (p := 0) (by omega)
  have c1 := h.has (p := 1) (by omega)
  have c2 := h.has (p := 2) (by omega)
  have c3 := h.has (p := 3) (by omega)
  have c4 := h.has (p := 4) (by omega)
  have c5 := h.has (p := 5) (by omega)
  have c6 := h.has (p := 6) (by omega)
  have c7 := h.has (p := 7) (by omega)
  have c8 := h.has (p := 8) (by omega)
  have c9 := h.has (p := 9) (by omega)
  have c10 := h.has (p := 10) (by omega)
  have c11 := h.has (p := 11) (by omega)
  have c12 := h.has (p := 12) (by omega)
  have c13 := h.has (p := 13) (by omega)
  have c14 := h.has (p := 14) (by omega)
  have c15 := h.has (p := 15) (by omega)
  have c16 := h.has (p := 16) (by omega)
  have c17 := h.mapc
  have hb := h.lt
  have hM := h.map
  go_enter Try.func16, Try.ntmps16
  go_wp2_with (go_at_call 33; refine (there_yes h.mapc).mono ?_; rintro e w' ⟨rfl, rfl⟩)
  go_region_with ((go_at_call 37; refine (mapsClone (A := A) (show MapAt w.drew m A from hM)).mono ?_; rintro e w1 ⟨rfl, hb1, hz1, hM1⟩; have d0 : w1.cell? ⟨b, 0, none⟩ = _ := (hb1.cell (p := ⟨b, 0, none⟩) hb).trans c0; have d1 : w1.cell? ⟨b, 1, none⟩ = _ := (hb1.cell (p := ⟨b, 1, none⟩) hb).trans c1; have d2 : w1.cell? ⟨b, 2, none⟩ = _ := (hb1.cell (p := ⟨b, 2, none⟩) hb).trans c2; have d3 : w1.cell? ⟨b, 3, none⟩ = _ := (hb1.cell (p := ⟨b, 3, none⟩) hb).trans c3; have d4 : w1.cell? ⟨b, 4, none⟩ = _ := (hb1.cell (p := ⟨b, 4, none⟩) hb).trans c4; have d5 : w1.cell? ⟨b, 5, none⟩ = _ := (hb1.cell (p := ⟨b, 5, none⟩) hb).trans c5; have d6 : w1.cell? ⟨b, 6, none⟩ = _ := (hb1.cell (p := ⟨b, 6, none⟩) hb).trans c6; have d7 : w1.cell? ⟨b, 7, none⟩ = _ := (hb1.cell (p := ⟨b, 7, none⟩) hb).trans c7; have d8 : w1.cell? ⟨b, 8, none⟩ = _ := (hb1.cell (p := ⟨b, 8, none⟩) hb).trans c8; have d9 : w1.cell? ⟨b, 9, none⟩ = _ := (hb1.cell (p := ⟨b, 9, none⟩) hb).trans c9; have d10 : w1.cell? ⟨b, 10, none⟩ = _ := (hb1.cell (p := ⟨b, 10, none⟩) hb).trans c10; have d11 : w1.cell? ⟨b, 11, none⟩ = _ := (hb1.cell (p := ⟨b, 11, none⟩) hb).trans c11; have d12 : w1.cell? ⟨b, 12, none⟩ = _ := (hb1.cell (p := ⟨b, 12, none⟩) hb).trans c12; have d13 : w1.cell? ⟨b, 13, none⟩ = _ := (hb1.cell (p := ⟨b, 13, none⟩) hb).trans c13; have d14 : w1.cell? ⟨b, 14, none⟩ = _ := (hb1.cell (p := ⟨b, 14, none⟩) hb).trans c14; have d15 : w1.cell? ⟨b, 15, none⟩ = _ := (hb1.cell (p := ⟨b, 15, none⟩) hb).trans c15; have d16 : w1.cell? ⟨b, 16, none⟩ = _ := (hb1.cell (p := ⟨b, 16, none⟩) hb).trans c16; have d17 : w1.cell? ⟨b, 17, none⟩ = _ := (hb1.cell (p := ⟨b, 17, none⟩) hb).trans c17))
  all_goals
    go_wp2
    go_ret
    have hB : Below w.heap.size w w1 := Below.trans ((Below.refl _ _).drew) hb1
    have hz : w1.heap.size = w.heap.size + 1 := hz1
    have hM2 : MapAt w1 w.heap.size A := hM1
    refine ⟨_, w.heap.size, rfl, hB.alloc (by omega) _, ⟨by have := alloc_new w1 (.cells (ledgerCells A w.heap.size) 35 (0, 0)); rw [hz] at this; exact this, hM2.alloc _, h.wf⟩, by omega, Nat.le_refl _⟩

end Go.Proofs.Ytelcdiceongfdaa
