/- Walks of the layer books, seventh part: another book with the same. -/
import Derived.Test.YtelcdiceongfdaaBook6
import Derived.Deep.RegionWith
import Derived.OwnWalk
namespace Go.Proofs.Ytelcdiceongfdaa
open Go.RowKit Go.BigFrame
set_option maxRecDepth 100000

def ClonePost (w : World) (l : List Offer) (e : Ending) (w' : World) : Prop :=
  ∃ ad c, e = .returned (.slice ad l.length c) ∧ Below w.heap.size w w' ∧ w'.ownsRow w.heap.size 57 7 (.slice ad l.length c) l.length (l.flatMap Offer.enc)
theorem infoOffer' : ((Try.prog).info? 57).map (fun i => (i.zero, i.size, i.bytes)) = some (some (.agg #[.int .u64 0, .int .u8 0, .int .u8 0, .int .u8 0, .int .i64 0, .int .i64 0, .int .i64 0]), 7, 40) := by kernel_rfl
theorem clone_nil (w : World) : Calls Try.prog 38 #[.slice none 0 0] w (ClonePost w []) := by
  have qT : ∀ (w : World) (a : Option Addr) (n c n' c' : Nat), (binOp .eql 36 (.slice a n c) (.slice none n' c')).run Try.prog w = .ok (.bool a.isNone) w := fun w a n c n' c' => Lib.run_eql_slice_nil w _ _ a n c n' c' Try.underlying36
  go_enter Try.func38, Try.ntmps38
  go_wp2
  go_ret
  exact ⟨none, 0, rfl, (by repeat (first | with_reducible exact Below.refl _ _ | with_reducible assumption | refine Below.drew ?_ | refine Below.setCell ?_ (by first | exact Nat.le_refl _ | omega | (simp; done) | (simp; omega)) _ | refine Below.alloc ?_ (by first | exact Nat.le_refl _ | omega | (simp; done) | (simp; omega)) _ | refine Below.tr ?_ (Nat.le_refl _) (by assumption) | exact Below.refl _ _ | assumption)), World.ownsRow_nil _ _ _ _⟩

set_option maxHeartbeats 1000000 in
theorem clone_row {w : World} {base : Nat} {g cap : Nat} {l : List Offer} (h : w.ownsRow base 57 7 (.slice (some ⟨g, 0, none⟩) l.length cap) l.length (l.flatMap Offer.enc)) (_hg : g < w.heap.size) (hm : l.length ≤ 1000000000000) :
    Calls Try.prog 38 #[.slice (some ⟨g, 0, none⟩) l.length cap] w (ClonePost w l) := by
  have qT : ∀ (w : World) (a : Option Addr) (n c n' c' : Nat), (binOp .eql 36 (.slice a n c) (.slice none n' c')).run Try.prog w = .ok (.bool a.isNone) w := fun w a n c n' c' => Lib.run_eql_slice_nil w _ _ a n c n' c' Try.underlying36
  obtain ⟨i0, hi, iz0, iz1, iz2⟩ := info_parts infoOffer'
  have hlen := flat_len l
  go_enter Try.func38, Try.ntmps38
  go_wp2_with (at_builtin; refine wpList_append_own _ rfl _ _ 36 rfl w.heap.size 57 i0 _ 7 40 Try.underlying36 hi iz0 iz1 iz2 rfl (by decide) _ 0 [] rfl (World.ownsRow_made w #[] 0 (Nat.le_refl _) (by decide) rfl) ⟨g, 0, none⟩ l.length cap (l.flatMap Offer.enc) rfl hlen ?_ ?_ (by simp [maxLen]; omega) (by omega) (by simp) ?_)
  · intro j u hu
    exact Lib.cell?_alloc_some _ (h.cells (g := g) rfl j u hu)
  · intro u hu
    obtain ⟨o, _, ho⟩ := List.mem_flatMap.1 hu
    simp only [Offer.enc, List.mem_cons, List.not_mem_nil, or_false] at ho
    rcases ho with rfl | rfl | rfl | rfl | rfl | rfl | rfl <;> rfl
  · intro v' w' hown hgrow _
    go_wp2
    go_ret
    have hC : Chg [] w w' := Chg.trans (Chg.of_below (S := []) ((by repeat (first | with_reducible exact Below.refl _ _ | with_reducible assumption | refine Below.drew ?_ | refine Below.setCell ?_ (by first | exact Nat.le_refl _ | omega | (simp; done) | (simp; omega)) _ | refine Below.alloc ?_ (by first | exact Nat.le_refl _ | omega | (simp; done) | (simp; omega)) _ | refine Below.tr ?_ (Nat.le_refl _) (by assumption) | exact Below.refl _ _ | assumption)) : Below w.heap.size w (w.alloc (.cells #[] 57)))) (Chg.of_grown hgrow (S := [w.heap.size]) (by simp [Value.ownBlock])) (fun x hx hlt => by simp at hx; omega)
    obtain ⟨ad, c, rfl⟩ : ∃ ad c, v' = .slice ad l.length c := by
      rcases hown.2 with ⟨e, h0⟩ | ⟨g, cap, cur, e, _⟩
      · exact ⟨none, 0, by rw [h0]; exact e⟩
      · exact ⟨_, _, e⟩
    exact ⟨ad, c, rfl, hC.below, hown⟩

def BCopyPost (w : World) (B : Book) (e : Ending) (w' : World) : Prop :=
  ∃ b' sl', e = .returned (.pointer (some ⟨b', 0, none⟩)) ∧ Below w.heap.size w w' ∧ BookAt w' b' B sl' ∧ w.heap.size ≤ b' ∧ ∀ k, sl'.ownBlock = some k → w.heap.size ≤ k
theorem ownsRow_mono {w : World} {base base' : Nat} {e : TypeId} {size : Nat} {v : Value} {n : Nat} {xs : List Value} (h : w.ownsRow base e size v n xs) (hb : base' ≤ base) : w.ownsRow base' e size v n xs := by
  refine ⟨h.1, ?_⟩
  rcases h.2 with h0 | ⟨g, cap, cur, e1, e2, e3⟩
  · exact .inl h0
  · exact .inr ⟨g, cap, cur, e1, Nat.le_trans hb e2, e3⟩

theorem booksCopy_no {w : World} {q : Option Addr} (h : NoBook w q) :
    Calls Try.prog 17 #[.pointer q] w fun e w' => e = .returned (.pointer none) ∧ w = w' := by
  go_enter Try.func17, Try.ntmps17
  go_wp2_with (go_at_call 31; refine (booksThere_no h).mono ?_; rintro e w' ⟨rfl, rfl⟩)
  go_ret
  exact ⟨rfl, rfl⟩

set_option maxHeartbeats 1000000 in
theorem booksCopy {w : World} {b : Nat} {B : Book} {sl : Value} (h : BookAt w b B sl) (hn : 1 ≤ B.next) (hm : B.l.length ≤ 1000000000000) :
    Calls Try.prog 17 #[.pointer (some ⟨b, 0, none⟩)] w (BCopyPost w B) := by
  have hb := h.lt
  have c0 := h.c0
  have c1 := h.c1
  have lt0_b : b < w.heap.size + 1 := (by omega); have lt1_b : b ≤ w.heap.size := (by omega); have lt2_b : b < w.heap.size + 2 := (by omega); have lt3_b : b < w.heap.size + 3 := (by omega); have lt4_b : b < w.heap.size + 4 := (by omega); have lt5_b : b < w.heap.size + 5 := (by omega)
  have hcl : Hid (∀ W, Below w.heap.size w W → Calls Try.prog 38 #[sl] W (ClonePost W B.l)) := fun W hW => by
    have h' := h.below hW
    rcases h'.cases with ⟨rfl, hl⟩ | ⟨g, cap, rfl, hg, hgb, hcap⟩
    · rw [hl]; exact clone_nil W
    · exact clone_row h'.row hg hm
  go_enter Try.func17, Try.ntmps17
  go_wp2_with (go_at_call 31; refine (booksThere_yes (n := B.next) h.c1 hn).mono ?_; rintro e w' ⟨rfl, rfl⟩)
  go_region_with ((go_at_call 38; refine (hcl.out _ (by repeat (first | with_reducible exact Below.refl _ _ | with_reducible assumption | refine Below.drew ?_ | refine Below.setCell ?_ (by first | exact Nat.le_refl _ | omega | (simp; done) | (simp; omega)) _ | refine Below.alloc ?_ (by first | exact Nat.le_refl _ | omega | (simp; done) | (simp; omega)) _ | refine Below.tr ?_ (Nat.le_refl _) (by assumption) | exact Below.refl _ _ | assumption))).mono ?_; rintro e w1 ⟨ad, c, rfl, hb1, hrow1⟩; have hB : Below w.heap.size w w1 := Below.trans ((Below.refl _ _).drew) hb1; have h1 := h.below hB; have d0 := h1.c0; have d1 := h1.c1; have hz := hB.size))
  all_goals
    go_wp2
    go_ret
    refine ⟨w1.heap.size, .slice ad B.l.length c, rfl, (by repeat (first | with_reducible exact Below.refl _ _ | with_reducible assumption | refine Below.drew ?_ | refine Below.setCell ?_ (by first | exact Nat.le_refl _ | omega | (simp; done) | (simp; omega)) _ | refine Below.alloc ?_ (by first | exact Nat.le_refl _ | omega | (simp; done) | (simp; omega)) _ | refine Below.tr ?_ (Nat.le_refl _) (by assumption) | exact Below.refl _ _ | assumption)), ⟨alloc_new w1 _, ?_⟩, hz, ?_⟩
    · have := ownsRow_chg (S := []) hrow1 (Chg.of_below ((by repeat (first | with_reducible exact Below.refl _ _ | with_reducible assumption | refine Below.drew ?_ | refine Below.setCell ?_ (by first | exact Nat.le_refl _ | omega | (simp; done) | (simp; omega)) _ | refine Below.alloc ?_ (by first | exact Nat.le_refl _ | omega | (simp; done) | (simp; omega)) _ | refine Below.tr ?_ (Nat.le_refl _) (by assumption) | exact Below.refl _ _ | assumption)) : Below w1.heap.size w1 (w1.alloc (.cells #[.slice ad B.l.length c, .int .u64 B.next] 38)))) (by simp)
      exact ownsRow_mono this (Nat.zero_le _)
    · exact fun k hk => (hrow1.lt k hk).1

end Go.Proofs.Ytelcdiceongfdaa
