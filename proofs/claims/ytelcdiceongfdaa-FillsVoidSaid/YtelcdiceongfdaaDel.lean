/- The walk of slices.Delete at offers: one is taken out. -/
import Derived.Test.YtelcdiceongfdaaBook7
import Derived.Deep.RegionLaw
namespace Go.Proofs.Ytelcdiceongfdaa
open Go.RowKit Go.BigFrame
set_option maxRecDepth 100000

def DelPost (w : World) (g cap base : Nat) (l : List Offer) (e : Ending) (w' : World) : Prop :=
  e = .returned (.slice (some ⟨g, 0, none⟩) l.length cap) ∧ Chg [g] w w' ∧ w'.ownsRow base 57 7 (.slice (some ⟨g, 0, none⟩) l.length cap) l.length (l.flatMap Offer.enc)

theorem flat_take : ∀ (l : List Offer) (k : Nat), k ≤ l.length → (l.flatMap Offer.enc).take (k * 7) = (l.take k).flatMap Offer.enc
  | l, 0, _ => by simp
  | [], k + 1, h => by simp at h
  | o :: l, k + 1, h => by
    rw [List.flatMap_cons, List.take_append, enc_len, List.take_of_length_le (by rw [enc_len]; omega), show (k + 1) * 7 - 7 = k * 7 by omega, flat_take l k (by simpa using h)]
    rfl
theorem flat_drop : ∀ (l : List Offer) (k : Nat), k ≤ l.length → (l.flatMap Offer.enc).drop (k * 7) = (l.drop k).flatMap Offer.enc
  | l, 0, _ => by simp
  | [], k + 1, h => by simp at h
  | o :: l, k + 1, h => by
    rw [List.flatMap_cons, List.drop_append, enc_len, List.drop_of_length_le (by rw [enc_len]; omega), show (k + 1) * 7 - 7 = k * 7 by omega, flat_drop l k (by simpa using h)]
    rfl
theorem enc_one (o : Offer) : ∀ u ∈ o.enc, u.oneCell' = true := by
  intro u hu
  simp only [Offer.enc, List.mem_cons, List.not_mem_nil, or_false] at hu
  rcases hu with rfl | rfl | rfl | rfl | rfl | rfl | rfl <;> rfl
theorem flat_one (l : List Offer) : ∀ u ∈ l.flatMap Offer.enc, u.oneCell' = true := by
  intro u hu
  obtain ⟨o, _, ho⟩ := List.mem_flatMap.1 hu
  exact enc_one o u ho

theorem step_append_of {P : Program} {ops : Array Oper} {o : Oper} {a : Act} {w : World} {K : Act → World → Prop} {Q : Exit → Act → World → Prop} {E : Prop} (hgd : o.guard = none) (s x : Operand) (t : TypeId)
    (ho : o.op = .call { callee := .builtin .append, args := #[s, x], argTypes := #[t, t] }) (v1 v2 v' : Value) (w' : World) (hs : a.eval s = v1) (hx : a.eval x = v2)
    (hr : ∀ ty, (Builtin.append_ #[t, t] ty #[v1, v2]).run P w = .ok v' w') (hK : K (a.put o.dst v') w') :
    if Region.wanted o (yielded ops a.tmps) = true then Oper.wp P o a w K Q else E := by
  have hw : Region.wanted o (yielded ops a.tmps) = true := by simp [Region.wanted, hgd]
  rw [if_pos hw]
  unfold Oper.wp execOp
  simp only [ho, resolve, invoke, builtin, Sem.run_bind, Sem.run_pure, Result.andThen_ok, List.map_toArray, List.map_cons, List.map_nil, hs, hx, hr o.type]
  exact hK

theorem clear_one {w : World} {g off c : Nat} {cur : Array Value} (hg : w.heap[g]? = some (.cells cur 57 (0, 0))) (hfit : off + 7 ≤ cur.size) :
    ∀ ty, (Builtin.clear_ #[36] ty #[.slice (some ⟨g, off, none⟩) 1 c]).run Try.prog w = .ok (.tuple #[]) (w.setRow g (cur.toList.take off ++ Offer.enc ⟨0, 0, 0, 0, 0, 0, 0⟩ ++ cur.toList.drop (off + 7)).toArray) := fun ty => by
  have hst := run_storeCells_at Try.prog g off 57 (Offer.enc ⟨0, 0, 0, 0, 0, 0, 0⟩) 0 cur w hg (by rw [enc_len]; omega) (enc_one _)
  have hv := Try.zeroValue57
  have e : (Builtin.zeroCells (Value.cells (.agg #[.int .u64 0, .int .u8 0, .int .u8 0, .int .u8 0, .int .i64 0, .int .i64 0, .int .i64 0])) 1).toList = Offer.enc ⟨0, 0, 0, 0, 0, 0, 0⟩ := by kernel_rfl
  simp only [Nat.add_zero, enc_len] at hst
  simp [Builtin.clear_, run_underlying Try.underlying36, hv, e, hst]

set_option maxHeartbeats 1000000 in
theorem delete_at {w : World} {base g cap : Nat} {l : List Offer} (h : w.ownsRow base 57 7 (.slice (some ⟨g, 0, none⟩) l.length cap) l.length (l.flatMap Offer.enc)) (k : Nat) (hk : k < l.length) :
    Calls Try.prog 44 #[.slice (some ⟨g, 0, none⟩) l.length cap, .int .i64 k, .int .i64 (k + 1)] w (DelPost w g cap base (l.eraseIdx k)) := by
  obtain ⟨i0, hi, iz0, iz1, iz2⟩ := info_parts infoOffer'
  have hle : (l.eraseIdx k).length = l.length - 1 := List.length_eraseIdx_of_lt hk
  rcases h.2 with ⟨e, _⟩ | ⟨g', cap', cur, e, hbase, hg, hnc, hcm, hcs, htake⟩
  · cases e
  simp only [Value.slice.injEq, Option.some.injEq, Addr.mk.injEq, and_true, true_and] at e
  obtain ⟨rfl, rfl⟩ := e
  -- the cells that move
  obtain ⟨news, hnews⟩ : ∃ news, news = (l.drop (k + 1)).flatMap Offer.enc := ⟨_, rfl⟩
  have hlen : news.length = (l.length - (k + 1)) * 7 := by rw [hnews, flat_len, List.length_drop]
  obtain ⟨A, hA, hsrc⟩ : ∃ A : Addr, (if cap = k + 1 then (some (⟨g, 0, none⟩ : Addr)) else some ⟨g, (k + 1) * 7, none⟩) = some A ∧ Hid (∀ t u, news[t]? = some u → w.drew.cell? (A.add t) = some u) := by
    by_cases hc : cap = k + 1
    · refine ⟨⟨g, 0, none⟩, by simp [hc], fun t u hu => ?_⟩
      have h0 : news.length = 0 := by rw [hlen]; have : l.length - (k + 1) = 0 := by omega
                                      rw [this]
      rw [List.length_eq_zero_iff.1 h0] at hu
      simp at hu
    · refine ⟨⟨g, (k + 1) * 7, none⟩, by simp [hc], fun t u hu => ?_⟩
      rw [hnews, ← flat_drop l (k + 1) (by omega), List.getElem?_drop] at hu
      have := h.cells (g := g) rfl _ _ hu
      rw [Addr.add_lit] at this ⊢
      rw [Nat.zero_add] at this
      exact this
  obtain ⟨cur1, hcur1⟩ : ∃ cur1 : Array Value, cur1 = (cur.toList.take (k * 7) ++ news ++ cur.toList.drop (k * 7 + news.length)).toArray := ⟨_, rfl⟩
  have hap : ∀ ty, (Builtin.append_ #[36, 36] ty #[.slice (some ⟨g, 0, none⟩) k cap, .slice (some A) (l.length - (k + 1)) (cap - (k + 1))]).run Try.prog w.drew = .ok (.slice (some ⟨g, 0, none⟩) (l.length - 1) cap) (w.drew.setRow g cur1) := fun ty => by
    have := run_append_room (P := Try.prog) w.drew 36 ty 57 i0 Try.underlying36 hi g k cap cur hg A (l.length - (k + 1)) (cap - (k + 1)) news (by rw [iz1, hlen]) hsrc.out (by rw [hnews]; exact flat_one _) (by omega) (by rw [iz1, hlen, hcs]; omega)
    rw [this, iz1, ← hcur1, show k + (l.length - (k + 1)) = l.length - 1 by omega]
  have hkc : k ≤ cap := by omega
  have hkc1 : k + 1 ≤ cap := by omega
  have hkn : ((k : Int) == (k : Int) + 1) = false := by simp; omega
  have Hs := Lib.hid hcs; have Ht := Lib.hid htake; have Hl := Lib.hid hlen; have Hn := Lib.hid hnews; have Hc := Lib.hid hcur1; have Hg := Lib.hid hg
  clear hcs htake hlen hnews hcur1 h hsrc
  go_enter Try.func44, Try.ntmps44
  go_wp2_with fail
  have hkl : (k : Int) + 1 ≤ (l.length : Int) := by omega
  have hk0 : (0 : Int) ≤ (k : Int) + 1 := by omega
  go_region_law? (refine step_append_of rfl (.tmp 22) (.tmp 25) 36 rfl _ _ _ _ rfl rfl hap ?_)
  have hW : (w.drew.setRow g cur1).heap[g]? = some (.cells cur1 57 (0, 0)) := setRow_heap w.drew g cur cur1 _ _ Hg.out
  have e1 : l.length - (l.length - 1) = 1 := by omega
  have hcl : ∀ ty, (Builtin.clear_ #[36] ty #[.slice (some ⟨g, (l.length - 1) * 7, none⟩) (l.length - (l.length - 1)) (cap - (l.length - 1))]).run Try.prog (w.drew.setRow g cur1) = .ok (.tuple #[]) ((w.drew.setRow g cur1).setRow g (cur1.toList.take ((l.length - 1) * 7) ++ Offer.enc ⟨0, 0, 0, 0, 0, 0, 0⟩ ++ cur1.toList.drop ((l.length - 1) * 7 + 7)).toArray) := by
    rw [e1]
    exact clear_one hW (by rw [Hc.out]; have := Hs.out; have := Hl.out; simp; omega)
  clear e1
  generalize hw1 : w.drew.setRow g cur1 = W1 at *
  have Hw1 := Lib.hid hw1; clear hw1
  go_wp2
  go_ret
  have hc1 : cur1.toList = (l.take k).flatMap Offer.enc ++ (l.drop (k + 1)).flatMap Offer.enc ++ cur.toList.drop (k * 7 + news.length) := by
    have : cur.toList.take (k * 7) = (l.take k).flatMap Offer.enc := by
      rw [← flat_take l k (by omega), ← Ht.out, List.take_take, Nat.min_eq_left (by omega)]
    rw [Hc.out, this, Hn.out]
  have hl1 : ((l.take k).flatMap Offer.enc ++ (l.drop (k + 1)).flatMap Offer.enc).length = (l.length - 1) * 7 := by
    rw [List.length_append, flat_len, flat_len, List.length_take, List.length_drop, Nat.min_eq_left (by omega)]; omega
  have hz1 : cur1.toList.length = cap * 7 := by
    have hcl2 : cur.toList.length = cap * 7 := (Array.length_toList (xs := cur)).trans Hs.out
    have hll := Hl.out
    rw [hc1, List.length_append, hl1, List.length_drop, hcl2, hll]; omega
  have ht1 : cur1.toList.take ((l.length - 1) * 7) = (l.eraseIdx k).flatMap Offer.enc := by
    rw [hc1, ← hl1, List.take_left, List.eraseIdx_eq_take_drop_succ, List.flatMap_append]
  rw [← Hw1.out]
  refine ⟨by rw [hle]; rfl, ⟨rfl, rfl, rfl, by simp [World.setRow], fun j hj hn => ?_⟩, by rw [flat_len], .inr ⟨g, cap, _, by rw [hle], hbase, setRow_heap _ g _ _ _ _ (setRow_heap w.drew g cur cur1 _ _ Hg.out), by omega, hcm, ?_, ?_⟩⟩
  · rw [setRow_other _ _ _ _ (by simpa using hn), setRow_other _ _ _ _ (by simpa using hn)]; rfl
  · rw [← Array.length_toList]
    simp only [List.length_append, List.length_take, List.length_drop, hz1, enc_len]
    omega
  · rw [hle]
    show List.take ((l.length - 1) * 7) (List.take ((l.length - 1) * 7) cur1.toList ++ (Offer.enc ⟨0, 0, 0, 0, 0, 0, 0⟩ ++ cur1.toList.drop ((l.length - 1) * 7 + 7))) = _
    have hh : (List.take ((l.length - 1) * 7) cur1.toList).length = (l.length - 1) * 7 := by rw [List.length_take, hz1]; omega
    rw [List.take_append_of_le_length (by omega), List.take_of_length_le (by omega), ht1]

end Go.Proofs.Ytelcdiceongfdaa
