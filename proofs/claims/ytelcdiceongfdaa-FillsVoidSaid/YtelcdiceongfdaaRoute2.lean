/- The walk of flows.Route: a round of its loop over ways. -/
import Derived.Test.YtelcdiceongfdaaRoute
namespace Go.Proofs.Ytelcdiceongfdaa
open Go.RowKit Go.BigFrame
set_option maxRecDepth 100000
attribute [local go_sem] Oper.semAt_some

/-- what holds between two rounds -/
structure RInv (w : World) (f t : Nat) (want : Int) (s0 : FS) (s : FS) (W : World) : Prop where
  mem : RMem w f t want s.g s.got s.ps W
  got : 0 ≤ s.got ∧ s.got < want
  gb : GB s.g
  many : s.ps.length + 15 * phi s.g t ≤ 1305000
  reach : Reach f t want s0 s
/-- what holds when as much as was wanted has got there -/
structure REnd (w : World) (f t : Nat) (want : Int) (s0 : FS) (W : World) : Prop where
  ex : ∃ s, RMem w f t want s.g s.got s.ps W ∧ (0 ≤ s.got ∧ s.got ≤ want) ∧ s.ps.length ≤ 1400000 ∧ ∃ k, routeF f t want k s0 = some s

def RoutePost (w : World) (f t : Nat) (want : Int) (G : Caps) (e : Ending) (w' : World) : Prop :=
  ∃ k r ad, routeF f t want k ⟨G, 0, []⟩ = some r ∧ e = .returned (.tuple #[.slice ad r.ps.length r.ps.length, .int .i64 r.got]) ∧ (0 ≤ r.got ∧ r.got ≤ want) ∧ Below w.heap.size w w' ∧ r.ps.length ≤ 1400000 ∧
    ((ad = none ∧ r.ps = []) ∨ ∃ g, ad = some ⟨g, 0, none⟩ ∧ w.heap.size ≤ g ∧ g < w'.heap.size ∧ ∀ (j : Nat) v, (r.ps.flatMap Flow.enc)[j]? = some v → w'.cell? ⟨g, j, none⟩ = some v)

theorem infoFlow : ((Try.prog).info? 104).map (fun i => (i.zero, i.size, i.bytes)) = some (some (.agg #[.int .u8 0, .int .u8 0, .int .i64 0]), 3, 16) := by kernel_rfl
theorem KeepsOthers.chg {S : List Nat} {W W' : World} (h : Chg S W W') (hS : ∀ k ∈ S, ∃ o : Obj, W.heap[k]? = some o ∧ o.isCells = true) : KeepsOthers W W' :=
  ⟨h.size, fun k o hk ho => (h.block k (Array.getElem?_eq_some_iff.1 hk).1 (fun hm => by
    obtain ⟨o', h1, h2⟩ := hS k hm
    rw [hk] at h1; cases h1; rw [ho] at h2; cases h2)).trans hk⟩
theorem young_row {w W W2 : World} {f t : Nat} {want : Int} {s0 s : FS} {k : Nat} (hy : Young (RInv w f t want s0) s W k) (_hm : RMem w f t want s.g s.got s.ps W2) (hb : Below W.heap.size W W2) : w.heap.size + 8 ≤ k ∧ ∀ v, W2.cell? ⟨w.heap.size + 2, 0, none⟩ = some v → v.ownBlock ≠ some k := by
  obtain ⟨W0, hI, hk, hcells⟩ := hy
  refine ⟨Nat.le_trans hI.mem.size hk, fun v hv hvk => ?_⟩
  obtain ⟨ad, c, h2, hrow⟩ := hI.mem.c2
  have h3 := hcells _ _ h2 rfl
  have h4 := (hb.block _ (Array.getElem?_eq_some_iff.1 h3).1).trans h3
  rw [cell_one h4] at hv
  cases hv
  have := (hrow.lt k hvk).2
  omega
theorem rcell0 {w w1 : World} {v : Value} {t : TypeId} {B C D : Obj} (hb1 : Below (w.heap.size + 4) ((((w.alloc (.cells #[v] t)).alloc B).alloc C).alloc D) w1) : w1.heap[w.heap.size]? = some (.cells #[v] t (0, 0)) :=
  (hb1.block _ (by omega)).trans ((Below.heap_alloc _ _ _ (by simp; omega)).trans ((Below.heap_alloc _ _ _ (by simp; omega)).trans ((Below.heap_alloc _ _ _ (by simp)).trans (alloc_new w _))))

theorem clipFlow (ad : Option Addr) (n c : Nat) (hnc : n ≤ c) (hc : c ≤ 9223372036854775807) (had : ad = none → c = 0) (w : World) :
    Calls Try.prog 65 #[.slice ad n c] w fun e w' => e = .returned (.slice ad n n) ∧ w = w' := by
  cases ad with
  | none =>
    have := had rfl
    subst this
    obtain rfl : n = 0 := by omega
    go_enter Try.func65, Try.ntmps65
    go_wp2
    go_ret
    exact ⟨rfl, rfl⟩
  | some a =>
    go_enter Try.func65, Try.ntmps65
    go_wp2
    go_ret
    exact ⟨by simp, rfl⟩

theorem route_end {w W : World} {f t : Nat} {want : Int} {g : Caps} {got : Int} {ps : List Flow} {ad : Option Addr} {c D : Nat} (h : RMem w f t want g got ps W) (h2 : W.heap[w.heap.size + 2]? = some (.cells #[.slice ad ps.length c] 100 (0, 0)))
    (hrow : W.ownsRow (w.heap.size + 8) 104 3 (.slice ad ps.length c) ps.length (ps.flatMap Flow.enc)) (hD : w.heap.size + 8 ≤ D) (hK : W.heap[D]? = some (.deferred (some []))) :
    (((W.setCell ⟨w.heap.size + 1 + 1, 0, none⟩ (.slice ad ps.length ps.length)).setCell ⟨w.heap.size + 1 + 1 + 1, 0, none⟩ (.int .i64 got)).drew).heap[D]? = some (.deferred (some [])) ∧
    ((((W.setCell ⟨w.heap.size + 1 + 1, 0, none⟩ (.slice ad ps.length ps.length)).setCell ⟨w.heap.size + 1 + 1 + 1, 0, none⟩ (.int .i64 got)).drew).putObj D (.deferred none)).cell? ⟨w.heap.size + 1 + 1, 0, none⟩ = some (.slice ad ps.length ps.length) ∧
    ((((W.setCell ⟨w.heap.size + 1 + 1, 0, none⟩ (.slice ad ps.length ps.length)).setCell ⟨w.heap.size + 1 + 1 + 1, 0, none⟩ (.int .i64 got)).drew).putObj D (.deferred none)).cell? ⟨w.heap.size + 1 + 1 + 1, 0, none⟩ = some (.int .i64 got) ∧
    (Below w.heap.size w ((((W.setCell ⟨w.heap.size + 1 + 1, 0, none⟩ (.slice ad ps.length ps.length)).setCell ⟨w.heap.size + 1 + 1 + 1, 0, none⟩ (.int .i64 got)).drew).putObj D (.deferred none)) ∧
    ((ad = none ∧ ps = []) ∨ ∃ g, ad = some ⟨g, 0, none⟩ ∧ w.heap.size ≤ g ∧ g < ((((W.setCell ⟨w.heap.size + 1 + 1, 0, none⟩ (.slice ad ps.length ps.length)).setCell ⟨w.heap.size + 1 + 1 + 1, 0, none⟩ (.int .i64 got)).drew).putObj D (.deferred none)).heap.size ∧ ∀ (j : Nat) v, (ps.flatMap Flow.enc)[j]? = some v → ((((W.setCell ⟨w.heap.size + 1 + 1, 0, none⟩ (.slice ad ps.length ps.length)).setCell ⟨w.heap.size + 1 + 1 + 1, 0, none⟩ (.int .i64 got)).drew).putObj D (.deferred none)).cell? ⟨g, j, none⟩ = some v)) := by
  obtain ⟨W1, hW1⟩ : ∃ W1, (W.setCell ⟨w.heap.size + 1 + 1, 0, none⟩ (.slice ad ps.length ps.length)).setCell ⟨w.heap.size + 1 + 1 + 1, 0, none⟩ (.int .i64 got) = W1 := ⟨_, rfl⟩
  rw [hW1]
  have k2 : W1.heap[w.heap.size + 2]? = some (.cells #[.slice ad ps.length ps.length] 100 (0, 0)) := by
    rw [← hW1]
    exact (Below.heap_setCell _ _ _ _ (by simp)).trans (set_one h2 _)
  have k3 : W1.heap[w.heap.size + 3]? = some (.cells #[.int .i64 got] 2 (0, 0)) := by
    rw [← hW1]
    exact set_one ((Below.heap_setCell _ _ _ _ (by simp)).trans h.c3) _
  have kk : ∀ k, w.heap.size + 8 ≤ k ∨ k < w.heap.size → W1.heap[k]? = W.heap[k]? := fun k hk => by
    rw [← hW1]
    exact (Below.heap_setCell _ _ _ _ (by simp; omega)).trans (Below.heap_setCell _ _ _ _ (by simp; omega))
  have kp : ∀ k, k ≠ D → (W1.drew.putObj D (.deferred none)).heap[k]? = W1.heap[k]? := fun k hk => World.putObj_heap_other hk
  have hz : W1.heap.size = W.heap.size := by rw [← hW1]; simp
  refine ⟨(kk D (.inl hD)).trans hK, ?_, ?_, ?_, ?_⟩
  · exact cell_one ((kp (w.heap.size + 2) (by omega)).trans k2)
  · exact cell_one ((kp (w.heap.size + 3) (by omega)).trans k3)
  · have hb : Below w.heap.size w W1 := by
      rw [← hW1]
      exact (h.bel.setCell (by simp; omega) _).setCell (by simp; omega) _
    exact ⟨hb.os, hb.tape, hb.output, by have := hb.size; simpa using this, fun k hk => (kp k (by omega)).trans (hb.block k hk)⟩
  · rcases hrow.2 with ⟨e, h0⟩ | ⟨gg, cap, cur, e, hg, hgg, _⟩
    · simp only [Value.slice.injEq] at e
      exact .inl ⟨e.1, List.eq_nil_of_length_eq_zero h0⟩
    · simp only [Value.slice.injEq] at e
      obtain ⟨rfl, -, rfl⟩ := e
      have hgl := lt_of_block hgg
      have hne : gg ≠ D := by rintro rfl; rw [hK] at hgg; cases hgg
      refine .inr ⟨gg, rfl, by omega, by show gg < (W1.drew.putObj D _).heap.size; simp; rw [hz]; exact hgl, fun j v hv => ?_⟩
      have hc := hrow.cells (g := gg) rfl j v hv
      rw [Addr.add_lit, Nat.zero_add] at hc
      exact (World.cell?_of_block (w := W) (a := ⟨gg, j, none⟩) ((kp gg hne).trans (kk gg (.inl hg)))).trans hc

set_option maxHeartbeats 2000000 in
theorem route_ok {w : World} {b : Nat} {G : Caps} (h : GraphAt w b G) (hG : GB G) (f t : Nat) (hf : f < 256) (ht : t < 256) (want : Int) (hw : 1 ≤ want) (hw2 : want ≤ 9223372036854775807) :
    Calls Try.prog 42 #[.pointer (some ⟨b, 0, none⟩), .int .u8 f, .int .u8 t, .int .i64 want] w (RoutePost w f t want G) := by
  have hb := h.lt
  refine (callsIn_wide (n := 3)).1 ?_
  refine callsIn_of_wp_marks Try.func42 rfl trivial ?_ rfl
  simp only [Try.ntmps42, List.size_toArray, List.length_cons, List.length_nil, Nat.reduceAdd, Nat.reduceSub, Array.replicate_succ, Array.replicate_zero, List.push_toArray, List.append_toArray, List.nil_append, List.cons_append]
  gi_wp2
  refine ⟨trivial, callsIn_wide.2 ((gcopy (h.below (by repeat (first | with_reducible exact Below.refl _ _ | with_reducible assumption | refine Below.drew ?_ | refine Below.setCell ?_ (by first | exact Nat.le_refl _ | omega | (simp; done) | (simp; omega)) _ | refine Below.alloc ?_ (by first | exact Nat.le_refl _ | omega | (simp; done) | (simp; omega)) _ | refine Below.tr ?_ (Nat.le_refl _) (by assumption) | exact Below.refl _ _ | assumption)))).mono ?_)⟩
  rintro e w1 ⟨rfl, hb1, hg1, hz1⟩
  simp only [World.size_alloc] at hg1 hb1 hz1
  have hM := rmem_init (f := f) (t := t) hb1 hg1 hz1
  have hz2 : w.heap.size < w1.heap.size := by omega
  have e0 := rcell0 hb1
  have d0 := cell_one e0
  have df0 := free_one e0 0
  clear e0
  have HZ := Lib.hid hz1; clear hz1
  have HM := Lib.hid hM; clear hM
  gi_wp2
  refine ⟨trivial, callsIn_wide.2 ((ways_make _ _ _ _).mono ?_)⟩
  rintro e w2 ⟨rfl, rfl⟩
  gi_wp2
  rw [HZ.out]
  refine wpIn_ways (fun s : FS => s.g) (fun s => phi s.g t) (RInv w f t want ⟨G, 0, []⟩) (REnd w f t want ⟨G, 0, []⟩) 0 3 (w.heap.size + 5) (w.heap.size + 6) (w.heap.size + 7) (w.heap.size + 4) f t hf ht rfl rfl
    (fun s W hI => hI.mem.ways) (fun s W W' hI hB => ⟨hI.mem.below hB, hI.got, hI.gb, hI.many, hI.reach⟩)
    (fun s W l o' hI hl ho => ⟨hI.mem.put o' (by simp [HZ.out] at hl; omega) ho, hI.got, hI.gb, hI.many, hI.reach⟩)
    (fun W l o' hI hl ho => by obtain ⟨s, hm, h2⟩ := hI.ex; exact ⟨s, hm.put o' (by simp [HZ.out] at hl; omega) ho, h2⟩)
    ⟨G, 0, []⟩ ⟨HM.out, by simp; omega, hG, by have := phi_le G t; simp; omega, Reach.refl _ _ _ _⟩
    (fun v => { tmps := #[.pointer (some ⟨b, 0, none⟩), .int .u8 f, .int .u8 t, .int .i64 want, .pointer (some ⟨w.heap.size, 0, none⟩), undef, undef, .pointer (some ⟨w.heap.size + 1, 0, none⟩), .pointer (some ⟨w.heap.size + 1 + 1, 0, none⟩), .pointer (some ⟨w.heap.size + 1 + 1 + 1, 0, none⟩), v, undef, undef, .int .i64 want, .bool (decide (want ≤ 0)), .pointer (some ⟨b, 0, none⟩), .pointer (some ⟨w.heap.size + 1 + 1 + 1 + 1, 0, none⟩), .pointer (some ⟨w.heap.size + 1 + 1 + 1 + 1, 0, none⟩), .int .u8 f, .int .u8 t, .func (.func 76) #[] #[.pointer (some ⟨w.heap.size + 5, 0, none⟩), .pointer (some ⟨w.heap.size + 6, 0, none⟩), .pointer (some ⟨w.heap.size + 7, 0, none⟩)], v, undef, undef, undef, undef, undef, undef, undef, undef, undef, undef, undef, undef, undef, undef, undef, undef, undef, undef, undef, undef, undef, undef, undef, undef, undef, undef, undef, undef, undef, undef, undef, undef, undef, undef, undef, undef, undef, undef, undef, undef, undef, undef, undef, undef, undef, undef, undef, undef], defers := [] }) ?assign ?body ?done ?stop
  case assign =>
    intro l v W K hK
    gi_wp2
    exact hK
  case body =>
    rintro r s k c W hI hne hway hyoung
    obtain ⟨hwayS, hf16, ht16, hft, hd17, hsh⟩ := short_isWay hne
    obtain ⟨l, hl⟩ : ∃ l, short s.g f t = l := ⟨_, rfl⟩
    rw [hl] at hway hwayS
    have Hl : Aside (short s.g f t = l) := hl
    have c0 := cell_one hI.mem.c0
    have c1 := cell_one hI.mem.c1
    have c3 : W.cell? ⟨w.heap.size + 1 + 1 + 1, 0, none⟩ = some (.int .i64 s.got) := cell_one hI.mem.c3
    have hg1 := hI.got
    have hlen := hwayS.len
    have hlen2 := hwayS.len2
    have hls := (least_any hI.mem.gr hway (c := c) (by omega) (by omega) (fun p hp => (hwayS.near p hp).2) (want - s.got))
    obtain ⟨m, hm⟩ : ∃ m, l.length = m + 1 := ⟨l.length - 1, by omega⟩
    obtain ⟨n, hn⟩ : ∃ n, leastTo s.g l (want - s.got) m = n := ⟨_, rfl⟩
    have hm1 : l.length - 1 = m := by omega
    rw [hm1, hn, hm] at hls
    show Code.wpIn _ _ _ _ _ _ _
    rw [hl, hm]
    have Hm : Aside (l.length = m + 1) := hm
    have Hn : Aside (leastTo s.g l (want - s.got) (l.length - 1) = n) := (show _ = _ by rw [hm1, hn])
    have hm2 : 1 ≤ m ∧ m ≤ 15 := by omega
    have HW := Lib.hid hwayS; have Hway := Lib.hid hway; have HI := Lib.hid hI; have HY := Lib.hid hyoung; have HLS := Lib.hid hls
    clear hl hm hn hm1 hwayS hway hI hyoung hls hne hsh hd17 hlen hlen2
    gi_wp2
    refine ⟨trivial, Calls.round (HLS.out.mono ?_)⟩
    rintro e W2 ⟨rfl, hB2⟩
    gi_wp2
    have hM0 := HI.out.mem.below hB2
    have hy0 : Aside (w.heap.size + 8 ≤ k ∧ ∀ v, W2.cell? ⟨w.heap.size + 2, 0, none⟩ = some v → v.ownBlock ≠ some k) := young_row HY.out hM0 hB2
    have hway2 : Aside (WayAt W2 k l) := ⟨Nat.lt_of_lt_of_le Hway.out.1 hB2.size, fun j p hp => (hB2.cell (p := ⟨k, j, none⟩) Hway.out.1).trans (Hway.out.2 j p hp)⟩
    have hko : Aside (KeepsOthers W W2) := KeepsOthers.chg (S := []) (Chg.of_below hB2) (by simp)
    have hM1 : Aside (RMem w f t want (pushTo s.g l n 0) s.got (s.ps ++ flowsTo l n 0) W2) := (show RMem _ _ _ _ _ _ _ _ by simpa [pushTo, flowsTo] using hM0)
    clear hM0 c0 c1 c3
    gi_loopg [12, 31] m (fun gg s12 s31 wr => ∃ i : Nat, i ≤ m ∧ m - i ≤ gg ∧ s31 = .int .i64 i ∧ Aside (RMem w f t want (pushTo s.g l n i) s.got (s.ps ++ flowsTo l n i) wr) ∧ Aside (WayAt wr k l) ∧ Aside (KeepsOthers W wr) ∧ Aside (w.heap.size + 8 ≤ k ∧ ∀ v, wr.cell? ⟨w.heap.size + 2, 0, none⟩ = some v → v.ownBlock ≠ some k))
    case atStart => exact ⟨0, by omega, by omega, rfl, hM1, hway2, hko, hy0⟩
    case round =>
      clear hM1 hway2 hko hy0
      obtain ⟨i, hi, hgg, rfl, RM, RW, RK, RY⟩ := hrel
      by_cases hlt : i < m
      · have hltz : (i : Int) < (m : Int) := by omega
        have hltz2 : (i : Int) < (m : Int) + 1 := by omega
        have hltz3 : (i : Int) + 1 < (m : Int) + 1 := by omega
        obtain ⟨x, hx⟩ : ∃ x, l.getD i 0 = x := ⟨_, rfl⟩
        obtain ⟨y, hy⟩ : ∃ y, l.getD (i + 1) 0 = y := ⟨_, rfl⟩
        have hxi : l[i]? = some x := by
          have := Hm.out
          rw [← hx, List.getD_eq_getElem?_getD, List.getElem?_eq_getElem (by omega)]; rfl
        have hyi : l[i + 1]? = some y := by
          have := Hm.out
          rw [← hy, List.getD_eq_getElem?_getD, List.getElem?_eq_getElem (by omega)]; rfl
        have hx16 := HW.out.near x (List.mem_of_getElem? hxi)
        have hy16 := HW.out.near y (List.mem_of_getElem? hyi)
        have hcx : wr.cell? ⟨k, i, none⟩ = some (.int .u8 x) := RW.out.2 i x hxi
        have hcy : wr.cell? ⟨k, i + 1, none⟩ = some (.int .u8 y) := RW.out.2 (i + 1) y hyi
        have hkl := RW.out.1
        have c0 := cell_one RM.out.c0
        have hsz := RM.out.size
        have hsz0 : w.heap.size < wr.heap.size := by omega
        have Hx := Lib.hid hx; have Hy := Lib.hid hy; have Hxi := Lib.hid hxi; have Hyi := Lib.hid hyi
        clear hx hy hxi hyi
        gi_wp2
        refine wpIn_region_round_tail 11 (by kernel_rfl) (by kernel_rfl) (by kernel_rfl) (by kernel_rfl) ?_
        simp only [List.take_succ_cons, List.take_zero, List.drop_succ_cons, List.drop_zero]
        (repeat (go_big_quiet_step (fail)))
        refine wpQuiet_nil ?_
        rintro _ ⟨W3, rfl⟩
        have hM3 := RM.out.below W3.b
        have hGB := pushTo_GB HI.out.gb l n i
        have hpu := gpush_any hM3.gr x y n (by omega) (by omega) (by have := hGB x y; have := hGB y x; omega) ⟨(hGB y x).1, by have := hGB x y; have := hGB y x; omega⟩
        have hWb := W3.b
        have HPU := Lib.hid hpu; clear hpu
        go_wp2_with (go_at_call 64; refine HPU.out.mono ?_; clear HPU; rintro e w4 ⟨rfl, hC4, hG4⟩)
        refine ⟨by simp, ?_⟩
        have hk4 : k ≠ w.heap.size + 4 := by have := RY.out.1; omega
        have hM4 : RMem w f t want (pushTo s.g l n (i + 1)) s.got (s.ps ++ flowsTo l n i) w4 := by
          have := hM3.graph hC4 hG4
          show RMem w f t want (gpush (pushTo s.g l n i) (l.getD i 0) (l.getD (i + 1) 0) n).2 _ _ _
          rw [Hx.out, Hy.out]; exact this
        have hW4 : WayAt w4 k l := by
          have hk3 : k < W3.w.heap.size := Nat.lt_of_lt_of_le hkl W3.b.size
          exact ⟨Nat.lt_of_lt_of_le hk3 hC4.size, fun j p hp => (hC4.cell hk3 (by simpa using hk4)).trans ((W3.b.cell (p := ⟨k, j, none⟩) hkl).trans (RW.out.2 j p hp))⟩
        have hK4 : KeepsOthers W w4 := RK.out.trans ((KeepsOthers.chg (S := []) (Chg.of_below W3.b) (by simp)).trans (KeepsOthers.chg hC4 (fun z hz => by (obtain rfl : z = w.heap.size + 4 := (by simpa using hz)); exact ⟨_, hM3.gr, rfl⟩)))
        have hY4 : ∀ v, w4.cell? ⟨w.heap.size + 2, 0, none⟩ = some v → v.ownBlock ≠ some k := fun v hv => by
          have hs3 : w.heap.size + 2 < W3.w.heap.size := by have := W3.b.size; omega
          refine RY.out.2 v ?_
          rw [← hv, hC4.cell hs3 (by simp)]
          exact (W3.b.cell (p := ⟨w.heap.size + 2, 0, none⟩) (by show w.heap.size + 2 < _; omega)).symm
        obtain ⟨L0, hL0⟩ : ∃ L0, s.ps ++ flowsTo l n i = L0 := ⟨_, rfl⟩
        have hlenL : (s.ps ++ flowsTo l n i).length ≤ 1400000 := by
          have := HI.out.many
          simp [flowsTo_len]; omega
        have hL1 : s.ps ++ flowsTo l n (i + 1) = L0 ++ ([⟨x, y, n⟩] : List Flow) := by rw [flowsTo_succ, ← List.append_assoc, hL0, Hx.out, Hy.out]
        rw [hL0] at hM4 hlenL
        obtain ⟨ad2, cc2, h2, hrow⟩ := hM4.c2
        obtain ⟨N0, hN0⟩ : ∃ N0, L0.length = N0 := ⟨_, rfl⟩
        rw [hN0] at h2 hrow hlenL
        obtain ⟨i0, hi0, iz0, iz1, iz2⟩ := info_parts infoFlow
        have hs4 := hM4.size
        have c8 : w4.cell? ⟨w.heap.size + 1 + 1, 0, none⟩ = some (.slice ad2 N0 cc2) := cell_one h2
        have hcx4 := hW4.2 i x Hxi.out
        have hcy4 := hW4.2 (i + 1) y Hyi.out
        have hk4l := hW4.1
        have hs8 : w.heap.size + 1 + 1 < w4.heap.size := by omega
        have hs9 : w.heap.size + 1 + 1 < w4.heap.size + 1 := by omega
        have hk9 : k < w4.heap.size + 1 := by omega
        have hne8 : (Value.slice ad2 N0 cc2).ownBlock ≠ some (w.heap.size + 2) := fun e => by have := (hrow.lt _ e).1; omega
        have kcell : ∀ (g2 cap2 : Nat) (w5 : World), w5.ownsRow (w.heap.size + 8) 104 3 (.slice (some ⟨g2, 0, none⟩) (N0 + 1) cap2) (N0 + 1) (L0.flatMap Flow.enc ++ [.int .u8 x, .int .u8 y, .int .i64 n]) → (w4.drew.alloc (.cells #[.int .u8 x, .int .u8 y, .int .i64 n] 104)).grownBy w5 (Value.slice ad2 N0 cc2).ownBlock → ((Value.slice ad2 N0 cc2).ownBlock = some g2 ∨ g2 = (w4.drew.alloc (.cells #[.int .u8 x, .int .u8 y, .int .i64 n] 104)).heap.size) → g2 < w5.heap.size → w5.cell? ⟨w.heap.size + 1 + 1, 0, none⟩ = some (.slice ad2 N0 cc2) := fun g2 cap2 w5 _ hgrow _ _ =>
          (hgrow.cell_far ⟨w.heap.size + 2, 0, none⟩ (by show w.heap.size + 2 < _; simp; omega) (fun e => hne8 e.symm)).trans (Lib.cell?_alloc_some _ c8)
        have kfree : ∀ (g2 cap2 : Nat) (w5 : World), w5.ownsRow (w.heap.size + 8) 104 3 (.slice (some ⟨g2, 0, none⟩) (N0 + 1) cap2) (N0 + 1) (L0.flatMap Flow.enc ++ [.int .u8 x, .int .u8 y, .int .i64 n]) → (w4.drew.alloc (.cells #[.int .u8 x, .int .u8 y, .int .i64 n] 104)).grownBy w5 (Value.slice ad2 N0 cc2).ownBlock → ((Value.slice ad2 N0 cc2).ownBlock = some g2 ∨ g2 = (w4.drew.alloc (.cells #[.int .u8 x, .int .u8 y, .int .i64 n] 104)).heap.size) → g2 < w5.heap.size → w5.frozen? ⟨w.heap.size + 1 + 1, 0, none⟩ = false := fun g2 cap2 w5 _ hgrow _ _ => by
          refine (hgrow.frozen_far ⟨w.heap.size + 2, 0, none⟩ (by show w.heap.size + 2 < _; simp; omega) (fun e => hne8 e.symm)).trans ?_
          exact free_one ((Below.heap_alloc w4.drew _ _ (by show w.heap.size + 2 < w4.heap.size; omega)).trans h2) 0
        have fin : ∀ (g2 cap2 : Nat) (w5 : World), w5.ownsRow (w.heap.size + 8) 104 3 (.slice (some ⟨g2, 0, none⟩) (N0 + 1) cap2) (N0 + 1) (L0.flatMap Flow.enc ++ [.int .u8 x, .int .u8 y, .int .i64 n]) → (w4.drew.alloc (.cells #[.int .u8 x, .int .u8 y, .int .i64 n] 104)).grownBy w5 (Value.slice ad2 N0 cc2).ownBlock → ((Value.slice ad2 N0 cc2).ownBlock = some g2 ∨ g2 = (w4.drew.alloc (.cells #[.int .u8 x, .int .u8 y, .int .i64 n] 104)).heap.size) → g2 < w5.heap.size →
            ∃ i' : Nat, i' ≤ m ∧ m - i' ≤ m - (i + 1) ∧ Value.int .i64 ((i : Int) + 1) = .int .i64 (i' : Int) ∧ Aside (RMem w f t want (pushTo s.g l n i') s.got (s.ps ++ flowsTo l n i') (w5.setCell ⟨w.heap.size + 2, 0, none⟩ (.slice (some ⟨g2, 0, none⟩) (N0 + 1) cap2))) ∧ Aside (WayAt (w5.setCell ⟨w.heap.size + 2, 0, none⟩ (.slice (some ⟨g2, 0, none⟩) (N0 + 1) cap2)) k l) ∧ Aside (KeepsOthers W (w5.setCell ⟨w.heap.size + 2, 0, none⟩ (.slice (some ⟨g2, 0, none⟩) (N0 + 1) cap2))) ∧ Aside (w.heap.size + 8 ≤ k ∧ ∀ v, (w5.setCell ⟨w.heap.size + 2, 0, none⟩ (.slice (some ⟨g2, 0, none⟩) (N0 + 1) cap2)).cell? ⟨w.heap.size + 2, 0, none⟩ = some v → v.ownBlock ≠ some k) := fun g2 cap2 w5 hown hgrow hwh hlt5 => by
          have hkn : (Value.slice ad2 N0 cc2).ownBlock ≠ some k := hY4 _ (cell_one h2)
          refine ⟨i + 1, by omega, by omega, by go_num, ?_, ?_, ?_, ?_⟩
          · have hb5 : Below (w.heap.size + 8) w4 w5 := by
              have h0 : Below (w.heap.size + 8) w4 (w4.drew.alloc (.cells #[.int .u8 x, .int .u8 y, .int .i64 n] 104)) := ((Below.refl _ w4).drew).alloc (by show _ ≤ w4.heap.size; omega) _
              exact h0.grown hgrow (by show w.heap.size + 8 ≤ (w4.drew.alloc _).heap.size; simp; omega) (fun z e => (hrow.lt z e).1)
            show RMem _ _ _ _ _ _ _ _
            rw [hL1]
            have hr5 : w5.ownsRow (w.heap.size + 8) 104 3 (.slice (some ⟨g2, 0, none⟩) (L0 ++ ([⟨x, y, n⟩] : List Flow)).length cap2) (L0 ++ ([⟨x, y, n⟩] : List Flow)).length ((L0 ++ ([⟨x, y, n⟩] : List Flow)).flatMap Flow.enc) := by
              rw [List.length_append, hN0, List.flatMap_append]
              simpa [Flow.enc] using hown
            have := hM4.setPs hb5 hr5
            rw [List.length_append, hN0] at this
            exact this
          · refine ⟨by have := hgrow.size; simp at this ⊢; omega, fun j p hp => ?_⟩
            rw [show (w5.setCell ⟨w.heap.size + 2, 0, none⟩ (.slice (some ⟨g2, 0, none⟩) (N0 + 1) cap2)).cell? ⟨k, j, none⟩ = w5.cell? ⟨k, j, none⟩ from World.cell?_of_block (w := w5) (a := ⟨k, j, none⟩) (Below.heap_setCell _ _ _ _ (by have := RY.out.1; show k ≠ w.heap.size + 2; omega))]
            exact (hgrow.cell_far ⟨k, j, none⟩ (by show k < _; simp; omega) (fun e => hkn e.symm)).trans (Lib.cell?_alloc_some _ (hW4.2 j p hp))
          · refine hK4.trans ((KeepsOthers.chg (S := []) (Chg.of_below (((Below.refl _ w4).drew).alloc (o := .cells #[.int .u8 x, .int .u8 y, .int .i64 n] 104) (Nat.le_refl _) )) (by simp)).trans ((KeepsOthers.of_grownBy hgrow (fun z o e ho => ?_)).trans (KeepsOthers.setCell _ _ _)))
            rcases hrow.2 with ⟨e0, _⟩ | ⟨gg, cap, cur, e0, _, hgg, _⟩
            · rw [e0] at e; cases e
            · rw [e0] at e
              cases e
              have hgl := lt_of_block hgg
              rw [Below.heap_alloc w4.drew _ _ (by show gg < w4.heap.size; exact hgl)] at ho
              have ho' : w4.heap[gg]? = some o := ho
              rw [hgg] at ho'; cases ho'; rfl
          · refine ⟨RY.out.1, fun v hv => ?_⟩
            have h5 : w5.heap[w.heap.size + 2]? = some (.cells #[.slice ad2 N0 cc2] 100 (0, 0)) := (hgrow.block _ (by simp; omega) (fun e => hne8 e.symm)).trans ((Below.heap_alloc w4.drew _ _ (by show w.heap.size + 2 < w4.heap.size; omega)).trans h2)
            rw [cell_one (set_one h5 _)] at hv
            cases hv
            intro e
            simp only [Value.ownBlock, Option.some.injEq] at e
            rcases hwh with h6 | h6
            · exact hkn (by rw [h6, e])
            · simp at h6; omega
        have Hrow := Lib.hid hrow; have HL1 := Lib.hid hL1
        clear hrow hL1 hL0 hN0 hM4 hW4 hK4 hY4 hM3 hG4 hC4 h2 hcx hcy c0
        have HOC : Hid (∀ u ∈ [Value.int .u8 x, .int .u8 y, .int .i64 n], u.oneCell' = true) := by simp [Hid, Value.oneCell']
        have HML : Hid (N0 + 1 ≤ maxLen) := by show N0 + 1 ≤ maxLen; simp only [maxLen]; omega
        have HBY : Hid ((N0 + 1) * 16 ≤ 140737488355328) := by show _ ≤ _; omega
        have HBS : Hid (w.heap.size + 8 ≤ (w4.drew.alloc (.cells #[.int .u8 x, .int .u8 y, .int .i64 n] 104)).heap.size) := by show _ ≤ _; simp; omega
        gi_wp2
        have hwr : IntKind.i64.wrap ((i : Int) + 1) = (i : Int) + 1 := IntWalk.i64_in _ (by omega)
        have h01 : (0 : Int) ≤ (i : Int) + 1 := by omega
        have htn : ((i : Int) + 1).toNat = i + 1 := by omega
        refine wpIn_region_round_any (by kernel_rfl) (by kernel_rfl) (fun KK hKK => ?_)
        refine wpAny_take (i := 1) (v := ?v1) rfl (by kernel_rfl) (by kernel_rfl) (by kernel_rfl) (fun _ _ _ h => by cases h.1) (Or.inl ⟨by rfl, ?y1⟩) ?r1
        case y1 => (intro w0; go_simp; try with_reducible rfl)
        refine wpAny_take (i := 2) (v := ?v2) rfl (by kernel_rfl) (by kernel_rfl) (by kernel_rfl) (fun _ _ _ h => by cases h.1) (Or.inl ⟨by rfl, ?y2⟩) ?r2
        case y2 => (intro w0; go_simp; try with_reducible rfl)
        refine wpAny_take (i := 3) (v := ?v3) rfl (by kernel_rfl) (by kernel_rfl) (by kernel_rfl) (fun _ _ _ h => by cases h.1) (Or.inl ⟨by rfl, ?y3⟩) ?r3
        case y3 => (intro w0; go_simp; try with_reducible rfl)
        refine wpAny_take (i := 5) (v := ?v4) rfl (by kernel_rfl) (by kernel_rfl) (by kernel_rfl) (fun _ _ _ h => by cases h.1) (Or.inl ⟨by rfl, ?y4⟩) ?r4
        case y4 => (intro w0; go_simp; try with_reducible rfl)
        refine wpAny_take (i := 6) (v := ?v5) rfl (by kernel_rfl) (by kernel_rfl) (by kernel_rfl) (fun _ _ _ h => by cases h.1) (Or.inl ⟨by rfl, ?y5⟩) ?r5
        case y5 => (intro w0; go_simp; try with_reducible rfl)
        refine wpAny_take (i := 7) (v := ?v6) rfl (by kernel_rfl) (by kernel_rfl) (by kernel_rfl) (fun _ _ _ h => by cases h.1) (Or.inl ⟨by rfl, ?y6⟩) ?r6
        case y6 => (intro w0; go_simp; try with_reducible rfl)
        refine wpAny_take (i := 8) (v := ?v7) rfl (by kernel_rfl) (by kernel_rfl) (by kernel_rfl) (fun _ _ _ h => by cases h.1) (Or.inl ⟨by rfl, ?y7⟩) ?r7
        case y7 => (intro w0; go_simp; try with_reducible rfl)
        refine wpAny_take (i := 10) (v := ?v8) rfl (by kernel_rfl) (by kernel_rfl) (by kernel_rfl) (fun _ _ _ h => by cases h.1) (Or.inl ⟨by rfl, ?y8⟩) ?r8
        case y8 => (intro w0; go_simp; try with_reducible rfl)
        refine wpAny_ready (rs := [0, 4, 9]) (by kernel_rfl) (by simp) ?_
        refine AllReady.cons rfl (fun K1 hK1 => ?_) ?_
        · go_simp
          refine hK1 _ _ ?_; clear hK1 K1
          refine wpAny_ready (rs := [4, 9]) (by kernel_rfl) (by simp) ?_
          refine AllReady.cons rfl (fun K1 hK1 => ?_) ?_
          · go_simp
            refine hK1 _ _ ?_; clear hK1 K1
            refine wpAny_ready (rs := [9]) (by kernel_rfl) (by simp) ?_
            refine AllReady.cons rfl (fun K1 hK1 => ?_) ?_
            · go_simp
              refine hK1 _ _ ?_; clear hK1 K1
              refine wpAny_take (i := 11) (v := ?v9) rfl (by kernel_rfl) (by kernel_rfl) (by kernel_rfl) (fun _ _ _ h => by cases h.1) (Or.inl ⟨by rfl, ?y9⟩) ?r9
              case y9 => (intro w0; go_simp; try with_reducible rfl)
              refine wpAny_ready (rs := [12]) (by kernel_rfl) (by simp) ?_
              refine AllReady.cons rfl (fun K1 hK1 => ?_) ?_
              · go_simp
                refine hK1 _ _ ?_; clear hK1 K1
                refine wpAny_ready (rs := [13]) (by kernel_rfl) (by simp) ?_
                refine AllReady.cons rfl (fun K1 hK1 => ?_) ?_
                · refine step_append_lies _ rfl (.tmp 46) (.tmp 58) 100 rfl (w.heap.size + 8) 104 i0 _ 3 16 Try.underlying100 hi0 iz0 iz1 iz2 rfl (by decide) (.slice ad2 N0 cc2) N0 (L0.flatMap Flow.enc) rfl (World.ownsRow.alloc (w := w4.drew) Hrow.out _) ⟨w4.heap.size, 0, none⟩ 1 1 [.int .u8 x, .int .u8 y, .int .i64 n] rfl rfl (World.news_of_block (alloc_new w4.drew _)) HOC.out (by decide) HML.out HBY.out HBS.out _ rfl ?_
                  intro g2 cap2 w5 hown hgrow hwh hlt5
                  have k8 := kcell g2 cap2 w5 hown hgrow hwh hlt5
                  have k8f := kfree g2 cap2 w5 hown hgrow hwh hlt5
                  try go_simp
                  refine hK1 _ _ ?_; clear hK1 K1
                  refine wpAny_ready (rs := [14]) (by kernel_rfl) (by simp) ?_
                  refine AllReady.cons rfl (fun K1 hK1 => ?_) ?_
                  · go_simp
                    refine hK1 _ _ ?_; clear hK1 K1
                    refine wpAny_done (by kernel_rfl) ?_ _
                    refine ⟨rfl, hKK _ _ ?_⟩
                    clear hKK hwr h01 htn
                    gi_wp2
                    go_roundg (m - (i + 1))
                    case measure => omega
                    case rel => exact fin g2 cap2 w5 hown hgrow hwh hlt5
                  exact AllReady.nil
                exact AllReady.nil
              exact AllReady.nil
            exact AllReady.nil
          refine AllReady.cons rfl (fun K1 hK1 => ?_) ?_
          · go_simp
            refine hK1 _ _ ?_; clear hK1 K1
            refine wpAny_ready (rs := [4]) (by kernel_rfl) (by simp) ?_
            refine AllReady.cons rfl (fun K1 hK1 => ?_) ?_
            · go_simp
              refine hK1 _ _ ?_; clear hK1 K1
              refine wpAny_take (i := 11) (v := ?v10) rfl (by kernel_rfl) (by kernel_rfl) (by kernel_rfl) (fun _ _ _ h => by cases h.1) (Or.inl ⟨by rfl, ?y10⟩) ?r10
              case y10 => (intro w0; go_simp; try with_reducible rfl)
              refine wpAny_ready (rs := [12]) (by kernel_rfl) (by simp) ?_
              refine AllReady.cons rfl (fun K1 hK1 => ?_) ?_
              · go_simp
                refine hK1 _ _ ?_; clear hK1 K1
                refine wpAny_ready (rs := [13]) (by kernel_rfl) (by simp) ?_
                refine AllReady.cons rfl (fun K1 hK1 => ?_) ?_
                · refine step_append_lies _ rfl (.tmp 46) (.tmp 58) 100 rfl (w.heap.size + 8) 104 i0 _ 3 16 Try.underlying100 hi0 iz0 iz1 iz2 rfl (by decide) (.slice ad2 N0 cc2) N0 (L0.flatMap Flow.enc) rfl (World.ownsRow.alloc (w := w4.drew) Hrow.out _) ⟨w4.heap.size, 0, none⟩ 1 1 [.int .u8 x, .int .u8 y, .int .i64 n] rfl rfl (World.news_of_block (alloc_new w4.drew _)) HOC.out (by decide) HML.out HBY.out HBS.out _ rfl ?_
                  intro g2 cap2 w5 hown hgrow hwh hlt5
                  have k8 := kcell g2 cap2 w5 hown hgrow hwh hlt5
                  have k8f := kfree g2 cap2 w5 hown hgrow hwh hlt5
                  try go_simp
                  refine hK1 _ _ ?_; clear hK1 K1
                  refine wpAny_ready (rs := [14]) (by kernel_rfl) (by simp) ?_
                  refine AllReady.cons rfl (fun K1 hK1 => ?_) ?_
                  · go_simp
                    refine hK1 _ _ ?_; clear hK1 K1
                    refine wpAny_done (by kernel_rfl) ?_ _
                    refine ⟨rfl, hKK _ _ ?_⟩
                    clear hKK hwr h01 htn
                    gi_wp2
                    go_roundg (m - (i + 1))
                    case measure => omega
                    case rel => exact fin g2 cap2 w5 hown hgrow hwh hlt5
                  exact AllReady.nil
                exact AllReady.nil
              exact AllReady.nil
            exact AllReady.nil
          exact AllReady.nil
        refine AllReady.cons rfl (fun K1 hK1 => ?_) ?_
        · go_simp
          refine hK1 _ _ ?_; clear hK1 K1
          refine wpAny_ready (rs := [0, 9]) (by kernel_rfl) (by simp) ?_
          refine AllReady.cons rfl (fun K1 hK1 => ?_) ?_
          · go_simp
            refine hK1 _ _ ?_; clear hK1 K1
            refine wpAny_ready (rs := [9]) (by kernel_rfl) (by simp) ?_
            refine AllReady.cons rfl (fun K1 hK1 => ?_) ?_
            · go_simp
              refine hK1 _ _ ?_; clear hK1 K1
              refine wpAny_take (i := 11) (v := ?v11) rfl (by kernel_rfl) (by kernel_rfl) (by kernel_rfl) (fun _ _ _ h => by cases h.1) (Or.inl ⟨by rfl, ?y11⟩) ?r11
              case y11 => (intro w0; go_simp; try with_reducible rfl)
              refine wpAny_ready (rs := [12]) (by kernel_rfl) (by simp) ?_
              refine AllReady.cons rfl (fun K1 hK1 => ?_) ?_
              · go_simp
                refine hK1 _ _ ?_; clear hK1 K1
                refine wpAny_ready (rs := [13]) (by kernel_rfl) (by simp) ?_
                refine AllReady.cons rfl (fun K1 hK1 => ?_) ?_
                · refine step_append_lies _ rfl (.tmp 46) (.tmp 58) 100 rfl (w.heap.size + 8) 104 i0 _ 3 16 Try.underlying100 hi0 iz0 iz1 iz2 rfl (by decide) (.slice ad2 N0 cc2) N0 (L0.flatMap Flow.enc) rfl (World.ownsRow.alloc (w := w4.drew) Hrow.out _) ⟨w4.heap.size, 0, none⟩ 1 1 [.int .u8 x, .int .u8 y, .int .i64 n] rfl rfl (World.news_of_block (alloc_new w4.drew _)) HOC.out (by decide) HML.out HBY.out HBS.out _ rfl ?_
                  intro g2 cap2 w5 hown hgrow hwh hlt5
                  have k8 := kcell g2 cap2 w5 hown hgrow hwh hlt5
                  have k8f := kfree g2 cap2 w5 hown hgrow hwh hlt5
                  try go_simp
                  refine hK1 _ _ ?_; clear hK1 K1
                  refine wpAny_ready (rs := [14]) (by kernel_rfl) (by simp) ?_
                  refine AllReady.cons rfl (fun K1 hK1 => ?_) ?_
                  · go_simp
                    refine hK1 _ _ ?_; clear hK1 K1
                    refine wpAny_done (by kernel_rfl) ?_ _
                    refine ⟨rfl, hKK _ _ ?_⟩
                    clear hKK hwr h01 htn
                    gi_wp2
                    go_roundg (m - (i + 1))
                    case measure => omega
                    case rel => exact fin g2 cap2 w5 hown hgrow hwh hlt5
                  exact AllReady.nil
                exact AllReady.nil
              exact AllReady.nil
            exact AllReady.nil
          refine AllReady.cons rfl (fun K1 hK1 => ?_) ?_
          · go_simp
            refine hK1 _ _ ?_; clear hK1 K1
            refine wpAny_take (i := 11) (v := ?v12) rfl (by kernel_rfl) (by kernel_rfl) (by kernel_rfl) (fun _ _ _ h => by cases h.1) (Or.inl ⟨by rfl, ?y12⟩) ?r12
            case y12 => (intro w0; go_simp; try with_reducible rfl)
            refine wpAny_ready (rs := [0, 12]) (by kernel_rfl) (by simp) ?_
            refine AllReady.cons rfl (fun K1 hK1 => ?_) ?_
            · go_simp
              refine hK1 _ _ ?_; clear hK1 K1
              refine wpAny_ready (rs := [12]) (by kernel_rfl) (by simp) ?_
              refine AllReady.cons rfl (fun K1 hK1 => ?_) ?_
              · go_simp
                refine hK1 _ _ ?_; clear hK1 K1
                refine wpAny_ready (rs := [13]) (by kernel_rfl) (by simp) ?_
                refine AllReady.cons rfl (fun K1 hK1 => ?_) ?_
                · refine step_append_lies _ rfl (.tmp 46) (.tmp 58) 100 rfl (w.heap.size + 8) 104 i0 _ 3 16 Try.underlying100 hi0 iz0 iz1 iz2 rfl (by decide) (.slice ad2 N0 cc2) N0 (L0.flatMap Flow.enc) rfl (World.ownsRow.alloc (w := w4.drew) Hrow.out _) ⟨w4.heap.size, 0, none⟩ 1 1 [.int .u8 x, .int .u8 y, .int .i64 n] rfl rfl (World.news_of_block (alloc_new w4.drew _)) HOC.out (by decide) HML.out HBY.out HBS.out _ rfl ?_
                  intro g2 cap2 w5 hown hgrow hwh hlt5
                  have k8 := kcell g2 cap2 w5 hown hgrow hwh hlt5
                  have k8f := kfree g2 cap2 w5 hown hgrow hwh hlt5
                  try go_simp
                  refine hK1 _ _ ?_; clear hK1 K1
                  refine wpAny_ready (rs := [14]) (by kernel_rfl) (by simp) ?_
                  refine AllReady.cons rfl (fun K1 hK1 => ?_) ?_
                  · go_simp
                    refine hK1 _ _ ?_; clear hK1 K1
                    refine wpAny_done (by kernel_rfl) ?_ _
                    refine ⟨rfl, hKK _ _ ?_⟩
                    clear hKK hwr h01 htn
                    gi_wp2
                    go_roundg (m - (i + 1))
                    case measure => omega
                    case rel => exact fin g2 cap2 w5 hown hgrow hwh hlt5
                  exact AllReady.nil
                exact AllReady.nil
              exact AllReady.nil
            refine AllReady.cons rfl (fun K1 hK1 => ?_) ?_
            · go_simp
              refine hK1 _ _ ?_; clear hK1 K1
              refine wpAny_ready (rs := [0]) (by kernel_rfl) (by simp) ?_
              refine AllReady.cons rfl (fun K1 hK1 => ?_) ?_
              · go_simp
                refine hK1 _ _ ?_; clear hK1 K1
                refine wpAny_ready (rs := [13]) (by kernel_rfl) (by simp) ?_
                refine AllReady.cons rfl (fun K1 hK1 => ?_) ?_
                · refine step_append_lies _ rfl (.tmp 46) (.tmp 58) 100 rfl (w.heap.size + 8) 104 i0 _ 3 16 Try.underlying100 hi0 iz0 iz1 iz2 rfl (by decide) (.slice ad2 N0 cc2) N0 (L0.flatMap Flow.enc) rfl (World.ownsRow.alloc (w := w4.drew) Hrow.out _) ⟨w4.heap.size, 0, none⟩ 1 1 [.int .u8 x, .int .u8 y, .int .i64 n] rfl rfl (World.news_of_block (alloc_new w4.drew _)) HOC.out (by decide) HML.out HBY.out HBS.out _ rfl ?_
                  intro g2 cap2 w5 hown hgrow hwh hlt5
                  have k8 := kcell g2 cap2 w5 hown hgrow hwh hlt5
                  have k8f := kfree g2 cap2 w5 hown hgrow hwh hlt5
                  try go_simp
                  refine hK1 _ _ ?_; clear hK1 K1
                  refine wpAny_ready (rs := [14]) (by kernel_rfl) (by simp) ?_
                  refine AllReady.cons rfl (fun K1 hK1 => ?_) ?_
                  · go_simp
                    refine hK1 _ _ ?_; clear hK1 K1
                    refine wpAny_done (by kernel_rfl) ?_ _
                    refine ⟨rfl, hKK _ _ ?_⟩
                    clear hKK hwr h01 htn
                    gi_wp2
                    go_roundg (m - (i + 1))
                    case measure => omega
                    case rel => exact fin g2 cap2 w5 hown hgrow hwh hlt5
                  exact AllReady.nil
                exact AllReady.nil
              exact AllReady.nil
            exact AllReady.nil
          exact AllReady.nil
        refine AllReady.cons rfl (fun K1 hK1 => ?_) ?_
        · go_simp
          refine hK1 _ _ ?_; clear hK1 K1
          refine wpAny_ready (rs := [0, 4]) (by kernel_rfl) (by simp) ?_
          refine AllReady.cons rfl (fun K1 hK1 => ?_) ?_
          · go_simp
            refine hK1 _ _ ?_; clear hK1 K1
            refine wpAny_ready (rs := [4]) (by kernel_rfl) (by simp) ?_
            refine AllReady.cons rfl (fun K1 hK1 => ?_) ?_
            · go_simp
              refine hK1 _ _ ?_; clear hK1 K1
              refine wpAny_take (i := 11) (v := ?v13) rfl (by kernel_rfl) (by kernel_rfl) (by kernel_rfl) (fun _ _ _ h => by cases h.1) (Or.inl ⟨by rfl, ?y13⟩) ?r13
              case y13 => (intro w0; go_simp; try with_reducible rfl)
              refine wpAny_ready (rs := [12]) (by kernel_rfl) (by simp) ?_
              refine AllReady.cons rfl (fun K1 hK1 => ?_) ?_
              · go_simp
                refine hK1 _ _ ?_; clear hK1 K1
                refine wpAny_ready (rs := [13]) (by kernel_rfl) (by simp) ?_
                refine AllReady.cons rfl (fun K1 hK1 => ?_) ?_
                · refine step_append_lies _ rfl (.tmp 46) (.tmp 58) 100 rfl (w.heap.size + 8) 104 i0 _ 3 16 Try.underlying100 hi0 iz0 iz1 iz2 rfl (by decide) (.slice ad2 N0 cc2) N0 (L0.flatMap Flow.enc) rfl (World.ownsRow.alloc (w := w4.drew) Hrow.out _) ⟨w4.heap.size, 0, none⟩ 1 1 [.int .u8 x, .int .u8 y, .int .i64 n] rfl rfl (World.news_of_block (alloc_new w4.drew _)) HOC.out (by decide) HML.out HBY.out HBS.out _ rfl ?_
                  intro g2 cap2 w5 hown hgrow hwh hlt5
                  have k8 := kcell g2 cap2 w5 hown hgrow hwh hlt5
                  have k8f := kfree g2 cap2 w5 hown hgrow hwh hlt5
                  try go_simp
                  refine hK1 _ _ ?_; clear hK1 K1
                  refine wpAny_ready (rs := [14]) (by kernel_rfl) (by simp) ?_
                  refine AllReady.cons rfl (fun K1 hK1 => ?_) ?_
                  · go_simp
                    refine hK1 _ _ ?_; clear hK1 K1
                    refine wpAny_done (by kernel_rfl) ?_ _
                    refine ⟨rfl, hKK _ _ ?_⟩
                    clear hKK hwr h01 htn
                    gi_wp2
                    go_roundg (m - (i + 1))
                    case measure => omega
                    case rel => exact fin g2 cap2 w5 hown hgrow hwh hlt5
                  exact AllReady.nil
                exact AllReady.nil
              exact AllReady.nil
            exact AllReady.nil
          refine AllReady.cons rfl (fun K1 hK1 => ?_) ?_
          · go_simp
            refine hK1 _ _ ?_; clear hK1 K1
            refine wpAny_take (i := 11) (v := ?v14) rfl (by kernel_rfl) (by kernel_rfl) (by kernel_rfl) (fun _ _ _ h => by cases h.1) (Or.inl ⟨by rfl, ?y14⟩) ?r14
            case y14 => (intro w0; go_simp; try with_reducible rfl)
            refine wpAny_ready (rs := [0, 12]) (by kernel_rfl) (by simp) ?_
            refine AllReady.cons rfl (fun K1 hK1 => ?_) ?_
            · go_simp
              refine hK1 _ _ ?_; clear hK1 K1
              refine wpAny_ready (rs := [12]) (by kernel_rfl) (by simp) ?_
              refine AllReady.cons rfl (fun K1 hK1 => ?_) ?_
              · go_simp
                refine hK1 _ _ ?_; clear hK1 K1
                refine wpAny_ready (rs := [13]) (by kernel_rfl) (by simp) ?_
                refine AllReady.cons rfl (fun K1 hK1 => ?_) ?_
                · refine step_append_lies _ rfl (.tmp 46) (.tmp 58) 100 rfl (w.heap.size + 8) 104 i0 _ 3 16 Try.underlying100 hi0 iz0 iz1 iz2 rfl (by decide) (.slice ad2 N0 cc2) N0 (L0.flatMap Flow.enc) rfl (World.ownsRow.alloc (w := w4.drew) Hrow.out _) ⟨w4.heap.size, 0, none⟩ 1 1 [.int .u8 x, .int .u8 y, .int .i64 n] rfl rfl (World.news_of_block (alloc_new w4.drew _)) HOC.out (by decide) HML.out HBY.out HBS.out _ rfl ?_
                  intro g2 cap2 w5 hown hgrow hwh hlt5
                  have k8 := kcell g2 cap2 w5 hown hgrow hwh hlt5
                  have k8f := kfree g2 cap2 w5 hown hgrow hwh hlt5
                  try go_simp
                  refine hK1 _ _ ?_; clear hK1 K1
                  refine wpAny_ready (rs := [14]) (by kernel_rfl) (by simp) ?_
                  refine AllReady.cons rfl (fun K1 hK1 => ?_) ?_
                  · go_simp
                    refine hK1 _ _ ?_; clear hK1 K1
                    refine wpAny_done (by kernel_rfl) ?_ _
                    refine ⟨rfl, hKK _ _ ?_⟩
                    clear hKK hwr h01 htn
                    gi_wp2
                    go_roundg (m - (i + 1))
                    case measure => omega
                    case rel => exact fin g2 cap2 w5 hown hgrow hwh hlt5
                  exact AllReady.nil
                exact AllReady.nil
              exact AllReady.nil
            refine AllReady.cons rfl (fun K1 hK1 => ?_) ?_
            · go_simp
              refine hK1 _ _ ?_; clear hK1 K1
              refine wpAny_ready (rs := [0]) (by kernel_rfl) (by simp) ?_
              refine AllReady.cons rfl (fun K1 hK1 => ?_) ?_
              · go_simp
                refine hK1 _ _ ?_; clear hK1 K1
                refine wpAny_ready (rs := [13]) (by kernel_rfl) (by simp) ?_
                refine AllReady.cons rfl (fun K1 hK1 => ?_) ?_
                · refine step_append_lies _ rfl (.tmp 46) (.tmp 58) 100 rfl (w.heap.size + 8) 104 i0 _ 3 16 Try.underlying100 hi0 iz0 iz1 iz2 rfl (by decide) (.slice ad2 N0 cc2) N0 (L0.flatMap Flow.enc) rfl (World.ownsRow.alloc (w := w4.drew) Hrow.out _) ⟨w4.heap.size, 0, none⟩ 1 1 [.int .u8 x, .int .u8 y, .int .i64 n] rfl rfl (World.news_of_block (alloc_new w4.drew _)) HOC.out (by decide) HML.out HBY.out HBS.out _ rfl ?_
                  intro g2 cap2 w5 hown hgrow hwh hlt5
                  have k8 := kcell g2 cap2 w5 hown hgrow hwh hlt5
                  have k8f := kfree g2 cap2 w5 hown hgrow hwh hlt5
                  try go_simp
                  refine hK1 _ _ ?_; clear hK1 K1
                  refine wpAny_ready (rs := [14]) (by kernel_rfl) (by simp) ?_
                  refine AllReady.cons rfl (fun K1 hK1 => ?_) ?_
                  · go_simp
                    refine hK1 _ _ ?_; clear hK1 K1
                    refine wpAny_done (by kernel_rfl) ?_ _
                    refine ⟨rfl, hKK _ _ ?_⟩
                    clear hKK hwr h01 htn
                    gi_wp2
                    go_roundg (m - (i + 1))
                    case measure => omega
                    case rel => exact fin g2 cap2 w5 hown hgrow hwh hlt5
                  exact AllReady.nil
                exact AllReady.nil
              exact AllReady.nil
            exact AllReady.nil
          exact AllReady.nil
        exact AllReady.nil
      · have hltz : ¬ (i : Int) < (m : Int) := by omega
        obtain rfl : i = m := by omega
        have hm1 : l.length - 1 = i := by have := Hm.out; omega
        have hst : s.step f t want = ⟨pushTo s.g l n i, s.got + n, s.ps ++ flowsTo l n i⟩ := by
          unfold FS.step FS.n
          rw [Hl.out, Hn.out, hm1]
        have hpos : ∀ j, j < l.length - 1 → 0 < capOf s.g (l.getD j 0) (l.getD (j + 1) 0) := fun j hj => of_decide_eq_true (HW.out.edge j (by omega)).1
        have hn1 : 1 ≤ n := by rw [← Hn.out]; exact leastTo_pos (by omega) _ hpos
        have hn2 : n ≤ want - s.got := by rw [← Hn.out]; exact (leastTo_le _ _ _ _).1
        have hne : short s.g f t ≠ [] := by rw [Hl.out]; intro e; have := Hm.out; rw [e] at this; simp at this
        have hph : n ≠ want - s.got → phi (pushTo s.g l n i) t < phi s.g t := fun hx => by
          have := phi_lt HW.out (want := want - s.got) (n := n) (by omega) Hn.out.symm hx
          rw [hm1] at this; exact this
        have hset := RM.out.setGot (s.got + n)
        have hmany := HI.out.many
        have hgb := pushTo_GB HI.out.gb l n i
        have hrc := HI.out.reach
        have hko2 : KeepsOthers W (wr.setCell ⟨w.heap.size + 3, 0, none⟩ (.int .i64 (s.got + n))) := RK.out.trans (KeepsOthers.setCell _ _ _)
        have hl15 : (s.ps ++ flowsTo l n i).length = s.ps.length + i := by simp [flowsTo_len]
        have c3 : wr.cell? ⟨w.heap.size + 1 + 1 + 1, 0, none⟩ = some (.int .i64 s.got) := cell_one RM.out.c3
        have f3 : wr.frozen? ⟨w.heap.size + 1 + 1 + 1, 0, none⟩ = false := free_one RM.out.c3 0
        have c1 : wr.cell? ⟨w.heap.size + 1, 0, none⟩ = some (.int .i64 want) := cell_one RM.out.c1
        have hszr := RM.out.size
        have hs3 : w.heap.size + 1 + 1 + 1 < wr.heap.size := by omega
        by_cases heq : s.got + n = want
        · have hend : REnd w f t want ⟨G, 0, []⟩ (wr.setCell ⟨w.heap.size + 3, 0, none⟩ (.int .i64 (s.got + n))) :=
            ⟨s.step f t want, by rw [hst]; exact hset, by rw [hst]; dsimp only; omega, by rw [hst]; dsimp only; rw [hl15]; omega, hrc.full hne (by rw [hst]; exact heq)⟩
          have HE := Lib.hid hend; have HK := Lib.hid hko2
          have heb : (s.got + n == want) = true := by rw [beq_iff_eq]; exact heq
          clear hst hset hend hko2 hl15 hm1 heq hph
          gi_wp2
          exact ⟨rfl, HK.out, HE.out⟩
        · have hinv : RInv w f t want ⟨G, 0, []⟩ (s.step f t want) (wr.setCell ⟨w.heap.size + 3, 0, none⟩ (.int .i64 (s.got + n))) :=
            ⟨by rw [hst]; exact hset, by rw [hst]; dsimp only; omega, by rw [hst]; exact hgb, by
              rw [hst]; dsimp only; rw [hl15]
              have := hph (by omega); omega, hrc.next hne (by rw [hst]; exact heq)⟩
          have hlt : phi (s.step f t want).g t < phi s.g t := by rw [hst]; exact hph (by omega)
          have HE := Lib.hid hinv; have HK := Lib.hid hko2; have HP := Lib.hid hlt
          have heb : (s.got + n == want) = false := by rw [beq_eq_false_iff_ne]; exact heq
          clear hst hset hinv hko2 hl15 hm1 heq hph hlt
          gi_wp2
          exact ⟨HK.out, _, HE.out, HP.out⟩
  case done =>
    rintro D s W hnil hI hD hK
    obtain ⟨ad, c, h2, hrow⟩ := hI.mem.c2
    have c2 : W.cell? ⟨w.heap.size + 1 + 1, 0, none⟩ = some (.slice ad s.ps.length c) := cell_one h2
    have c3 : W.cell? ⟨w.heap.size + 1 + 1 + 1, 0, none⟩ = some (.int .i64 s.got) := cell_one hI.mem.c3
    have f2 : W.frozen? ⟨w.heap.size + 1 + 1, 0, none⟩ = false := free_one h2 0
    have f3 : W.frozen? ⟨w.heap.size + 1 + 1 + 1, 0, none⟩ = false := free_one hI.mem.c3 0
    have hbd := ownsRow_bounds hrow
    gi_wp2
    refine wpIn_wide.2 ?_
    go_region_with ((go_at_call 65; refine (clipFlow ad _ c hbd.1 hbd.2.1 hbd.2.2 _).mono ?_; rintro e w2 ⟨rfl, rfl⟩))
    all_goals
      obtain ⟨e1, e2, e3, e4⟩ := route_end hI.mem h2 hrow (D := D) (by simp [HZ.out] at hD; omega) hK
      gi_wp2
      refine ⟨by simp, .inl ⟨_, _, rfl, run_takeDeferred e1, ?_⟩⟩
      refine ⟨.tuple #[.slice ad s.ps.length s.ps.length, .int .i64 s.got], by simp [results, Try.results42, go_sem, e2, e3], ?_⟩
      obtain ⟨kk, hkk⟩ := hI.reach.done hnil
      exact ⟨kk, s, ad, hkk, rfl, ⟨hI.got.1, Int.le_of_lt hI.got.2⟩, e4.1, by have := hI.many; omega, e4.2⟩
  case stop =>
    rintro D W hX hD hK
    obtain ⟨s, hM, hgot, hmany, kk, hkk⟩ := hX.ex
    obtain ⟨ad, c, h2, hrow⟩ := hM.c2
    have c2 : W.cell? ⟨w.heap.size + 1 + 1, 0, none⟩ = some (.slice ad s.ps.length c) := cell_one h2
    have c3 : W.cell? ⟨w.heap.size + 1 + 1 + 1, 0, none⟩ = some (.int .i64 s.got) := cell_one hM.c3
    have f2 : W.frozen? ⟨w.heap.size + 1 + 1, 0, none⟩ = false := free_one h2 0
    have f3 : W.frozen? ⟨w.heap.size + 1 + 1 + 1, 0, none⟩ = false := free_one hM.c3 0
    have hbd := ownsRow_bounds hrow
    have HKK := Lib.hid hkk; clear hkk
    gi_wp2
    refine wpIn_wide.2 ?_
    go_region_with ((go_at_call 65; refine (clipFlow ad _ c hbd.1 hbd.2.1 hbd.2.2 _).mono ?_; rintro e w2 ⟨rfl, rfl⟩))
    all_goals
      obtain ⟨e1, e2, e3, e4⟩ := route_end hM h2 hrow (D := D) (by simp [HZ.out] at hD; omega) hK
      gi_wp2
      refine ⟨by simp, .inl ⟨_, _, rfl, run_takeDeferred e1, ?_⟩⟩
      refine ⟨.tuple #[.slice ad s.ps.length s.ps.length, .int .i64 s.got], by simp [results, Try.results42, go_sem, e2, e3], ?_⟩
      exact ⟨kk, s, ad, HKK.out, rfl, hgot, e4.1, hmany, e4.2⟩

/-- nothing is wanted -/
theorem route_no (q : Option Addr) (f t : Nat) (want : Int) (hw : want ≤ 0) (w : World) :
    Calls Try.prog 42 #[.pointer q, .int .u8 f, .int .u8 t, .int .i64 want] w fun e w' => e = .returned (.tuple #[.slice none 0 0, .int .i64 0]) ∧ Below w.heap.size w w' := by
  go_enter Try.func42, Try.ntmps42
  go_wp2
  exact bodyPost_ret (v := .tuple #[.slice none 0 0, .int .i64 0]) (by simp [results, Try.results42, go_sem]) rfl ⟨rfl, (by repeat (first | with_reducible exact Below.refl _ _ | with_reducible assumption | refine Below.drew ?_ | refine Below.setCell ?_ (by first | exact Nat.le_refl _ | omega | (simp; done) | (simp; omega)) _ | refine Below.alloc ?_ (by first | exact Nat.le_refl _ | omega | (simp; done) | (simp; omega)) _ | refine Below.tr ?_ (Nat.le_refl _) (by assumption) | exact Below.refl _ _ | assumption))⟩

/-- most that goes -/
def MostPost (w : World) (f t : Nat) (G : Caps) (e : Ending) (w' : World) : Prop :=
  ∃ k r, routeF f t 9223372036854775807 k ⟨G, 0, []⟩ = some r ∧ e = .returned (.int .i64 r.got) ∧ (0 ≤ r.got ∧ r.got ≤ 9223372036854775807) ∧ Below w.heap.size w w'
theorem most_flow {w : World} {b : Nat} {G : Caps} (h : GraphAt w b G) (hG : GB G) (f t : Nat) (hf : f < 256) (ht : t < 256) :
    Calls Try.prog 35 #[.pointer (some ⟨b, 0, none⟩), .int .u8 f, .int .u8 t] w (MostPost w f t G) := by
  go_enter Try.func35, Try.ntmps35
  go_wp2_with (go_at_call 42; refine (route_ok h hG f t hf ht 9223372036854775807 (by omega) (by omega)).mono ?_; rintro e w1 ⟨k, r, ad, hr, rfl, hgot, hB, _⟩; have HR := Lib.hid hr; clear hr)
  go_ret
  exact ⟨k, r, HR.out, rfl, hgot, hB⟩
end Go.Proofs.Ytelcdiceongfdaa
