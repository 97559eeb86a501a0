/- Walks of the layer payments, second part: a payment that may be. -/
import Derived.Test.YtelcdiceongfdaaPay
import Derived.Laws.EntriesVeiled
namespace Go.Proofs.Ytelcdiceongfdaa
open Go.RowKit Go.BigFrame
set_option maxRecDepth 100000

def pushAll (A : Ledger) (c : Nat) (ps : List Flow) : Ledger := ps.foldl (fun A x => (A.push x.f x.t c x.n).2) A
theorem pushAll_snoc (A : Ledger) (c : Nat) (ps : List Flow) (x : Flow) : pushAll A c (ps ++ [x]) = ((pushAll A c ps).push x.f x.t c x.n).2 := by simp [pushAll]
theorem pushAll_WF {A : Ledger} (h : A.WF) (c : Nat) : ∀ ps : List Flow, (pushAll A c ps).WF := fun ps => by
  unfold pushAll
  induction ps generalizing A with
  | nil => exact h
  | cons x ps ih => exact ih (h.push _ _ _ _)
theorem flow_get : ∀ (l : List Flow) (j i : Nat), j < l.length → i < 3 → (l.flatMap Flow.enc)[j * 3 + i]? = (l[j]!).enc[i]?
  | [], j, i, hj, _ => absurd hj (by simp)
  | o :: l, 0, i, _, hi => by
    rw [List.flatMap_cons, List.getElem?_append_left (by simp [Flow.enc]; omega)]
    simp
  | o :: l, j + 1, i, hj, hi => by
    rw [List.flatMap_cons, List.getElem?_append_right (by simp [Flow.enc]; omega), show o.enc.length = 3 from rfl, show (j + 1) * 3 + i - 3 = j * 3 + i by omega, flow_get l j i (by simpa using hj) hi]
    rfl

/-- what a payment that may be comes to -/
def PayPost (w : World) (b m : Nat) (A : Ledger) (f t c : Nat) (n : Int) (e : Ending) (w' : World) : Prop :=
  ∃ k r, routeF f t n k ⟨rooms A c, 0, []⟩ = some r ∧ ((r.got < n ∧ e = .returned (.tuple #[.int .i64 0, .int .i64 11]) ∧ Below w.heap.size w w') ∨
    (n ≤ r.got ∧ e = .returned (.tuple #[.int .i64 r.ps.length, .int .i64 0]) ∧ Chg [m] w w' ∧ LedgerAt w' b m (pushAll A c r.ps)))

theorem payChecks (w : World) : Calls Try.prog 41 #[] w fun e w' => e = .returned (.slice (some ⟨w.heap.size, 0, none⟩) 3 3) ∧ w' = w.alloc (.cells #[.func (.func 58) #[] #[], .int .i64 2, .func (.func 59) #[] #[], .int .i64 1, .func (.func 60) #[] #[], .int .i64 7] 99) := by
  go_enter Try.func41, Try.ntmps41
  go_wp2
  go_ret
  exact ⟨rfl, rfl⟩
theorem pay_mem {w w0 : World} {A B : Array Value} {s t : TypeId} (h : w0 = (w.alloc (.cells A s)).alloc (.cells B t)) : (∀ j v, A[j]? = some v → w0.cell? ⟨w.heap.size, j, none⟩ = some v) ∧ (∀ j v, B[j]? = some v → w0.cell? ⟨w.heap.size + 1, j, none⟩ = some v) ∧ w0.heap.size = w.heap.size + 2 := by
  subst h
  have h1 : ((w.alloc (.cells A s)).alloc (.cells B t)).heap[w.heap.size]? = some (.cells A s (0, 0)) := (Below.heap_alloc _ _ _ (by simp)).trans (alloc_new w _)
  have h2 : ((w.alloc (.cells A s)).alloc (.cells B t)).heap[w.heap.size + 1]? = some (.cells B t (0, 0)) := by have := alloc_new (w.alloc (.cells A s)) (.cells B t); rw [World.size_alloc] at this; exact this
  exact ⟨fun j v hv => (cell_of_row _ _ j _ _ _ h1).trans hv, fun j v hv => (cell_of_row _ _ j _ _ _ h2).trans hv, by simp⟩

set_option maxHeartbeats 2000000 in
theorem pay_ok {w : World} {b m : Nat} {A : Ledger} (h : LedgerAt w b m A) (f t c : Nat) (n : Int) (hf : 1 ≤ f ∧ f ≤ 16) (ht : 1 ≤ t ∧ t ≤ 16) (hft : f ≠ t) (hc : 1 ≤ c ∧ c ≤ 8) (hn : 1 ≤ n ∧ n ≤ 1099511627776) (h1 : A.has f = true) (h2 : A.has t = true) :
    Calls Try.prog 19 #[.pointer (some ⟨b, 0, none⟩), .int .u8 f, .int .u8 t, .int .u8 c, .int .i64 n] w (PayPost w b m A f t c n) := by
  have hGB := rooms_GB h.wf c
  have hb := h.lt
  have H1 := Lib.hid h1; have H2 := Lib.hid h2; clear h1 h2
  go_enter Try.func19, Try.ntmps19
  go_wp2_with (go_at_call 41; refine (payChecks _).mono ?_; rintro e w0 ⟨rfl, hw0⟩)
  obtain ⟨hc0, hc1, hz0⟩ := pay_mem hw0
  have hB0 : Below w.heap.size w w0 := by rw [hw0]; exact (by repeat (first | with_reducible exact Below.refl _ _ | with_reducible assumption | refine Below.drew ?_ | refine Below.setCell ?_ (by first | exact Nat.le_refl _ | omega | (simp; done) | (simp; omega)) _ | refine Below.alloc ?_ (by first | exact Nat.le_refl _ | omega | (simp; done) | (simp; omega)) _ | refine Below.tr ?_ (Nat.le_refl _) (by assumption) | exact Below.refl _ _ | assumption))
  rw [← hw0]
  have HZ := Lib.hid hz0
  have hz1 : w.heap.size + 1 < w0.heap.size := by omega
  clear hw0 hz0
  have HC0 := Lib.hid hc0; have HC1 := Lib.hid hc1; clear hc0 hc1
  go_loopg [27] 3 (fun gg s27 wr => ∃ i : Nat, i ≤ 3 ∧ 3 - i ≤ gg ∧ s27 = .int .i64 i ∧ Aside (Below w0.heap.size w0 wr))
  case atStart => exact ⟨0, by omega, by omega, rfl, Below.refl _ _⟩
  case round =>
    obtain ⟨i, hi, hgg, rfl, BW⟩ := hrel
    have hBw : Below w.heap.size w wr := hB0.trans (BW.out.mono hB0.size)
    have hL := h.below hBw
    have q0 : ∀ j v, (#[Value.pointer (some ⟨b, 0, none⟩), .int .u8 f, .int .u8 t, .int .u8 c, .int .i64 n] : Array Value)[j]? = some v → wr.cell? ⟨w.heap.size, j, none⟩ = some v := fun j v hv => (BW.out.cell (p := ⟨w.heap.size, j, none⟩) (by show w.heap.size < _; omega)).trans (HC0.out j v hv)
    have q1 : ∀ j v, (#[Value.func (.func 58) #[] #[], .int .i64 2, .func (.func 59) #[] #[], .int .i64 1, .func (.func 60) #[] #[], .int .i64 7] : Array Value)[j]? = some v → wr.cell? ⟨w.heap.size + 1, j, none⟩ = some v := fun j v hv => (BW.out.cell (p := ⟨w.heap.size + 1, j, none⟩) hz1).trans (HC1.out j v hv)
    have p0 := q0 0 _ rfl
    have p1 := q0 1 _ rfl
    have p2 := q0 2 _ rfl
    have p3 := q0 3 _ rfl
    have p4 := q0 4 _ rfl
    have r0 := q1 0 _ rfl
    have r1 := q1 1 _ rfl
    have r2 := q1 2 _ rfl
    have r3 := q1 3 _ rfl
    have r4 := q1 4 _ rfl
    have r5 := q1 5 _ rfl
    have hs0 : w.heap.size < wr.heap.size := by have := BW.out.size; omega
    have hs1 : w.heap.size + 1 < wr.heap.size := by have := BW.out.size; omega
    have hs2 : w.heap.size < wr.heap.size + 1 := by omega
    clear q0 q1
    have hcase : i = 0 ∨ i = 1 ∨ i = 2 ∨ i = 3 := by omega
    rcases hcase with rfl | rfl | rfl | rfl
    · go_wp2_with (go_at_call 58; refine (absent_no (h.below (by repeat (first | with_reducible exact Below.refl _ _ | with_reducible assumption | refine Below.drew ?_ | refine Below.setCell ?_ (by first | exact Nat.le_refl _ | omega | (simp; done) | (simp; omega)) _ | refine Below.alloc ?_ (by first | exact Nat.le_refl _ | omega | (simp; done) | (simp; omega)) _ | refine Below.tr ?_ (Nat.le_refl _) (by assumption) | exact Below.refl _ _ | assumption))) f t c n).mono ?_; rintro e w1 ⟨rfl, hb1⟩)
      go_roundg 2
      case measure => omega
      case rel => exact ⟨1, by omega, by omega, rfl, BW.out.trans ((((Below.refl wr.heap.size wr).alloc (Nat.le_refl _) _).trans (hb1.mono (by simp))).mono BW.out.size)⟩
    · go_wp2_with (go_at_call 59; refine (bad_no b f t c n hf ht hft hc hn _).mono ?_; rintro e w1 ⟨rfl, hb1⟩)
      go_roundg 1
      case measure => omega
      case rel => exact ⟨2, by omega, by omega, rfl, BW.out.trans ((((Below.refl wr.heap.size wr).alloc (Nat.le_refl _) _).trans (hb1.mono (by simp))).mono BW.out.size)⟩
    · go_wp2_with (go_at_call 60; refine (strange_no (h.below (by repeat (first | with_reducible exact Below.refl _ _ | with_reducible assumption | refine Below.drew ?_ | refine Below.setCell ?_ (by first | exact Nat.le_refl _ | omega | (simp; done) | (simp; omega)) _ | refine Below.alloc ?_ (by first | exact Nat.le_refl _ | omega | (simp; done) | (simp; omega)) _ | refine Below.tr ?_ (Nat.le_refl _) (by assumption) | exact Below.refl _ _ | assumption))) f t c n (by omega) (by omega) H1.out H2.out).mono ?_; rintro e w1 ⟨rfl, hb1⟩)
      go_roundg 0
      case measure => omega
      case rel => exact ⟨3, by omega, by omega, rfl, BW.out.trans ((((Below.refl wr.heap.size wr).alloc (Nat.le_refl _) _).trans (hb1.mono (by simp))).mono BW.out.size)⟩
    · clear p0 p1 p2 p3 p4 r0 r1 r2 r3 r4 r5
      go_wp2_with (first | (go_at_call 36; refine (graphOf hL c).mono ?_; rintro e w1 ⟨rfl, hb1, hg1⟩) | (go_at_call 42; refine (route_ok hg1 hGB f t (by omega) (by omega) n (by omega) (by omega)).mono ?_; rintro e w2 ⟨k, r, ad, hr, rfl, hgot, hb2, hlen, hrow⟩; have HR := Lib.hid hr; clear hr))
      · go_ret2
        refine ⟨k, r, HR.out, .inl ⟨by assumption, rfl, ?_⟩⟩
        exact hBw.trans ((hb1.trans (hb2.mono hb1.size)).mono hBw.size)
      · have hB2 : Below w.heap.size w w2 := hBw.trans ((hb1.trans (hb2.mono hb1.size)).mono hBw.size)
        have hL2 := h.below hB2
        have hge : n ≤ r.got := by assumption
        obtain ⟨ps, hps⟩ : ∃ ps, r.ps = ps := ⟨_, rfl⟩
        rw [hps] at hrow hlen ⊢
        obtain ⟨N, hN⟩ : ∃ N, ps.length = N := ⟨_, rfl⟩
        rw [hN] at hlen ⊢
        have HPS := Lib.hid hps; have HN := Lib.hid hN
        have Hrow : Hid (N = 0 ∨ ∃ g, ad = some ⟨g, 0, none⟩ ∧ w.heap.size ≤ g ∧ g < w2.heap.size ∧ ∀ (j : Nat) v, (ps.flatMap Flow.enc)[j]? = some v → w2.cell? ⟨g, j, none⟩ = some v) := by
          rcases hrow with ⟨_, h2⟩ | ⟨g, h2, h3, h4⟩
          · exact .inl (by rw [← hN, h2]; rfl)
          · exact .inr ⟨g, h2, by have := hb1.size; have := hBw.size; omega, h4⟩
        clear hps hN hrow
        rcases Hrow.out with h0n | ⟨g, rfl, hg1, hg2, hgc⟩
        · subst h0n
          have hp0 : ps = [] := List.eq_nil_of_length_eq_zero HN.out
          have HP0 := Lib.hid hp0; clear hp0
          go_loopg [53] 0 (fun gg s53 wr => s53 = .int .i64 0 ∧ wr = w2)
          case atStart => exact ⟨rfl, rfl⟩
          case round =>
            obtain ⟨rfl, rfl⟩ := hrel
            go_wp2
            go_ret2
            refine ⟨k, r, HR.out, .inr ⟨hge, by rw [HPS.out, HN.out]; rfl, Chg.of_below hB2, ?_⟩⟩
            rw [HPS.out, HP0.out]; exact hL2
        · clear Hrow
          have Hgc := Lib.hid hgc; clear hgc
          have hgm : g ≠ m := by have := h.map.lt; omega
          have hbm := h.ne
          have HR2 : Hid (∃ k, routeF f t n k ⟨rooms A c, 0, []⟩ = some r) := ⟨k, HR.out⟩
          go_loopg [53] N (fun gg s53 wr => ∃ i : Nat, i ≤ N ∧ N - i ≤ gg ∧ s53 = .int .i64 i ∧ Aside (Chg [m] w2 wr) ∧ Aside (LedgerAt wr b m (pushAll A c (ps.take i))))
          case atStart => exact ⟨0, by omega, by omega, rfl, Chg.refl _ _, hL2⟩
          case round =>
            obtain ⟨i, hi, hgg2, rfl, CW, LW⟩ := hrel
            by_cases hlt : i < N
            · have hltz : (i : Int) < (N : Int) := by omega
              have hil : i < ps.length := by rw [HN.out]; exact hlt
              have hcells : Hid (∀ j v, j < 3 → (ps[i]!).enc[j]? = some v → wr.cell? ⟨g, i * 3 + j, none⟩ = some v) := fun j v hj hv => (CW.out.cell hg2 (by simpa using hgm)).trans (Hgc.out _ _ ((flow_get ps i j hil hj).trans hv))
              have htk : Hid (pushAll A c (ps.take (i + 1)) = ((pushAll A c (ps.take i)).push (ps[i]!).f (ps[i]!).t c (ps[i]!).n).2) := by
                have : ps.take (i + 1) = ps.take i ++ [ps[i]!] := by rw [List.take_add_one, List.getElem?_eq_getElem hil, getElem!_pos ps i hil]; rfl
                show _ = _
                rw [this, pushAll_snoc]
              generalize ps[i]! = x at hcells htk
              obtain ⟨xf, xt, xn⟩ := x
              have k0 := hcells.out 0 _ (by omega) rfl
              have k1 := hcells.out 1 _ (by omega) rfl
              have k2 := hcells.out 2 _ (by omega) rfl
              dsimp only [Nat.add_zero] at k0 k1 k2 htk
              have hgl : g < wr.heap.size := Nat.lt_of_lt_of_le hg2 CW.out.size
              clear hcells hil
              go_wp2_with (go_at_call 43; refine (push_any (LW.out.below (by repeat (first | with_reducible exact Below.refl _ _ | with_reducible assumption | refine Below.drew ?_ | refine Below.setCell ?_ (by first | exact Nat.le_refl _ | omega | (simp; done) | (simp; omega)) _ | refine Below.alloc ?_ (by first | exact Nat.le_refl _ | omega | (simp; done) | (simp; omega)) _ | refine Below.tr ?_ (Nat.le_refl _) (by assumption) | exact Below.refl _ _ | assumption))) xf xt c xn).mono ?_; rintro e w4 ⟨rfl, hC4, hL4⟩)
              go_roundg (N - (i + 1))
              case measure => omega
              case rel =>
                refine ⟨i + 1, by omega, by omega, by go_num, ?_, ?_⟩
                · exact (CW.out.trans (Chg.of_below (S := []) ((Below.refl wr.heap.size wr).alloc (Nat.le_refl _) _)) (by simp)).trans hC4 (fun z hz _ => hz)
                · show LedgerAt _ _ _ _
                  rw [htk.out]; exact hL4
            · have hltz : ¬ (i : Int) < (N : Int) := by omega
              obtain rfl : i = N := by omega
              go_wp2
              go_ret2
              obtain ⟨k, hk⟩ := HR2.out
              refine ⟨k, r, hk, .inr ⟨hge, by rw [HPS.out, HN.out]; rfl, (Chg.of_below (S := [m]) hB2).trans CW.out (fun z hz _ => hz), ?_⟩⟩
              have := LW.out
              rw [← HN.out, List.take_length, ← HPS.out] at this
              exact this
end Go.Proofs.Ytelcdiceongfdaa
