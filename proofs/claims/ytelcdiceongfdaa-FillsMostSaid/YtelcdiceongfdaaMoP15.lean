/-
  Walks of the layer payments, second part: a payment that may be.
  Walks of the layer fills, first part: the bounds of a trade. Where a rate's terms are great the law of a long division is asked.
  Walks of the layer fills, second part: the least of four bounds.
-/
import Derived.Test.YtelcdiceongfdaaPay
import Derived.Laws.EntriesVeiled
import Derived.Test.YtelcdiceongfdaaMoP7
section
namespace Go.Proofs.Ytelcdiceongfdaa
open Go.RowKit Go.BigFrame
set_option maxRecDepth 100000

def pushAll (A : Ledger) (c : Nat) (ps : List Flow) : Ledger := ps.foldl (fun A x => (A.push x.f x.t c x.n).2) A
theorem pushAll_snoc (A : Ledger) (c : Nat) (ps : List Flow) (x : Flow) : pushAll A c (ps ++ [x]) = ((pushAll A c ps).push x.f x.t c x.n).2 := by simp [pushAll]
theorem pushAll_WF {A : Ledger} (h : A.WF) (c : Nat) : ∀ ps : List Flow, (pushAll A c ps).WF := fun ps => by
  unfold pushAll
  induction ps generalizing A with
  | nil => exact h
  | cons x ps ih => exact ih (h.push _ _ _ _)
theorem flow_get : ∀ (l : List Flow) (j i : Nat), j < l.length → i < 3 → (l.flatMap Flow.enc)[j * 3 + i]? = (l[j]!).enc[i]?
  | [], j, i, hj, _ => absurd hj (by simp)
  | o :: l, 0, i, _, hi => by
    rw [List.flatMap_cons, List.getElem?_append_left (by simp [Flow.enc]; omega)]
    simp
  | o :: l, j + 1, i, hj, hi => by
    rw [List.flatMap_cons, List.getElem?_append_right (by simp [Flow.enc]; omega), show o.enc.length = 3 from rfl, show (j + 1) * 3 + i - 3 = j * 3 + i by omega, flow_get l j i (by simpa using hj) hi]
    rfl

/-- what a payment that may be comes to -/
def PayPost (w : World) (b m : Nat) (A : Ledger) (f t c : Nat) (n : Int) (e : Ending) (w' : World) : Prop :=
  ∃ k r, routeF f t n k ⟨rooms A c, 0, []⟩ = some r ∧ ((r.got < n ∧ e = .returned (.tuple #[.int .i64 0, .int .i64 11]) ∧ Below w.heap.size w w') ∨
    (n ≤ r.got ∧ e = .returned (.tuple #[.int .i64 r.ps.length, .int .i64 0]) ∧ Chg [m] w w' ∧ LedgerAt w' b m (pushAll A c r.ps)))

theorem payChecks (w : World) : Calls Try.prog 41 #[] w fun e w' => e = .returned (.slice (some ⟨w.heap.size, 0, none⟩) 3 3) ∧ w' = w.alloc (.cells #[.func (.func 58) #[] #[], .int .i64 2, .func (.func 59) #[] #[], .int .i64 1, .func (.func 60) #[] #[], .int .i64 7] 99) := by
  go_enter Try.func41, Try.ntmps41
  go_wp2
  go_ret
  exact ⟨rfl, rfl⟩
theorem pay_mem {w w0 : World} {A B : Array Value} {s t : TypeId} (h : w0 = (w.alloc (.cells A s)).alloc (.cells B t)) : (∀ j v, A[j]? = some v → w0.cell? ⟨w.heap.size, j, none⟩ = some v) ∧ (∀ j v, B[j]? = some v → w0.cell? ⟨w.heap.size + 1, j, none⟩ = some v) ∧ w0.heap.size = w.heap.size + 2 := by
  subst h
  have h1 : ((w.alloc (.cells A s)).alloc (.cells B t)).heap[w.heap.size]? = some (.cells A s (0, 0)) := (Below.heap_alloc _ _ _ (by simp)).trans (alloc_new w _)
  have h2 : ((w.alloc (.cells A s)).alloc (.cells B t)).heap[w.heap.size + 1]? = some (.cells B t (0, 0)) := by have := alloc_new (w.alloc (.cells A s)) (.cells B t); rw [World.size_alloc] at this; exact this
  exact ⟨fun j v hv => (cell_of_row _ _ j _ _ _ h1).trans hv, fun j v hv => (cell_of_row _ _ j _ _ _ h2).trans hv, by simp⟩

set_option maxHeartbeats 2000000 in
theorem pay_ok {w : World} {b m : Nat} {A : Ledger} (h : LedgerAt w b m A) (f t c : Nat) (n : Int) (hf : 1 ≤ f ∧ f ≤ 16) (ht : 1 ≤ t ∧ t ≤ 16) (hft : f ≠ t) (hc : 1 ≤ c ∧ c ≤ 8) (hn : 1 ≤ n ∧ n ≤ 1099511627776) (h1 : A.has f = true) (h2 : A.has t = true) :
    Calls Try.prog 19 #[.pointer (some ⟨b, 0, none⟩), .int .u8 f, .int .u8 t, .int .u8 c, .int .i64 n] w (PayPost w b m A f t c n) := by
  have hGB := rooms_GB h.wf c
  have hb := h.lt
  have H1 := Lib.hid h1; have H2 := Lib.hid h2; clear h1 h2
  go_enter Try.func19, Try.ntmps19
  go_wp2_with (go_at_call 41; refine (payChecks _).mono ?_; rintro e w0 ⟨rfl, hw0⟩)
  obtain ⟨hc0, hc1, hz0⟩ := pay_mem hw0
  have hB0 : Below w.heap.size w w0 := by rw [hw0]; exact (by repeat (first | with_reducible exact Below.refl _ _ | with_reducible assumption | refine Below.drew ?_ | refine Below.setCell ?_ (by first | exact Nat.le_refl _ | omega | (simp; done) | (simp; omega)) _ | refine Below.alloc ?_ (by first | exact Nat.le_refl _ | omega | (simp; done) | (simp; omega)) _ | refine Below.tr ?_ (Nat.le_refl _) (by assumption) | exact Below.refl _ _ | assumption))
  rw [← hw0]
  have HZ := Lib.hid hz0
  have hz1 : w.heap.size + 1 < w0.heap.size := by omega
  clear hw0 hz0
  have HC0 := Lib.hid hc0; have HC1 := Lib.hid hc1; clear hc0 hc1
  go_loopg [27] 3 (fun gg s27 wr => ∃ i : Nat, i ≤ 3 ∧ 3 - i ≤ gg ∧ s27 = .int .i64 i ∧ Aside (Below w0.heap.size w0 wr))
  case atStart => exact ⟨0, by omega, by omega, rfl, Below.refl _ _⟩
  case round =>
    obtain ⟨i, hi, hgg, rfl, BW⟩ := hrel
    have hBw : Below w.heap.size w wr := hB0.trans (BW.out.mono hB0.size)
    have hL := h.below hBw
    have q0 : ∀ j v, (#[Value.pointer (some ⟨b, 0, none⟩), .int .u8 f, .int .u8 t, .int .u8 c, .int .i64 n] : Array Value)[j]? = some v → wr.cell? ⟨w.heap.size, j, none⟩ = some v := fun j v hv => (BW.out.cell (p := ⟨w.heap.size, j, none⟩) (by show w.heap.size < _; omega)).trans (HC0.out j v hv)
    have q1 : ∀ j v, (#[Value.func (.func 58) #[] #[], .int .i64 2, .func (.func 59) #[] #[], .int .i64 1, .func (.func 60) #[] #[], .int .i64 7] : Array Value)[j]? = some v → wr.cell? ⟨w.heap.size + 1, j, none⟩ = some v := fun j v hv => (BW.out.cell (p := ⟨w.heap.size + 1, j, none⟩) hz1).trans (HC1.out j v hv)
    have p0 := q0 0 _ rfl
    have p1 := q0 1 _ rfl
    have p2 := q0 2 _ rfl
    have p3 := q0 3 _ rfl
    have p4 := q0 4 _ rfl
    have r0 := q1 0 _ rfl
    have r1 := q1 1 _ rfl
    have r2 := q1 2 _ rfl
    have r3 := q1 3 _ rfl
    have r4 := q1 4 _ rfl
    have r5 := q1 5 _ rfl
    have hs0 : w.heap.size < wr.heap.size := by have := BW.out.size; omega
    have hs1 : w.heap.size + 1 < wr.heap.size := by have := BW.out.size; omega
    have hs2 : w.heap.size < wr.heap.size + 1 := by omega
    clear q0 q1
    have hcase : i = 0 ∨ i = 1 ∨ i = 2 ∨ i = 3 := by omega
    rcases hcase with rfl | rfl | rfl | rfl
    · go_wp2_with (go_at_call 58; refine (absent_no (h.below (by repeat (first | with_reducible exact Below.refl _ _ | with_reducible assumption | refine Below.drew ?_ | refine Below.setCell ?_ (by first | exact Nat.le_refl _ | omega | (simp; done) | (simp; omega)) _ | refine Below.alloc ?_ (by first | exact Nat.le_refl _ | omega | (simp; done) | (simp; omega)) _ | refine Below.tr ?_ (Nat.le_refl _) (by assumption) | exact Below.refl _ _ | assumption))) f t c n).mono ?_; rintro e w1 ⟨rfl, hb1⟩)
      go_roundg 2
      case measure => omega
      case rel => exact ⟨1, by omega, by omega, rfl, BW.out.trans ((((Below.refl wr.heap.size wr).alloc (Nat.le_refl _) _).trans (hb1.mono (by simp))).mono BW.out.size)⟩
    · go_wp2_with (go_at_call 59; refine (bad_no b f t c n hf ht hft hc hn _).mono ?_; rintro e w1 ⟨rfl, hb1⟩)
      go_roundg 1
      case measure => omega
      case rel => exact ⟨2, by omega, by omega, rfl, BW.out.trans ((((Below.refl wr.heap.size wr).alloc (Nat.le_refl _) _).trans (hb1.mono (by simp))).mono BW.out.size)⟩
    · go_wp2_with (go_at_call 60; refine (strange_no (h.below (by repeat (first | with_reducible exact Below.refl _ _ | with_reducible assumption | refine Below.drew ?_ | refine Below.setCell ?_ (by first | exact Nat.le_refl _ | omega | (simp; done) | (simp; omega)) _ | refine Below.alloc ?_ (by first | exact Nat.le_refl _ | omega | (simp; done) | (simp; omega)) _ | refine Below.tr ?_ (Nat.le_refl _) (by assumption) | exact Below.refl _ _ | assumption))) f t c n (by omega) (by omega) H1.out H2.out).mono ?_; rintro e w1 ⟨rfl, hb1⟩)
      go_roundg 0
      case measure => omega
      case rel => exact ⟨3, by omega, by omega, rfl, BW.out.trans ((((Below.refl wr.heap.size wr).alloc (Nat.le_refl _) _).trans (hb1.mono (by simp))).mono BW.out.size)⟩
    · clear p0 p1 p2 p3 p4 r0 r1 r2 r3 r4 r5
      go_wp2_with (first | (go_at_call 36; refine (graphOf hL c).mono ?_; rintro e w1 ⟨rfl, hb1, hg1⟩) | (go_at_call 42; refine (route_ok hg1 hGB f t (by omega) (by omega) n (by omega) (by omega)).mono ?_; rintro e w2 ⟨k, r, ad, hr, rfl, hgot, hb2, hlen, hrow⟩; have HR := Lib.hid hr; clear hr))
      · go_ret2
        refine ⟨k, r, HR.out, .inl ⟨by assumption, rfl, ?_⟩⟩
        exact hBw.trans ((hb1.trans (hb2.mono hb1.size)).mono hBw.size)
      · have hB2 : Below w.heap.size w w2 := hBw.trans ((hb1.trans (hb2.mono hb1.size)).mono hBw.size)
        have hL2 := h.below hB2
        have hge : n ≤ r.got := by assumption
        obtain ⟨ps, hps⟩ : ∃ ps, r.ps = ps := ⟨_, rfl⟩
        rw [hps] at hrow hlen ⊢
        obtain ⟨N, hN⟩ : ∃ N, ps.length = N := ⟨_, rfl⟩
        rw [hN] at hlen ⊢
        have HPS := Lib.hid hps; have HN := Lib.hid hN
        have Hrow : Hid (N = 0 ∨ ∃ g, ad = some ⟨g, 0, none⟩ ∧ w.heap.size ≤ g ∧ g < w2.heap.size ∧ ∀ (j : Nat) v, (ps.flatMap Flow.enc)[j]? = some v → w2.cell? ⟨g, j, none⟩ = some v) := by
          rcases hrow with ⟨_, h2⟩ | ⟨g, h2, h3, h4⟩
          · exact .inl (by rw [← hN, h2]; rfl)
          · exact .inr ⟨g, h2, by have := hb1.size; have := hBw.size; omega, h4⟩
        clear hps hN hrow
        rcases Hrow.out with h0n | ⟨g, rfl, hg1, hg2, hgc⟩
        · subst h0n
          have hp0 : ps = [] := List.eq_nil_of_length_eq_zero HN.out
          have HP0 := Lib.hid hp0; clear hp0
          go_loopg [53] 0 (fun gg s53 wr => s53 = .int .i64 0 ∧ wr = w2)
          case atStart => exact ⟨rfl, rfl⟩
          case round =>
            obtain ⟨rfl, rfl⟩ := hrel
            go_wp2
            go_ret2
            refine ⟨k, r, HR.out, .inr ⟨hge, by rw [HPS.out, HN.out]; rfl, Chg.of_below hB2, ?_⟩⟩
            rw [HPS.out, HP0.out]; exact hL2
        · clear Hrow
          have Hgc := Lib.hid hgc; clear hgc
          have hgm : g ≠ m := by have := h.map.lt; omega
          have hbm := h.ne
          have HR2 : Hid (∃ k, routeF f t n k ⟨rooms A c, 0, []⟩ = some r) := ⟨k, HR.out⟩
          go_loopg [53] N (fun gg s53 wr => ∃ i : Nat, i ≤ N ∧ N - i ≤ gg ∧ s53 = .int .i64 i ∧ Aside (Chg [m] w2 wr) ∧ Aside (LedgerAt wr b m (pushAll A c (ps.take i))))
          case atStart => exact ⟨0, by omega, by omega, rfl, Chg.refl _ _, hL2⟩
          case round =>
            obtain ⟨i, hi, hgg2, rfl, CW, LW⟩ := hrel
            by_cases hlt : i < N
            · have hltz : (i : Int) < (N : Int) := by omega
              have hil : i < ps.length := by rw [HN.out]; exact hlt
              have hcells : Hid (∀ j v, j < 3 → (ps[i]!).enc[j]? = some v → wr.cell? ⟨g, i * 3 + j, none⟩ = some v) := fun j v hj hv => (CW.out.cell hg2 (by simpa using hgm)).trans (Hgc.out _ _ ((flow_get ps i j hil hj).trans hv))
              have htk : Hid (pushAll A c (ps.take (i + 1)) = ((pushAll A c (ps.take i)).push (ps[i]!).f (ps[i]!).t c (ps[i]!).n).2) := by
                have : ps.take (i + 1) = ps.take i ++ [ps[i]!] := by rw [List.take_add_one, List.getElem?_eq_getElem hil, getElem!_pos ps i hil]; rfl
                show _ = _
                rw [this, pushAll_snoc]
              generalize ps[i]! = x at hcells htk
              obtain ⟨xf, xt, xn⟩ := x
              have k0 := hcells.out 0 _ (by omega) rfl
              have k1 := hcells.out 1 _ (by omega) rfl
              have k2 := hcells.out 2 _ (by omega) rfl
              dsimp only [Nat.add_zero] at k0 k1 k2 htk
              have hgl : g < wr.heap.size := Nat.lt_of_lt_of_le hg2 CW.out.size
              clear hcells hil
              go_wp2_with (go_at_call 43; refine (push_any (LW.out.below (by repeat (first | with_reducible exact Below.refl _ _ | with_reducible assumption | refine Below.drew ?_ | refine Below.setCell ?_ (by first | exact Nat.le_refl _ | omega | (simp; done) | (simp; omega)) _ | refine Below.alloc ?_ (by first | exact Nat.le_refl _ | omega | (simp; done) | (simp; omega)) _ | refine Below.tr ?_ (Nat.le_refl _) (by assumption) | exact Below.refl _ _ | assumption))) xf xt c xn).mono ?_; rintro e w4 ⟨rfl, hC4, hL4⟩)
              go_roundg (N - (i + 1))
              case measure => omega
              case rel =>
                refine ⟨i + 1, by omega, by omega, by go_num, ?_, ?_⟩
                · exact (CW.out.trans (Chg.of_below (S := []) ((Below.refl wr.heap.size wr).alloc (Nat.le_refl _) _)) (by simp)).trans hC4 (fun z hz _ => hz)
                · show LedgerAt _ _ _ _
                  rw [htk.out]; exact hL4
            · have hltz : ¬ (i : Int) < (N : Int) := by omega
              obtain rfl : i = N := by omega
              go_wp2
              go_ret2
              obtain ⟨k, hk⟩ := HR2.out
              refine ⟨k, r, hk, .inr ⟨hge, by rw [HPS.out, HN.out]; rfl, (Chg.of_below (S := [m]) hB2).trans CW.out (fun z hz _ => hz), ?_⟩⟩
              have := LW.out
              rw [← HN.out, List.take_length, ← HPS.out] at this
              exact this
end Go.Proofs.Ytelcdiceongfdaa
end
section
namespace Go.Proofs.Ytelcdiceongfdaa
open Go.RowKit Go.BigFrame
set_option maxRecDepth 100000

def tradeV (b bb : Nat) (o : Offer) (taker to : Nat) (want most : Int) : Value :=
  .agg #[.pointer (some ⟨b, 0, none⟩), .pointer (some ⟨bb, 0, none⟩), .int .u64 o.seq, .int .u8 o.owner, .int .u8 o.sell, .int .u8 o.buy, .int .i64 o.left, .int .i64 o.num, .int .i64 o.den, .int .u8 taker, .int .u8 to, .int .i64 want, .int .i64 most]

theorem trade_wanted (b bb : Nat) (o : Offer) (taker to : Nat) (want most : Int) (w : World) :
    Calls Try.prog 23 #[tradeV b bb o taker to want most] w (IntPost w want) := by
  unfold tradeV
  go_enter Try.func23, Try.ntmps23
  go_wp2
  go_ret
  exact ⟨rfl, (by repeat (first | with_reducible exact Below.refl _ _ | with_reducible assumption | refine Below.drew ?_ | refine Below.setCell ?_ (by first | exact Nat.le_refl _ | omega | (simp; done) | (simp; omega)) _ | refine Below.alloc ?_ (by first | exact Nat.le_refl _ | omega | (simp; done) | (simp; omega)) _ | refine Below.tr ?_ (Nat.le_refl _) (by assumption) | exact Below.refl _ _ | assumption))⟩
theorem trade_left (b bb : Nat) (o : Offer) (taker to : Nat) (want most : Int) (w : World) :
    Calls Try.prog 24 #[tradeV b bb o taker to want most] w (IntPost w o.left) := by
  unfold tradeV
  go_enter Try.func24, Try.ntmps24
  go_wp2
  go_ret
  exact ⟨rfl, (by repeat (first | with_reducible exact Below.refl _ _ | with_reducible assumption | refine Below.drew ?_ | refine Below.setCell ?_ (by first | exact Nat.le_refl _ | omega | (simp; done) | (simp; omega)) _ | refine Below.alloc ?_ (by first | exact Nat.le_refl _ | omega | (simp; done) | (simp; omega)) _ | refine Below.tr ?_ (Nat.le_refl _) (by assumption) | exact Below.refl _ _ | assumption))⟩

/-- how much of what is sold goes to that one -/
def GoesIs (A : Ledger) (o : Offer) (to : Nat) (n : Int) : Prop := (to = o.owner ∧ n = 1099511627776) ∨ (to ≠ o.owner ∧ MostIs A o.owner to o.sell n)
theorem goes_ex {w : World} {b m : Nat} {A : Ledger} (h : LedgerAt w b m A) (o : Offer) (to : Nat) (ho : o.owner < 256) (ht : to < 256) : ∃ n, GoesIs A o to n ∧ 0 ≤ n ∧ n ≤ 9223372036854775807 := by
  by_cases e : to = o.owner
  · exact ⟨_, .inl ⟨e, rfl⟩, by omega, by omega⟩
  · obtain ⟨n, hn, h1, h2⟩ := most_ex h o.owner to o.sell ho ht
    exact ⟨n, .inr ⟨e, hn⟩, h1, h2⟩
theorem trade_goes {w : World} {b m : Nat} {A : Ledger} (h : LedgerAt w b m A) (bb : Nat) (o : Offer) (taker to : Nat) (want most : Int) (ho : o.owner < 256) (ht : to < 256) {n : Int} (hn : GoesIs A o to n) :
    Calls Try.prog 25 #[tradeV b bb o taker to want most] w (IntPost w n) := by
  unfold tradeV
  obtain ⟨sq, p, s, y, left, a, d⟩ := o
  dsimp only at *
  rcases hn with ⟨e, rfl⟩ | ⟨e, hn⟩
  · dsimp only at e
    subst e
    go_enter Try.func25, Try.ntmps25
    go_wp2
    go_ret
    exact ⟨rfl, (by repeat (first | with_reducible exact Below.refl _ _ | with_reducible assumption | refine Below.drew ?_ | refine Below.setCell ?_ (by first | exact Nat.le_refl _ | omega | (simp; done) | (simp; omega)) _ | refine Below.alloc ?_ (by first | exact Nat.le_refl _ | omega | (simp; done) | (simp; omega)) _ | refine Below.tr ?_ (Nat.le_refl _) (by assumption) | exact Below.refl _ _ | assumption))⟩
  · dsimp only at e hn
    have eb : ((to : Int) == p) = false := by simp; omega
    have HN := Lib.hid hn; clear hn
    go_enter Try.func25, Try.ntmps25
    go_wp2_with (go_at_call 14; refine (payMostN (h.below (by repeat (first | with_reducible exact Below.refl _ _ | with_reducible assumption | refine Below.drew ?_ | refine Below.setCell ?_ (by first | exact Nat.le_refl _ | omega | (simp; done) | (simp; omega)) _ | refine Below.alloc ?_ (by first | exact Nat.le_refl _ | omega | (simp; done) | (simp; omega)) _ | refine Below.tr ?_ (Nat.le_refl _) (by assumption) | exact Below.refl _ _ | assumption))) p to s (by omega) (by omega) HN.out).mono ?_; rintro e w1 ⟨rfl, hb1⟩)
    go_ret
    exact ⟨rfl, (by repeat (first | with_reducible exact Below.refl _ _ | with_reducible assumption | refine Below.drew ?_ | refine Below.setCell ?_ (by first | exact Nat.le_refl _ | omega | (simp; done) | (simp; omega)) _ | refine Below.alloc ?_ (by first | exact Nat.le_refl _ | omega | (simp; done) | (simp; omega)) _ | refine Below.tr ?_ (Nat.le_refl _) (by assumption) | exact Below.refl _ _ | assumption))⟩

/-- how much is paid for by what may be given -/
def FitsIs (A : Ledger) (o : Offer) (taker : Nat) (most n : Int) : Prop := ∃ g, MostIs A taker o.owner o.buy g ∧ n = fitsI (min (min most g) 1099511627776) o.num.toNat o.den.toNat
def small (o : Offer) : Prop := o.num < 8388608 ∧ o.den < 8388608
theorem fits_bd {n : Int} {a b : Nat} : 0 ≤ fitsI n a b ∧ fitsI n a b ≤ 1099511627776 := by
  unfold fitsI
  have := Int.natCast_nonneg (n.toNat * b / a)
  omega
theorem fits_ex {w : World} {b m : Nat} {A : Ledger} (h : LedgerAt w b m A) (o : Offer) (taker : Nat) (most : Int) (ho : o.owner < 256) (ht : taker < 256) : ∃ n, FitsIs A o taker most n ∧ 0 ≤ n ∧ n ≤ 1099511627776 := by
  obtain ⟨g, hg, h1, h2⟩ := most_ex h taker o.owner o.buy ht ho
  exact ⟨_, ⟨g, hg, rfl⟩, fits_bd.1, fits_bd.2⟩
theorem trade_fits {w : World} {b m : Nat} {A : Ledger} (h : LedgerAt w b m A) (bb : Nat) (o : Offer) (HD : small o ∨ DivHigh) (hmay : Offer.may o = true) (taker to : Nat) (want most : Int) (ht : taker < 256) (hm : 1 ≤ most ∧ most ≤ 9223372036854775807) {n : Int} (hn : FitsIs A o taker most n) :
    Calls Try.prog 26 #[tradeV b bb o taker to want most] w (IntPost w n) := by
  unfold tradeV
  have hmr : mayR o.num o.den = true := by unfold Offer.may at hmay; simp only [Bool.and_eq_true] at hmay; exact hmay.2
  have hmp : o.owner ≤ 16 := by unfold Offer.may at hmay; simp only [Bool.and_eq_true, decide_eq_true_eq] at hmay; omega
  have hsp := mayR_spec hmr
  obtain ⟨g, hg, rfl⟩ := hn
  have hg01 : 0 ≤ g ∧ g ≤ 9223372036854775807 := by
    obtain ⟨g', hg', h1, h2⟩ := most_ex h taker o.owner o.buy ht (by omega)
    rw [hg.unique hg']; exact ⟨h1, h2⟩
  obtain ⟨sq, p, s, y, left, a, d⟩ := o
  dsimp only at *
  obtain ⟨a', rfl⟩ := Int.eq_ofNat_of_zero_le (show 0 ≤ a by omega)
  obtain ⟨d', rfl⟩ := Int.eq_ofNat_of_zero_le (show 0 ≤ d by omega)
  obtain ⟨v, hv⟩ : ∃ v : Nat, min (min most g) 1099511627776 = v := Int.eq_ofNat_of_zero_le (by omega)
  have hfit : Hid (∀ (W : World), Calls Try.prog 45 #[.int .i64 v, .agg #[.int .i64 a', .int .i64 d']] W (IntPost W (fitsI v a' d'))) := fun W =>
    ratsFits_ok v a' d' (fun hbig => by
      rcases HD with hs | hd
      · exfalso
        have h1 : d' ≤ 8388607 := by have := hs.2; dsimp only at this; omega
        have := Nat.mul_le_mul (show v ≤ 1099511627776 by omega) h1
        omega
      · exact hd) hmr (by omega) W
  rw [hv, Int.toNat_natCast, Int.toNat_natCast]
  have HV := Lib.hid hv
  have HG := Lib.hid hg
  clear hmay hmr HD hsp hg hv
  go_enter Try.func26, Try.ntmps26
  go_wp2
  refine wp_region_later (by kernel_rfl) (by kernel_rfl) ?_; (repeat (go_big_quiet_step ((go_at_call 14; exact Calls.later (payMostN (h.below (Below.tr (by repeat (first | with_reducible exact Below.refl _ _ | with_reducible assumption | refine Below.drew ?_ | refine Below.setCell ?_ (by first | exact Nat.le_refl _ | omega | (simp; done) | (simp; omega)) _ | refine Below.alloc ?_ (by first | exact Nat.le_refl _ | omega | (simp; done) | (simp; omega)) _ | refine Below.tr ?_ (Nat.le_refl _) (by assumption) | exact Below.refl _ _ | assumption)) (Nat.le_refl _) (Later.b _))) _ _ _ (by omega) (by omega) HG.out))))); refine wpQuiet_nil ?_; rintro _ ⟨W, rfl⟩
  have hWb := W.b
  have hfit2 : Hid (∀ (X : Int) (W' : World), X = v → Calls Try.prog 45 #[.int .i64 X, .agg #[.int .i64 a', .int .i64 d']] W' (IntPost W' (fitsI v a' d'))) := fun X W' hX => by
    subst hX; exact hfit.out W'
  clear hfit
  go_wp2_with (go_at_call 45; refine (hfit2.out _ _ (by have := HV.out; omega)).mono ?_; rintro e w2 ⟨rfl, hb2⟩)
  all_goals
    go_ret
    exact ⟨rfl, (by repeat (first | with_reducible exact Below.refl _ _ | with_reducible assumption | refine Below.drew ?_ | refine Below.setCell ?_ (by first | exact Nat.le_refl _ | omega | (simp; done) | (simp; omega)) _ | refine Below.alloc ?_ (by first | exact Nat.le_refl _ | omega | (simp; done) | (simp; omega)) _ | refine Below.tr ?_ (Nat.le_refl _) (by assumption) | exact Below.refl _ _ | assumption))⟩
end Go.Proofs.Ytelcdiceongfdaa
end
section
namespace Go.Proofs.Ytelcdiceongfdaa
open Go.RowKit Go.BigFrame
set_option maxRecDepth 100000

def leastI (x1 x2 x3 x4 : Int) : Int := max (min (min (min (min 1099511627776 x1) x2) x3) x4) 0
def leastK (x1 x2 x3 x4 : Int) : Nat → Int
  | 0 => 1099511627776
  | 1 => min 1099511627776 x1
  | 2 => min (min 1099511627776 x1) x2
  | 3 => min (min (min 1099511627776 x1) x2) x3
  | _ => min (min (min (min 1099511627776 x1) x2) x3) x4
set_option maxHeartbeats 400000 in
theorem least_4 {w : World} {g c : Nat} {v : Value} {x1 x2 x3 x4 : Int}
    (hc : ∀ (j : Nat) (u : Value), (#[Value.func (.func 23) #[v] #[], .func (.func 24) #[v] #[], .func (.func 25) #[v] #[], .func (.func 26) #[v] #[]] : Array Value)[j]? = some u → w.cell? ⟨g, j, none⟩ = some u) (hg : g < w.heap.size)
    (h1 : ∀ W, Below w.heap.size w W → Calls Try.prog 23 #[v] W (IntPost W x1)) (h2 : ∀ W, Below w.heap.size w W → Calls Try.prog 24 #[v] W (IntPost W x2))
    (h3 : ∀ W, Below w.heap.size w W → Calls Try.prog 25 #[v] W (IntPost W x3)) (h4 : ∀ W, Below w.heap.size w W → Calls Try.prog 26 #[v] W (IntPost W x4)) :
    Calls Try.prog 22 #[.slice (some ⟨g, 0, none⟩) 4 c] w (IntPost w (leastI x1 x2 x3 x4)) := by
  have HC := Lib.hid hc; have H1 := Lib.hid h1; have H2 := Lib.hid h2; have H3 := Lib.hid h3; have H4 := Lib.hid h4
  clear hc h1 h2 h3 h4
  go_enter Try.func22, Try.ntmps22
  go_wp2
  go_loopg [3, 8] 4 (fun gg s3 s8 wr => ∃ i : Nat, i ≤ 4 ∧ 4 - i ≤ gg ∧ s8 = .int .i64 i ∧ s3 = .int .i64 (leastK x1 x2 x3 x4 i) ∧ Aside (Below w.heap.size w wr))
  case atStart => exact ⟨0, by omega, by omega, rfl, rfl, Below.refl _ _⟩
  case round =>
    obtain ⟨i, hi, hgg, rfl, rfl, BW⟩ := hrel
    have q : ∀ j u, (#[Value.func (.func 23) #[v] #[], .func (.func 24) #[v] #[], .func (.func 25) #[v] #[], .func (.func 26) #[v] #[]] : Array Value)[j]? = some u → wr.cell? ⟨g, j, none⟩ = some u := fun j u hu => (BW.out.cell (p := ⟨g, j, none⟩) hg).trans (HC.out j u hu)
    have q0 := q 0 _ rfl
    have q1 := q 1 _ rfl
    have q2 := q 2 _ rfl
    have q3 := q 3 _ rfl
    have hgl : g < wr.heap.size := Nat.lt_of_lt_of_le hg BW.out.size
    clear q
    have hcase : i = 0 ∨ i = 1 ∨ i = 2 ∨ i = 3 ∨ i = 4 := by omega
    rcases hcase with rfl | rfl | rfl | rfl | rfl
    · go_wp2_with (go_at_call 23; refine (H1.out _ BW.out).mono ?_; rintro e w1 ⟨rfl, hb1⟩)
      all_goals
        go_roundg 3
        case measure => omega
        case rel => exact ⟨1, by omega, by omega, rfl, by simp only [leastK] at *; congr 1; omega, BW.out.trans (hb1.mono BW.out.size)⟩
    · go_wp2_with (go_at_call 24; refine (H2.out _ BW.out).mono ?_; rintro e w1 ⟨rfl, hb1⟩)
      all_goals
        go_roundg 2
        case measure => omega
        case rel => exact ⟨2, by omega, by omega, rfl, by simp only [leastK] at *; congr 1; omega, BW.out.trans (hb1.mono BW.out.size)⟩
    · go_wp2_with (go_at_call 25; refine (H3.out _ BW.out).mono ?_; rintro e w1 ⟨rfl, hb1⟩)
      all_goals
        go_roundg 1
        case measure => omega
        case rel => exact ⟨3, by omega, by omega, rfl, by simp only [leastK] at *; congr 1; omega, BW.out.trans (hb1.mono BW.out.size)⟩
    · go_wp2_with (go_at_call 26; refine (H4.out _ BW.out).mono ?_; rintro e w1 ⟨rfl, hb1⟩)
      all_goals
        go_roundg 0
        case measure => omega
        case rel => exact ⟨4, by omega, by omega, rfl, by simp only [leastK] at *; congr 1; omega, BW.out.trans (hb1.mono BW.out.size)⟩
    · go_wp2
      all_goals
        go_ret
        exact ⟨ret_int (by unfold leastI; simp only [leastK] at *; omega), BW.out⟩
end Go.Proofs.Ytelcdiceongfdaa
end
