/- The walk of paths.Short: the shortest way. -/
import Derived.Test.YtelcdiceongfdaaHops2
namespace Go.Proofs.Ytelcdiceongfdaa
open Go.RowKit Go.BigFrame
set_option maxRecDepth 100000

theorem pathsMay (p : Nat) (hp : p < 256) (w : World) :
    Calls Try.prog 81 #[.int .u8 p] w fun e w' => e = .returned (.bool (decide (1 ≤ p ∧ p ≤ 16))) ∧ w = w' := by
  by_cases h1 : 1 ≤ p
  · go_enter Try.func81, Try.ntmps81
    go_wp2
    go_ret
    exact ⟨ret_bool (by rw [Bool.eq_iff_iff]; simp [h1] <;> omega), rfl⟩
  · go_enter Try.func81, Try.ntmps81
    go_wp2
    go_ret
    exact ⟨ret_bool (by simp <;> omega), rfl⟩

/-- a whole array, stored: the world behind it -/
theorem wpl_store_out' {ops : Array Oper} {Q : Exit → Act → World → Prop} {rest : List Oper} {a : Act} {w : World} {dst : Option Tmp} {t : TypeId} {pos : String} {after : Array Edge} {x v : Operand} {b : Nat} {old out : Nat → Nat}
    (hg : OutAt w b old) (hx : a.eval x = .pointer (some ⟨b, 0, none⟩)) (hv : a.eval v = .agg (outArr out)) (h : ∀ w', OutAt w' b out → Chg [b] w w' → w'.heap.size = w.heap.size → wpList Try.prog ops Q rest (a.put dst undef) w') :
    wpList Try.prog ops Q ({ dst, op := .store 148 x v, type := t, pos, after, guard := none } :: rest) a w :=
  wpl_store_out hg hx hv (h _ (heap_setRow_same _ hg) ⟨rfl, rfl, rfl, by simp, fun k _ hn => by
    simp only [World.setRow, Array.getElem?_modify]
    rw [if_neg (by intro e; exact hn (by simp [e]))]⟩ (by simp))
theorem outZero_new (w : World) : OutAt (w.alloc (.cells #[.int .i64 0, .int .i64 0, .int .i64 0, .int .i64 0, .int .i64 0, .int .i64 0, .int .i64 0, .int .i64 0, .int .i64 0, .int .i64 0, .int .i64 0, .int .i64 0, .int .i64 0, .int .i64 0, .int .i64 0, .int .i64 0, .int .i64 0] 148)) w.heap.size (fun _ => 0) := by
  show _ = _
  rw [outArr_zero]
  exact alloc_new w _

def NonePost (w : World) (e : Ending) (w' : World) : Prop := e = .returned (.slice none 0 0) ∧ Below w.heap.size w w'
theorem short_bad {w : World} (b f t : Nat) (hf : f < 256) (ht : t < 256) (h : ¬ ((1 ≤ f ∧ f ≤ 16) ∧ (1 ≤ t ∧ t ≤ 16) ∧ f ≠ t)) :
    Calls Try.prog 77 #[.pointer (some ⟨b, 0, none⟩), .int .u8 f, .int .u8 t] w (NonePost w) := by
  by_cases h1 : 1 ≤ f ∧ f ≤ 16
  · have e1 := Lib.hid (decide_eq_true h1)
    by_cases h2 : 1 ≤ t ∧ t ≤ 16
    · have e2 := Lib.hid (decide_eq_true h2)
      have h3 : f = t := by omega
      subst h3
      go_enter Try.func77, Try.ntmps77
      go_wp2_with (go_at_call 81; refine (pathsMay _ (by omega) _).mono ?_; rintro e w' ⟨rfl, rfl⟩; first | rw [e1.out] | rw [e2.out])
      go_ret
      exact ⟨rfl, (by repeat (first | with_reducible exact Below.refl _ _ | with_reducible assumption | refine Below.drew ?_ | refine Below.setCell ?_ (by first | exact Nat.le_refl _ | omega | (simp; done) | (simp; omega)) _ | refine Below.alloc ?_ (by first | exact Nat.le_refl _ | omega | (simp; done) | (simp; omega)) _ | refine Below.tr ?_ (Nat.le_refl _) (by assumption) | exact Below.refl _ _ | assumption))⟩
    · have e2 := Lib.hid (decide_eq_false h2)
      go_enter Try.func77, Try.ntmps77
      go_wp2_with (go_at_call 81; refine (pathsMay _ (by omega) _).mono ?_; rintro e w' ⟨rfl, rfl⟩; first | rw [e1.out] | rw [e2.out])
      go_ret
      exact ⟨rfl, (by repeat (first | with_reducible exact Below.refl _ _ | with_reducible assumption | refine Below.drew ?_ | refine Below.setCell ?_ (by first | exact Nat.le_refl _ | omega | (simp; done) | (simp; omega)) _ | refine Below.alloc ?_ (by first | exact Nat.le_refl _ | omega | (simp; done) | (simp; omega)) _ | refine Below.tr ?_ (Nat.le_refl _) (by assumption) | exact Below.refl _ _ | assumption))⟩
  · have e1 := Lib.hid (decide_eq_false h1)
    go_enter Try.func77, Try.ntmps77
    go_wp2_with (go_at_call 81; refine (pathsMay _ (by omega) _).mono ?_; rintro e w' ⟨rfl, rfl⟩; first | rw [e1.out])
    go_ret
    exact ⟨rfl, (by repeat (first | with_reducible exact Below.refl _ _ | with_reducible assumption | refine Below.drew ?_ | refine Below.setCell ?_ (by first | exact Nat.le_refl _ | omega | (simp; done) | (simp; omega)) _ | refine Below.alloc ?_ (by first | exact Nat.le_refl _ | omega | (simp; done) | (simp; omega)) _ | refine Below.tr ?_ (Nat.le_refl _) (by assumption) | exact Below.refl _ _ | assumption))⟩

theorem short_far {w : World} {b : Nat} {G : Caps} (h : GraphAt w b G) (f t : Nat) (hf : 1 ≤ f ∧ f ≤ 16) (ht : 1 ≤ t ∧ t ≤ 16) (hft : f ≠ t) (hd : dist G t f = 17) :
    Calls Try.prog 77 #[.pointer (some ⟨b, 0, none⟩), .int .u8 f, .int .u8 t] w (NonePost w) := by
  have e1 := Lib.hid (decide_eq_true hf)
  have e2 := Lib.hid (decide_eq_true ht)
  have hne : ((f : Int) == t) = false := by simp; omega
  have HD := Lib.hid hd; clear hd
  go_enter Try.func77, Try.ntmps77
  go_wp2_with (first | (go_at_call 81; refine (pathsMay _ (by omega) _).mono ?_; rintro e w' ⟨rfl, rfl⟩; first | rw [e1.out] | rw [e2.out]) | (go_at_call 82; refine (hops_any (h.below (by repeat (first | with_reducible exact Below.refl _ _ | with_reducible assumption | refine Below.drew ?_ | refine Below.setCell ?_ (by first | exact Nat.le_refl _ | omega | (simp; done) | (simp; omega)) _ | refine Below.alloc ?_ (by first | exact Nat.le_refl _ | omega | (simp; done) | (simp; omega)) _ | refine Below.tr ?_ (Nat.le_refl _) (by assumption) | exact Below.refl _ _ | assumption))) t ht).mono ?_; rintro e w1 ⟨rfl, hb1⟩) | (refine wpl_store_out' (b := w1.heap.size) (old := fun _ => 0) (outZero_new w1) rfl rfl ?_; intro w2 hO2 hC2 hz2; have hc2 := hO2.cell hf.2; rw [HD.out] at hc2; have HZ := Lib.hid hz2; clear hz2))
  go_ret
  refine ⟨rfl, hb1.trans (Chg.below (Chg.trans (S := []) (Chg.of_below ((Below.refl _ _).alloc (Nat.le_refl _) _)) hC2 (fun x hx hlt => by simp at hx; omega)) |>.mono hb1.size)⟩

theorem run_makeWay : ∀ (d : Nat), d < 16 → ∀ (w : World), (Instr.makeSlice 118 (.int .i64 1) (.int .i64 ((d : Int) + 1))).run Try.prog w = .ok (.slice (some ⟨w.heap.size, 0, none⟩) 1 (d + 1)) (w.alloc (.cells (Array.replicate (d + 1) (.int .u8 0)) 23))
  | 0, _, w => by kernel_rfl
  | 1, _, w => by kernel_rfl
  | 2, _, w => by kernel_rfl
  | 3, _, w => by kernel_rfl
  | 4, _, w => by kernel_rfl
  | 5, _, w => by kernel_rfl
  | 6, _, w => by kernel_rfl
  | 7, _, w => by kernel_rfl
  | 8, _, w => by kernel_rfl
  | 9, _, w => by kernel_rfl
  | 10, _, w => by kernel_rfl
  | 11, _, w => by kernel_rfl
  | 12, _, w => by kernel_rfl
  | 13, _, w => by kernel_rfl
  | 14, _, w => by kernel_rfl
  | 15, _, w => by kernel_rfl
  | n + 16, h, _ => absurd h (by omega)
theorem wpl_make_way {ops : Array Oper} {Q : Exit → Act → World → Prop} {rest : List Oper} {a : Act} {w : World} {dst : Option Tmp} {t : TypeId} {pos : String} {after : Array Edge} {l c : Operand} {d : Nat}
    (hd : d < 16) (hl : a.eval l = .int .i64 1) (hc : a.eval c = .int .i64 ((d : Int) + 1)) (h : wpList Try.prog ops Q rest (a.put dst (.slice (some ⟨w.heap.size, 0, none⟩) 1 (d + 1))) (w.alloc (.cells (Array.replicate (d + 1) (.int .u8 0)) 23))) :
    wpList Try.prog ops Q ({ dst, op := .makeSlice 118 l c, type := t, pos, after, guard := none } :: rest) a w := by
  unfold wpList
  rw [if_pos (by simp [Region.wanted])]
  left
  unfold Oper.wp
  simp only [execOp, hl, hc, Sem.run_bind, run_makeWay d hd, Result.andThen_ok]
  exact h

theorem wayFrom_head (G : Caps) (to : Nat) (d c : Nat) : wayFrom G to d c = [c] ++ (wayFrom G to d c).tail := by
  cases d <;> rfl
/-- a way: a row of the call's own -/
def WayPost (w : World) (l : List Nat) (e : Ending) (w' : World) : Prop :=
  ∃ g c, e = .returned (.slice (some ⟨g, 0, none⟩) l.length c) ∧ Below w.heap.size w w' ∧ w.heap.size ≤ g ∧ g < w'.heap.size ∧ ∀ (j : Nat) p, l[j]? = some p → w'.cell? ⟨g, j, none⟩ = some (.int .u8 p)

theorem ownsRow_later {w w' : World} {base : Nat} {e : TypeId} {size : Nat} {v : Value} {n : Nat} {xs : List Value} (h : w.ownsRow base e size v n xs) (hb : Below w.heap.size w w') : w'.ownsRow base e size v n xs := by
  refine ⟨h.1, ?_⟩
  rcases h.2 with h0 | ⟨g, cap, cur, e1, e2, hg, e3⟩
  · exact .inl h0
  · exact .inr ⟨g, cap, cur, e1, e2, (hb.block g (lt_of_block hg)).trans hg, e3⟩

set_option maxHeartbeats 1000000 in
theorem short_way {w : World} {b : Nat} {G : Caps} (h : GraphAt w b G) (f t : Nat) (hf : 1 ≤ f ∧ f ≤ 16) (ht : 1 ≤ t ∧ t ≤ 16) (hft : f ≠ t) (hd : dist G t f ≠ 17) :
    Calls Try.prog 77 #[.pointer (some ⟨b, 0, none⟩), .int .u8 f, .int .u8 t] w (WayPost w (wayFrom G t (dist G t f) f)) := by
  obtain ⟨i0, hi, iz0, iz1, iz2⟩ := info_parts infoParty
  have e1 := Lib.hid (decide_eq_true hf)
  have e2 := Lib.hid (decide_eq_true ht)
  have hne : ((f : Int) == t) = false := by simp; omega
  have hlt := (isDist_dist hd).lt hf
  obtain ⟨d, hd0⟩ : ∃ d, dist G t f = d := ⟨_, rfl⟩
  rw [hd0] at hlt ⊢
  have hd1 : ((d : Int) == 17) = false := by simp; omega
  have HD := Lib.hid hd0; clear hd0 hd
  go_enter Try.func77, Try.ntmps77
  go_wp2_with (first | (go_at_call 81; refine (pathsMay _ (by omega) _).mono ?_; rintro e w' ⟨rfl, rfl⟩; first | rw [e1.out] | rw [e2.out]) | (go_at_call 82; refine (hops_any (h.below (by repeat (first | with_reducible exact Below.refl _ _ | with_reducible assumption | refine Below.drew ?_ | refine Below.setCell ?_ (by first | exact Nat.le_refl _ | omega | (simp; done) | (simp; omega)) _ | refine Below.alloc ?_ (by first | exact Nat.le_refl _ | omega | (simp; done) | (simp; omega)) _ | refine Below.tr ?_ (Nat.le_refl _) (by assumption) | exact Below.refl _ _ | assumption))) t ht).mono ?_; rintro e w1 ⟨rfl, hb1⟩) | (refine wpl_store_out' (b := w1.heap.size) (old := fun _ => 0) (outZero_new w1) rfl rfl ?_; intro w2 hO2 hC2 hz2; have hc2 := hO2.cell hf.2; rw [HD.out] at hc2; have HZ := Lib.hid hz2; clear hz2) | refine wpl_make_way (d := d) (by omega) rfl rfl ?_)
  have hS1 : w.heap.size + 0 ≤ w1.heap.size := hb1.size
  have hz2 : w2.heap.size = w1.heap.size + 1 := by have := HZ.out; simpa using this
  have hB2 : Below w.heap.size w w2 := hb1.trans (Chg.below (Chg.trans (S := []) (Chg.of_below ((Below.refl _ _).alloc (Nat.le_refl _) _)) hC2 (fun x hx hlt => by simp at hx; omega)) |>.mono hb1.size)
  obtain ⟨W3, hW3⟩ : ∃ W3, w2.alloc (.cells ((Array.replicate (d + 1) (.int .u8 0)).setIfInBounds 0 (.int .u8 f)) 23) = W3 := ⟨_, rfl⟩
  have AB : Aside (Below w.heap.size w W3) := (show Below _ _ _ by rw [← hW3]; exact hB2.alloc (by omega) _)
  have AO : Aside (OutAt W3 w1.heap.size (dist G t)) := (show OutAt _ _ _ by rw [← hW3]; exact (Below.heap_alloc _ _ _ (by omega)).trans hO2)
  have AQ : Aside (W3.ownsRow w2.heap.size 23 1 (.slice (some ⟨w2.heap.size, 0, none⟩) 1 (d + 1)) 1 [pval f]) := (show World.ownsRow _ _ _ _ _ _ _ by
    rw [← hW3]
    refine ⟨rfl, .inr ⟨w2.heap.size, d + 1, _, rfl, Nat.le_refl _, alloc_new _ _, by omega, by simp only [maxLen]; omega, by simp, ?_⟩⟩
    simp [pval, List.replicate_succ])
  have AS : Aside (w2.heap.size ≤ W3.heap.size) := (show _ ≤ _ by rw [← hW3]; simp)
  have HS : Aside (w2.heap.size = w1.heap.size + 1) := hz2
  have HS1 : Aside (w.heap.size ≤ w1.heap.size) := hS1
  have hw1 : w1.heap.size < w2.heap.size := by omega
  have hw0 : w.heap.size ≤ w2.heap.size := by omega
  have hbw := h.lt
  rw [hW3]
  clear hW3 hB2 hz2 HZ hS1 hO2 hC2 hc2 hb1
  go_loopg [8, 9, 10] 16 (fun gg s8 s9 s10 wr => ∃ (L : List Nat) (c e : Nat), s9 = .int .u8 c ∧ e ≤ gg ∧ e ≤ 15 ∧ (1 ≤ c ∧ c ≤ 16) ∧ Aside (wr.ownsRow w2.heap.size 23 1 s8 L.length (L.map pval)) ∧ Aside (L.length + e = d + 1) ∧ Aside (dist G t c = e) ∧ Aside (wayFrom G t d f = L ++ (wayFrom G t e c).tail) ∧ Aside (Below w.heap.size w wr) ∧ Aside (OutAt wr w1.heap.size (dist G t)) ∧ Aside (w2.heap.size ≤ wr.heap.size))
  case atStart => exact ⟨[f], f, d, rfl, by omega, by omega, hf, AQ, (show _ = _ by simp; omega), HD.out, (show _ = _ from wayFrom_head _ _ _ _), AB, AO, AS⟩
  case round =>
    obtain ⟨L, c, e, rfl, hgg, he15, hc16, RQ, RL, RD, RW, RB, RO, RS⟩ := hrel
    by_cases hct : c = t
    · have he0 : e = 0 := by rw [← RD.out]; exact dist_zero.2 hct
      have hL : wayFrom G t d f = L := by
        have := RW.out
        rw [he0] at this
        simpa [wayFrom] using this
      have HL := Lib.hid hL; clear hL
      have hneq : ((c : Int) != t) = false := by simp; omega
      obtain ⟨ad, cap, hv⟩ := ownsRow_slice RQ.out
      subst hv
      clear hct
      go_wp2
      go_ret
      rcases ownsRow_clip RQ.out with ⟨h1, h2⟩ | ⟨g, h1, h2, h3, h4⟩
      · exfalso
        have := RL.out
        omega
      · subst h1
        refine ⟨g, cap, by rw [HL.out]; rfl, RB.out, by omega, h3, fun j p hp => ?_⟩
        rw [HL.out] at hp
        exact h4 j _ (by rw [List.getElem?_map, hp]; rfl)
    · have hneq : ((c : Int) != t) = true := by rw [bne_iff_ne]; omega
      obtain ⟨e', he⟩ : ∃ e', e = e' + 1 := ⟨e - 1, by
        have : e ≠ 0 := fun h0 => hct (dist_zero.1 (RD.out.trans h0))
        omega⟩
      subst he
      have hN := next_spec (G := G) (to := t) (c := c) (d := e') RD.out (by omega)
      obtain ⟨n, hn⟩ : ∃ n, next G t c = n := ⟨_, rfl⟩
      rw [hn] at hN
      have Hn := Lib.hid hn; clear hn
      obtain ⟨N1, N2, N3, N4⟩ := hN
      have HN1 := Lib.hid N1; have HN2 := Lib.hid N2; have HN4 := Lib.hid N4
      clear N1 N2 N4
      obtain ⟨wo, rfl⟩ : ∃ wo : World, wo = wr := ⟨_, rfl⟩
      obtain ⟨gko, rfl⟩ : ∃ go : Nat, go = gk := ⟨_, rfl⟩
      obtain ⟨ad, cap, hv⟩ := ownsRow_slice RQ.out
      subst hv
      go_wp2
      go_loopg [9, 10] 17 (fun gg s9 s10 wr => ∃ p : Nat, (1 ≤ p ∧ p ≤ n) ∧ 17 - p ≤ gg ∧ s9 = .int .u8 c ∧ s10 = .int .u8 p ∧ Aside (wr.ownsRow w2.heap.size 23 1 (.slice ad L.length cap) L.length (L.map pval)) ∧ Aside (Below w.heap.size w wr) ∧ Aside (OutAt wr w1.heap.size (dist G t)) ∧ Aside (w2.heap.size ≤ wr.heap.size))
      case atStart => exact ⟨1, by omega, by omega, rfl, rfl, RQ, RB, RO, RS⟩
      case round =>
        obtain ⟨p, hp, hg2, rfl, rfl, TQ, TB, TO, TS⟩ := hrel
        have hltz : (p : Int) < 17 := by omega
        have hcp := TO.out.cell (p := p) (by omega)
        have hcc := TO.out.cell (p := c) hc16.2
        rw [RD.out] at hcc
        have hol := TO.out.lt
        have hGr := (h.below TB.out)
        have hGl := hGr.lt
        obtain ⟨v, hv⟩ : ∃ v, capOf G c p = v := ⟨_, rfl⟩
        have hcap : Hid (∀ W, GraphAt W b G → Calls Try.prog 78 #[.pointer (some ⟨b, 0, none⟩), .int .u8 c, .int .u8 p] W fun e w' => e = .returned (.int .i64 v) ∧ W = w') := fun W hW => by
          rw [← hv]; exact cap_any hW c p (by omega) (by omega)
        have hf := TO.out.free
        by_cases hpn : p = n
        · have hq : dist G t p = e' := by rw [hpn]; exact HN1.out
          rw [hq] at hcp
          have hpos : 0 < v := by
            have := HN2.out
            rw [← hpn] at this
            rw [← hv]
            exact of_decide_eq_true this
          have Hq : Hid (dist G t p = e') := hq
          have Hpn : Hid (p = n) := hpn
          have Hv := Lib.hid hv; clear hv hq hpn
          go_wp2
          refine wp_region_later (by kernel_rfl) (by kernel_rfl) ?_; (repeat (go_big_quiet_step ((go_at_call 78; exact Calls.later_same (hcap.out _ (hGr.below (Later.b _))))))); refine wpQuiet_nil ?_; rintro _ ⟨W, rfl⟩
          have hWb := W.b
          have RQw := ownsRow_later TQ.out hWb
          have hWB : Below w.heap.size w W.w := TB.out.trans (hWb.mono TB.out.size)
          have hWS : w2.heap.size ≤ W.w.heap.size := Nat.le_trans TS.out hWb.size
          have hLl : L.length ≤ 16 := by have := RL.out; omega
          go_wp2_with (first | (at_builtin; refine wpList_append_own _ rfl _ _ 118 rfl w2.heap.size 23 i0 _ 1 1 Try.underlying118 hi iz0 iz1 iz2 rfl (by decide) _ _ _ rfl (RQw.alloc _) ⟨W.w.heap.size, 0, none⟩ 1 1 [.int .u8 p] rfl rfl ?c1 ?c2 ?c3 ?c4 ?c5 ?_))
          case c1 => exact World.news_of_block (alloc_new _ _)
          case c2 => simp [Value.oneCell']
          case c3 => simp only [maxLen]; omega
          case c4 => omega
          case c5 => simp; omega
          intro v' w' hown hgrow _
          have HO : Aside (w'.ownsRow w2.heap.size 23 1 v' (L ++ [p]).length ((L ++ [p]).map pval)) := by
            show World.ownsRow _ _ _ _ _ _ _
            rw [List.length_append, List.map_append]
            exact hown
          have hg2 : Below w2.heap.size W.w w' := ((Below.refl w2.heap.size W.w).alloc hWS (.cells #[.int .u8 p] 23)).grown hgrow (by simp; omega) (fun k e => (RQw.lt k e).1)
          have HB : Aside (Below w.heap.size w w') := hWB.trans ⟨hg2.os, hg2.tape, hg2.output, hg2.size, fun k hk => hg2.block k (by omega)⟩
          have HO1 : Aside (OutAt w' w1.heap.size (dist G t)) := (hg2.block _ hw1).trans ((hWb.block _ hol).trans TO.out)
          have HS2 : Aside (w2.heap.size ≤ w'.heap.size) := Nat.le_trans hWS hg2.size
          have HW : Aside (wayFrom G t d f = (L ++ [p]) ++ (wayFrom G t e' p).tail) := (show _ = _ by
            rw [RW.out]
            show L ++ wayFrom G t e' (next G t c) = _
            rw [Hn.out, ← Hpn.out, List.append_assoc, ← wayFrom_head])
          have HD2 : Aside (dist G t p = e') := Hq.out
          have HL2 : Aside ((L ++ [p]).length + e' = d + 1) := (show _ = _ by have := RL.out; simp; omega)
          clear hown hgrow hg2
          go_wp2
          go_roundg e'
          case measure => omega
          case rel => exact ⟨L ++ [p], p, e', rfl, by omega, by omega, by omega, HO, HL2, HD2, HW, HB, HO1, HS2⟩
        · have hpn2 : p < n := by omega
          have hhop := HN4.out p hpn2
          by_cases hq : dist G t p = e'
          · have hpos : ¬ 0 < v := by
              intro hp0
              have : hop G t c p = true := by
                simp only [hop, Bool.and_eq_true, decide_eq_true_eq]
                exact ⟨by rw [hq, RD.out], decide_eq_true (by rw [hv]; exact hp0)⟩
              rw [this] at hhop; cases hhop
            rw [hq] at hcp
            have Hv := Lib.hid hv; clear hv hq hpn hhop
            go_wp2
            refine wp_region_later (by kernel_rfl) (by kernel_rfl) ?_; (repeat (go_big_quiet_step ((go_at_call 78; exact Calls.later_same (hcap.out _ (hGr.below (Later.b _))))))); refine wpQuiet_nil ?_; rintro _ ⟨W, rfl⟩
            have hWb := W.b
            go_wp2
            go_roundg (17 - (p + 1))
            case measure => omega
            case rel => exact ⟨p + 1, by omega, by omega, rfl, by go_num, ownsRow_later TQ.out hWb, TB.out.trans (hWb.mono TB.out.size), TO.out.below hWb hol, Nat.le_trans TS.out hWb.size⟩
          · obtain ⟨q, hq2⟩ : ∃ q, dist G t p = q := ⟨_, rfl⟩
            rw [hq2] at hq hcp
            have hqb : ((q : Int) == (e' : Int)) = false := by simp; omega
            have Hv := Lib.hid hv; have Hq2 := Lib.hid hq2; clear hv hq hpn hhop hq2
            go_wp2
            refine wp_region_later (by kernel_rfl) (by kernel_rfl) ?_; (repeat (go_big_quiet_step (fail))); refine wpQuiet_nil ?_; rintro _ ⟨W, rfl⟩
            have hWb := W.b
            go_wp2
            go_roundg (17 - (p + 1))
            case measure => omega
            case rel => exact ⟨p + 1, by omega, by omega, rfl, by go_num, ownsRow_later TQ.out hWb, TB.out.trans (hWb.mono TB.out.size), TO.out.below hWb hol, Nat.le_trans TS.out hWb.size⟩
end Go.Proofs.Ytelcdiceongfdaa
