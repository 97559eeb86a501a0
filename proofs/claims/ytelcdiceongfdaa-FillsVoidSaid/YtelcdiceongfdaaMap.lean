/- The ledger's map in memory: what a look-up, a store, a delete do to it, in terms of the abstract ledger. -/
import Derived.Test.YtelcdiceongfdaaModel
import Derived.Test.YtelcdiceongfdaaTail
namespace Go.Proofs.Ytelcdiceongfdaa
open Go.RowKit
set_option maxRecDepth 100000

def kv (a b c : Nat) : Value := .agg #[.int .u8 a, .int .u8 b, .int .u8 c]
def vv (l d : Int) : Value := .agg #[.int .i64 l, .int .i64 d]
theorem kv_inj {a b c a' b' c' : Nat} : kv a b c = kv a' b' c' ↔ a = a' ∧ b = b' ∧ c = c' := by
  simp [kv]; omega

structure MapRep (es : Array MapEntry) (clk : Nat) (A : Ledger) : Prop where
  ent : ∀ e ∈ es.toList, ∃ a b c, e.key = kv a b c ∧ e.val = vv (A.lim a b c) (A.debt a b c) ∧ 0 < A.lim a b c
  all : ∀ a b c, 0 < A.lim a b c → ∃ e ∈ es.toList, e.key = kv a b c
  keys : es.toList.Pairwise (fun x y => x.key ≠ y.key)
  born : ∀ e ∈ es.toList, e.born < clk
  borns : es.toList.Pairwise (fun x y => x.born ≠ y.born)

/-- block m is a map that reads as the ledger's lines -/
def MapAt (w : World) (m : Nat) (A : Ledger) : Prop := ∃ es clk, w.heap[m]? = some (.map es clk) ∧ MapRep es clk A

theorem MapAt.lt {w : World} {m : Nat} {A : Ledger} (h : MapAt w m A) : m < w.heap.size := by
  obtain ⟨es, clk, h, _⟩ := h
  exact lt_of_block h

@[go_sem] theorem guardEnds : (Try.prog).eqGuardType (Try.prog).depth 87 = false := by kernel_rfl
theorem eqIn_ends (a b c a' b' c' : Nat) (w : World) : (Op.equalIn 10000 87 (kv a b c) (kv a' b' c')).run Try.prog w = .ok (decide (a = a' ∧ b = b' ∧ c = c')) w := by
  have u3 := Try.underlying23
  have a3 := Try.isAgg23
  have z3 := Try.sizeOf23
  have u4 := Try.underlying53
  have a4 := Try.isAgg53
  have z4 := Try.sizeOf53
  have hS : (Try.prog).underlying 87 = some (.struct ((Try.prog).fieldsOf 87)) := by kernel_rfl
  have hp : (Try.prog).stoodInHeld 87 = false := by kernel_rfl
  unfold kv
  rw [show (10000 : Nat) = 9999 + 1 from rfl, run_equalIn_agg w 9999 87 _ _ hS hp]
  simp only [Program.fieldsOf, Try.underlying87]
  go_simp
  by_cases h1 : a = a' <;> by_cases h2 : b = b' <;> by_cases h3 : c = c' <;> simp [h1, h2, h3] <;> omega

theorem equal_ends (a b c a' b' c' : Nat) (w : World) : (Op.equal 87 (kv a b c) (kv a' b' c')).run Try.prog w = .ok (decide (a = a' ∧ b = b' ∧ c = c')) w := eqIn_ends ..

theorem checkKey_ends (em : Bool) (a b c : Nat) (w : World) : (Instr.checkKey em 10000 87 (kv a b c)).run Try.prog w = .ok () w := by
  kernel_rfl

theorem findAsking_miss (a b c : Nat) (w : World) : ∀ (es : List MapEntry) (i : Nat), (∀ e ∈ es, ∃ x y z, e.key = kv x y z ∧ ¬ (a = x ∧ b = y ∧ c = z)) →
    (Instr.findAsking 87 (kv a b c) es i).run Try.prog w = .ok none w
  | [], i, _ => rfl
  | e :: es, i, h => by
    obtain ⟨x, y, z, hk, hn⟩ := h e List.mem_cons_self
    rw [Instr.findAsking, Sem.run_bind, hk, equal_ends, decide_eq_false hn]
    exact findAsking_miss a b c w es (i + 1) fun e he => h e (List.mem_cons_of_mem _ he)

theorem findAsking_hit (a b c : Nat) (w : World) (e : MapEntry) (post : List MapEntry) (he : e.key = kv a b c) : ∀ (pre : List MapEntry) (i : Nat), (∀ e ∈ pre, ∃ x y z, e.key = kv x y z ∧ ¬ (a = x ∧ b = y ∧ c = z)) →
    (Instr.findAsking 87 (kv a b c) (pre ++ e :: post) i).run Try.prog w = .ok (some (i + pre.length, e.val)) w
  | [], i, _ => by
    rw [List.nil_append, Instr.findAsking, Sem.run_bind, he, equal_ends, decide_eq_true ⟨rfl, rfl, rfl⟩]; rfl
  | x :: pre, i, h => by
    obtain ⟨p, q, r, hk, hn⟩ := h x List.mem_cons_self
    rw [List.cons_append, Instr.findAsking, Sem.run_bind, hk, equal_ends, decide_eq_false hn]
    have := findAsking_hit a b c w e post he pre (i + 1) fun e he => h e (List.mem_cons_of_mem _ he)
    rw [show i + (x :: pre).length = i + 1 + pre.length by simp; omega]
    exact this

theorem run_findKey (a b c : Nat) (es : List MapEntry) (w : World) : (Instr.findKey 87 (kv a b c) es).run Try.prog w = (Instr.findAsking 87 (kv a b c) es 0).run Try.prog w := by
  have hu := Try.underlying87
  unfold Instr.findKey
  rw [Sem.run_bind, run_underlying hu]
  cases es with
  | nil => rfl
  | cons e es => rfl


theorem MapRep.none_of {es : Array MapEntry} {clk : Nat} {A : Ledger} (R : MapRep es clk A) {a b c : Nat} (h : ¬ 0 < A.lim a b c) :
    ∀ e ∈ es.toList, ∃ x y z, e.key = kv x y z ∧ ¬ (a = x ∧ b = y ∧ c = z) := fun e he => by
  obtain ⟨x, y, z, hk, _, hp⟩ := R.ent e he
  exact ⟨x, y, z, hk, by rintro ⟨rfl, rfl, rfl⟩; exact h hp⟩

theorem MapRep.some_of {es : Array MapEntry} {clk : Nat} {A : Ledger} (R : MapRep es clk A) {a b c : Nat} (h : 0 < A.lim a b c) :
    ∃ pre e post, es.toList = pre ++ e :: post ∧ e.key = kv a b c ∧ e.val = vv (A.lim a b c) (A.debt a b c) ∧
      (∀ e ∈ pre, ∃ x y z, e.key = kv x y z ∧ ¬ (a = x ∧ b = y ∧ c = z)) ∧ (∀ e ∈ post, ∃ x y z, e.key = kv x y z ∧ ¬ (a = x ∧ b = y ∧ c = z)) := by
  obtain ⟨e, he, hk⟩ := R.all a b c h
  obtain ⟨pre, post, hl⟩ := List.append_of_mem he
  have hK := R.keys
  rw [hl, List.pairwise_append] at hK
  obtain ⟨x, y, z, hk', hv, _⟩ := R.ent e he
  have := kv_inj.1 (hk.symm.trans hk')
  obtain ⟨rfl, rfl, rfl⟩ := this
  refine ⟨pre, e, post, hl, hk, hv, fun e' he' => ?_, fun e' he' => ?_⟩
  · obtain ⟨x, y, z, hkx, _, _⟩ := R.ent e' (by rw [hl]; simp [he'])
    refine ⟨x, y, z, hkx, ?_⟩
    rintro ⟨rfl, rfl, rfl⟩
    exact hK.2.2 e' he' e List.mem_cons_self (hkx.trans hk.symm)
  · obtain ⟨x, y, z, hkx, _, _⟩ := R.ent e' (by rw [hl]; simp [he'])
    refine ⟨x, y, z, hkx, ?_⟩
    rintro ⟨rfl, rfl, rfl⟩
    exact (List.pairwise_cons.1 hK.2.1).1 e' he' (hk.trans hkx.symm)

theorem zero_owed (w : World) : (zeroValue 89).run Try.prog w = .ok (vv 0 0) w := by kernel_rfl
theorem und_map : (Try.prog).underlying 33 = some (.map 87 89) := Try.underlying33

theorem run_getObj_map {w : World} {m : Nat} {es : Array MapEntry} {clk : Nat} (h : w.heap[m]? = some (.map es clk)) : (getObj m).run Try.prog w = .ok (.map es clk) w := by
  simp [getObj, Sem.run, h]

theorem findKey_hit {es : Array MapEntry} {clk : Nat} {A : Ledger} (R : MapRep es clk A) (w : World) {a b c : Nat} (h : 0 < A.lim a b c) :
    ∃ pre e post, es.toList = pre ++ e :: post ∧ e.key = kv a b c ∧ e.val = vv (A.lim a b c) (A.debt a b c) ∧ (Instr.findKey 87 (kv a b c) es.toList).run Try.prog w = .ok (some (pre.length, vv (A.lim a b c) (A.debt a b c))) w ∧
      (∀ e ∈ pre, ∃ x y z, e.key = kv x y z ∧ ¬ (a = x ∧ b = y ∧ c = z)) ∧ (∀ e ∈ post, ∃ x y z, e.key = kv x y z ∧ ¬ (a = x ∧ b = y ∧ c = z)) := by
  obtain ⟨pre, e, post, hl, hk, hv, h1, h2⟩ := R.some_of h
  refine ⟨pre, e, post, hl, hk, hv, ?_, h1, h2⟩
  rw [run_findKey, hl, findAsking_hit a b c w e post hk pre 0 h1, hv, Nat.zero_add]
theorem findKey_miss {es : Array MapEntry} {clk : Nat} {A : Ledger} (R : MapRep es clk A) (w : World) {a b c : Nat} (h : ¬ 0 < A.lim a b c) :
    (Instr.findKey 87 (kv a b c) es.toList).run Try.prog w = .ok none w := by
  rw [run_findKey, findAsking_miss a b c w _ 0 (R.none_of h)]

/-- 'm[k]', 'v, ok := m[k]' -/
theorem run_lookup {w : World} {m : Nat} {A : Ledger} (h : MapAt w m A) (hA : A.WF) (a b c : Nat) :
    (Instr.lookup 33 (.map (some m)) (kv a b c) false).run Try.prog w = .ok (vv (A.lim a b c) (A.debt a b c)) w ∧
    (Instr.lookup 33 (.map (some m)) (kv a b c) true).run Try.prog w = .ok (.tuple #[vv (A.lim a b c) (A.debt a b c), .bool (decide (0 < A.lim a b c))]) w := by
  obtain ⟨es, clk, hm, R⟩ := h
  have hu := und_map
  by_cases h : 0 < A.lim a b c
  · obtain ⟨pre, e, post, _, _, _, hf, _⟩ := findKey_hit R w h
    constructor
    all_goals
      unfold Instr.lookup
      simp only [Sem.run_bind, run_underlying hu, Result.andThen_ok, run_getObj_map hm, checkKey_ends]
      simp only [Sem.run_pure, Result.andThen_ok, hf]
      simp [h]
  · have hf := findKey_miss R w h
    have := hA.debt a b c
    have e1 : A.lim a b c = 0 := by omega
    have e2 : A.debt a b c = 0 := by omega
    constructor
    all_goals
      unfold Instr.lookup
      simp only [Sem.run_bind, run_underlying hu, Result.andThen_ok, run_getObj_map hm, checkKey_ends]
      simp only [Sem.run_pure, Result.andThen_ok, hf]
      simp [e1, e2, vv]

def World.putMap (w : World) (m : Nat) (es : Array MapEntry) (clk : Nat) : World := { w with heap := w.heap.setIfInBounds m (.map es clk) }

theorem run_setObj_map {w : World} {m : Nat} {es es' : Array MapEntry} {clk clk' : Nat} (h : w.heap[m]? = some (.map es clk)) : (setObj m (.map es' clk')).run Try.prog w = .ok () (World.putMap w m es' clk') := by
  simp [setObj, Sem.run, h, World.putMap]

/-- the line as it stands now -/
def _root_.Go.Proofs.Ytelcdiceongfdaa.Ledger.setLine (A : Ledger) (a b c : Nat) (l d : Int) : Ledger := { A with lim := Ledger.upd A.lim a b c l, debt := Ledger.upd A.debt a b c d }

theorem keyThatStays_ends (a b c : Nat) (w : World) : (Instr.keyThatStays (kv a b c) (kv a b c)).run Try.prog w = .ok (kv a b c) w := by
  have : Instr.sameBits 10000 (kv a b c) (kv a b c) = true := by
    simp [kv, Instr.sameBits]
  simp [Instr.keyThatStays, this]

theorem modify_mid (pre : List MapEntry) (e : MapEntry) (post : List MapEntry) (f : MapEntry → MapEntry) : ((pre ++ e :: post).toArray.modify pre.length f) = (pre ++ f e :: post).toArray := by
  apply Array.ext'
  simp only [Array.toList_modify]
  induction pre with
  | nil => rfl
  | cons x pre ih => simpa using ih

theorem MapRep.update_old {es : Array MapEntry} {clk : Nat} {A : Ledger} (R : MapRep es clk A) {a b c : Nat} {l d : Int} (hl : 0 < l) {pre post : List MapEntry} {e : MapEntry} (he : es.toList = pre ++ e :: post) (hk : e.key = kv a b c) :
    MapRep (pre ++ { e with key := kv a b c, val := vv l d } :: post).toArray clk (A.setLine a b c l d) := by
  have hK := R.keys
  rw [he] at hK
  have hBs := R.borns
  rw [he] at hBs
  refine ⟨fun x hx => ?_, fun x y z hp => ?_, ?_, fun x hx => ?_, ?_⟩
  · simp only [List.mem_append, List.mem_cons] at hx
    rcases hx with hx | rfl | hx
    · obtain ⟨p, q, r, hk', hv, hp⟩ := R.ent x (by rw [he]; simp [hx])
      have hn : ¬ (p = a ∧ q = b ∧ r = c) := by
        rintro ⟨rfl, rfl, rfl⟩
        exact (List.pairwise_append.1 hK).2.2 x hx e List.mem_cons_self (hk'.trans hk.symm)
      exact ⟨p, q, r, hk', by simp only [Ledger.setLine, Ledger.upd_other hn]; exact hv, by simp only [Ledger.setLine, Ledger.upd_other hn]; exact hp⟩
    · exact ⟨a, b, c, rfl, by simp only [Ledger.setLine, Ledger.upd_same], by simp only [Ledger.setLine, Ledger.upd_same]; exact hl⟩
    · obtain ⟨p, q, r, hk', hv, hp⟩ := R.ent x (by rw [he]; simp [hx])
      have hn : ¬ (p = a ∧ q = b ∧ r = c) := by
        rintro ⟨rfl, rfl, rfl⟩
        exact (List.pairwise_cons.1 (List.pairwise_append.1 hK).2.1).1 x hx (hk.trans hk'.symm)
      exact ⟨p, q, r, hk', by simp only [Ledger.setLine, Ledger.upd_other hn]; exact hv, by simp only [Ledger.setLine, Ledger.upd_other hn]; exact hp⟩
  · by_cases hn : x = a ∧ y = b ∧ z = c
    · obtain ⟨rfl, rfl, rfl⟩ := hn
      exact ⟨_, by simp only [List.mem_append, List.mem_cons]; exact .inr (.inl rfl), rfl⟩
    · simp only [Ledger.setLine, Ledger.upd_other hn] at hp
      obtain ⟨e', he', hk'⟩ := R.all x y z hp
      rw [he] at he'
      simp only [List.mem_append, List.mem_cons] at he'
      rcases he' with h1 | rfl | h1
      · exact ⟨e', by simp [h1], hk'⟩
      · exact absurd (kv_inj.1 (hk'.symm.trans hk)) hn
      · exact ⟨e', by simp [h1], hk'⟩
  · show (pre ++ { e with key := kv a b c, val := vv l d } :: post).Pairwise _
    rw [List.pairwise_append, List.pairwise_cons] at hK ⊢
    refine ⟨hK.1, ⟨fun x hx => ?_, hK.2.1.2⟩, fun x hx y hy => ?_⟩
    · have := hK.2.1.1 x hx; rw [hk] at this; exact this
    · rcases List.mem_cons.1 hy with rfl | hy
      · have := hK.2.2 x hx e List.mem_cons_self; rw [hk] at this; exact this
      · exact hK.2.2 x hx y (List.mem_cons_of_mem _ hy)
  · simp only [List.mem_append, List.mem_cons] at hx
    rcases hx with hx | rfl | hx
    · exact R.born x (by rw [he]; simp [hx])
    · exact R.born e (by rw [he]; simp)
    · exact R.born x (by rw [he]; simp [hx])
  · show (pre ++ { e with key := kv a b c, val := vv l d } :: post).Pairwise _
    rw [List.pairwise_append, List.pairwise_cons] at hBs ⊢
    refine ⟨hBs.1, ⟨fun x hx => hBs.2.1.1 x hx, hBs.2.1.2⟩, fun x hx y hy => ?_⟩
    rcases List.mem_cons.1 hy with rfl | hy
    · exact hBs.2.2 x hx e List.mem_cons_self
    · exact hBs.2.2 x hx y (List.mem_cons_of_mem _ hy)

theorem MapRep.update_new {es : Array MapEntry} {clk : Nat} {A : Ledger} (R : MapRep es clk A) {a b c : Nat} {l d : Int} (hl : 0 < l) (hn : ¬ 0 < A.lim a b c) :
    MapRep (es.push { key := kv a b c, val := vv l d, born := clk }) (clk + 1) (A.setLine a b c l d) := by
  refine ⟨fun x hx => ?_, fun x y z hp => ?_, ?_, fun x hx => ?_, ?_⟩
  · simp only [Array.toList_push, List.mem_append, List.mem_singleton] at hx
    rcases hx with hx | rfl
    · obtain ⟨p, q, r, hk', hv, hp⟩ := R.ent x hx
      have hn : ¬ (p = a ∧ q = b ∧ r = c) := by rintro ⟨rfl, rfl, rfl⟩; exact hn hp
      exact ⟨p, q, r, hk', by simp only [Ledger.setLine, Ledger.upd_other hn]; exact hv, by simp only [Ledger.setLine, Ledger.upd_other hn]; exact hp⟩
    · exact ⟨a, b, c, rfl, by simp only [Ledger.setLine, Ledger.upd_same], by simp only [Ledger.setLine, Ledger.upd_same]; exact hl⟩
  · by_cases hn : x = a ∧ y = b ∧ z = c
    · obtain ⟨rfl, rfl, rfl⟩ := hn
      exact ⟨{ key := kv x y z, val := vv l d, born := clk }, by simp, rfl⟩
    · simp only [Ledger.setLine, Ledger.upd_other hn] at hp
      obtain ⟨e', he', hk'⟩ := R.all x y z hp
      exact ⟨e', by rw [Array.toList_push]; simp only [List.mem_append]; exact .inl he', hk'⟩
  · rw [Array.toList_push, List.pairwise_append]
    refine ⟨R.keys, List.pairwise_singleton _ _, fun x hx y hy => ?_⟩
    obtain rfl := List.mem_singleton.1 hy
    obtain ⟨p, q, r, hk', _, hp⟩ := R.ent x hx
    intro h
    have := kv_inj.1 (hk'.symm.trans h)
    obtain ⟨rfl, rfl, rfl⟩ := this
    exact hn hp
  · simp only [Array.toList_push, List.mem_append, List.mem_singleton] at hx
    rcases hx with hx | rfl
    · have := R.born x hx; omega
    · show clk < clk + 1; omega
  · rw [Array.toList_push, List.pairwise_append]
    refine ⟨R.borns, List.pairwise_singleton _ _, fun x hx y hy => ?_⟩
    obtain rfl := List.mem_singleton.1 hy
    have := R.born x hx
    show x.born ≠ clk
    omega

/-- 'm[k] = v' -/
theorem run_mapUpdate {w : World} {m : Nat} {A : Ledger} (h : MapAt w m A) (a b c : Nat) (l d : Int) (hl : 0 < l) :
    ∃ es' clk', (Instr.mapUpdate 33 (.map (some m)) (kv a b c) (vv l d)).run Try.prog w = .ok () (World.putMap w m es' clk') ∧ MapRep es' clk' (A.setLine a b c l d) := by
  obtain ⟨es, clk, hm, R⟩ := h
  have hu := und_map
  by_cases h : 0 < A.lim a b c
  · obtain ⟨pre, e, post, he, hk, hv, hf, _⟩ := findKey_hit R w h
    have he' : es = (pre ++ e :: post).toArray := by rw [← he]
    have hg : ((es[pre.length]?).map (·.key)).getD (kv a b c) = kv a b c := by rw [he']; simp [hk]
    refine ⟨_, clk, ?_, R.update_old (l := l) (d := d) hl he hk⟩
    unfold Instr.mapUpdate
    simp only [Sem.run_bind, run_underlying hu, Result.andThen_ok, run_getObj_map hm, checkKey_ends, hf, hg, keyThatStays_ends]
    rw [he', modify_mid]
    exact run_setObj_map hm
  · have hf := findKey_miss R w h
    refine ⟨_, clk + 1, ?_, R.update_new (l := l) (d := d) hl h⟩
    unfold Instr.mapUpdate
    simp only [Sem.run_bind, run_underlying hu, Result.andThen_ok, run_getObj_map hm, checkKey_ends, hf]
    exact run_setObj_map hm

theorem MapRep.erase {es : Array MapEntry} {clk : Nat} {A : Ledger} (R : MapRep es clk A) {a b c : Nat} {pre post : List MapEntry} {e : MapEntry} (he : es.toList = pre ++ e :: post) (hk : e.key = kv a b c) :
    MapRep (pre ++ post).toArray clk (A.setLim a b c 0) := by
  have hK := R.keys
  rw [he] at hK
  have hBs := R.borns
  rw [he] at hBs
  have hmem : ∀ x, x ∈ pre ++ post → x ∈ es.toList ∧ x.key ≠ kv a b c := fun x hx => by
    rcases List.mem_append.1 hx with hx | hx
    · exact ⟨by rw [he]; simp [hx], fun h => (List.pairwise_append.1 hK).2.2 x hx e List.mem_cons_self (h.trans hk.symm)⟩
    · exact ⟨by rw [he]; simp [hx], fun h => (List.pairwise_cons.1 (List.pairwise_append.1 hK).2.1).1 x hx (hk.trans h.symm)⟩
  refine ⟨fun x hx => ?_, fun x y z hp => ?_, ?_, fun x hx => R.born x (hmem x hx).1, ?_⟩
  · obtain ⟨h1, h2⟩ := hmem x hx
    obtain ⟨p, q, r, hk', hv, hp⟩ := R.ent x h1
    have hn : ¬ (p = a ∧ q = b ∧ r = c) := by rintro ⟨rfl, rfl, rfl⟩; exact h2 hk'
    exact ⟨p, q, r, hk', by simp only [Ledger.setLim, Ledger.upd_other hn]; exact hv, by simp only [Ledger.setLim, Ledger.upd_other hn]; exact hp⟩
  · by_cases hn : x = a ∧ y = b ∧ z = c
    · obtain ⟨rfl, rfl, rfl⟩ := hn
      simp [Ledger.setLim, Ledger.upd_same] at hp
    · simp only [Ledger.setLim, Ledger.upd_other hn] at hp
      obtain ⟨e', he', hk'⟩ := R.all x y z hp
      rw [he] at he'
      simp only [List.mem_append, List.mem_cons] at he'
      rcases he' with h1 | rfl | h1
      · exact ⟨e', by simp [h1], hk'⟩
      · exact absurd (kv_inj.1 (hk'.symm.trans hk)) hn
      · exact ⟨e', by simp [h1], hk'⟩
  · show (pre ++ post).Pairwise _
    rw [List.pairwise_append, List.pairwise_cons] at hK
    exact List.pairwise_append.2 ⟨hK.1, hK.2.1.2, fun x hx y hy => hK.2.2 x hx y (List.mem_cons_of_mem _ hy)⟩
  · show (pre ++ post).Pairwise _
    rw [List.pairwise_append, List.pairwise_cons] at hBs
    exact List.pairwise_append.2 ⟨hBs.1, hBs.2.1.2, fun x hx y hy => hBs.2.2 x hx y (List.mem_cons_of_mem _ hy)⟩

theorem MapRep.congr {es : Array MapEntry} {clk : Nat} {A B : Ledger} (R : MapRep es clk A) (hl : A.lim = B.lim) (hd : A.debt = B.debt) : MapRep es clk B :=
  ⟨by rw [← hl, ← hd]; exact R.ent, by rw [← hl]; exact R.all, R.keys, R.born, R.borns⟩

/-- 'delete(m, k)' -/
theorem run_mapDelete {w : World} {m : Nat} {A : Ledger} (h : MapAt w m A) (hA : A.WF) (a b c : Nat) (ty : TypeId) :
    ∃ es' clk', (Builtin.delete_ #[33, 87] ty #[.map (some m), kv a b c]).run Try.prog w = .ok (.tuple #[]) (World.putMap w m es' clk') ∧ MapRep es' clk' (A.setLim a b c 0) := by
  obtain ⟨es, clk, hm, R⟩ := h
  have hu := und_map
  by_cases h : 0 < A.lim a b c
  · obtain ⟨pre, e, post, he, hk, hv, hf, _⟩ := findKey_hit R w h
    have he' : es = (pre ++ e :: post).toArray := by rw [← he]
    refine ⟨_, clk, ?_, R.erase he hk⟩
    have hx : es.eraseIdxIfInBounds pre.length = (pre ++ post).toArray := by
      rw [he']; apply Array.ext'; simp [List.eraseIdx_append_of_length_le]
    simp only [Builtin.delete_, Sem.run_bind, run_underlying hu, Result.andThen_ok, run_getObj_map hm, checkKey_ends, hf, hx, run_setObj_map hm, List.getElem?_toArray, List.getElem?_cons_zero, List.getElem?_cons_succ]
    rfl
  · have hf := findKey_miss R w h
    have h0 : A.lim a b c = 0 := by have := hA.debt a b c; omega
    refine ⟨es, clk, ?_, R.congr (by funext x y z; by_cases e : x = a ∧ y = b ∧ z = c
                                     · obtain ⟨rfl, rfl, rfl⟩ := e; simp [Ledger.setLim, Ledger.upd_same, h0]
                                     · simp [Ledger.setLim, Ledger.upd_other e]) rfl⟩
    simp only [Builtin.delete_, Sem.run_bind, run_underlying hu, Result.andThen_ok, run_getObj_map hm, checkKey_ends, hf, run_setObj_map hm, List.getElem?_toArray, List.getElem?_cons_zero, List.getElem?_cons_succ]
    rfl

/-! ### the world behind a store into the map -/
theorem putMap_size (w : World) (m : Nat) (es : Array MapEntry) (clk : Nat) : (World.putMap w m es clk).heap.size = w.heap.size := by simp [World.putMap]
theorem putMap_other {w : World} {m k : Nat} {es : Array MapEntry} {clk : Nat} (h : k ≠ m) : (World.putMap w m es clk).heap[k]? = w.heap[k]? := by
  simp [World.putMap, Ne.symm h]
theorem putMap_at {w : World} {m : Nat} {es : Array MapEntry} {clk : Nat} {A : Ledger} (h : m < w.heap.size) (R : MapRep es clk A) : MapAt (World.putMap w m es clk) m A :=
  ⟨es, clk, by simp [World.putMap, h], R⟩

/-- what w had is as it was but for the blocks of S; nothing is gone -/
structure Chg (S : List Nat) (w w' : World) : Prop where
  os : w'.os = w.os
  tape : w'.tape = w.tape
  output : w'.output = w.output
  size : w.heap.size ≤ w'.heap.size
  block : ∀ k, k < w.heap.size → k ∉ S → w'.heap[k]? = w.heap[k]?

theorem Chg.refl (S : List Nat) (w : World) : Chg S w w := ⟨rfl, rfl, rfl, Nat.le_refl _, fun _ _ _ => rfl⟩
theorem Chg.of_below {S : List Nat} {w w' : World} (h : Below w.heap.size w w') : Chg S w w' := ⟨h.os, h.tape, h.output, h.size, fun k hk _ => h.block k hk⟩
theorem Chg.below {w w' : World} (h : Chg [] w w') : Below w.heap.size w w' := ⟨h.os, h.tape, h.output, h.size, fun k hk => h.block k hk (by simp)⟩
theorem Chg.trans {S S' : List Nat} {a b c : World} (h : Chg S a b) (k : Chg S' b c) (hS : ∀ x, x ∈ S' → x < a.heap.size → x ∈ S) : Chg S a c :=
  ⟨k.os.trans h.os, k.tape.trans h.tape, k.output.trans h.output, Nat.le_trans h.size k.size, fun i hi hn =>
    (k.block i (Nat.lt_of_lt_of_le hi h.size) (fun hm => hn (hS i hm hi))).trans (h.block i hi hn)⟩
theorem Chg.mono {S S' : List Nat} {a b : World} (h : Chg S a b) (hS : ∀ x, x ∈ S → x < a.heap.size → x ∈ S') : Chg S' a b :=
  ⟨h.os, h.tape, h.output, h.size, fun i hi hn => h.block i hi (fun hm => hn (hS i hm hi))⟩
theorem Chg.putMap {S : List Nat} (w : World) (m : Nat) (es : Array MapEntry) (clk : Nat) (hm : m ∈ S) : Chg S w (World.putMap w m es clk) :=
  ⟨rfl, rfl, rfl, by rw [putMap_size]; exact Nat.le_refl _, fun k _ hn => putMap_other (fun e => hn (e ▸ hm))⟩
theorem Chg.cell {S : List Nat} {w w' : World} (h : Chg S w w') {b o : Nat} (hb : b < w.heap.size) (hn : b ∉ S) : w'.cell? ⟨b, o, none⟩ = w.cell? ⟨b, o, none⟩ := World.cell?_of_block (w := w) (a := ⟨b, o, none⟩) (h.block b hb hn)
theorem Chg.frozen {S : List Nat} {w w' : World} (h : Chg S w w') {b o : Nat} (hb : b < w.heap.size) (hn : b ∉ S) : w'.frozen? ⟨b, o, none⟩ = w.frozen? ⟨b, o, none⟩ := World.frozen?_of_block (w := w) (a := ⟨b, o, none⟩) (h.block b hb hn)
theorem MapAt.chg {S : List Nat} {w w' : World} {m : Nat} {A : Ledger} (h : MapAt w m A) (hc : Chg S w w') (hn : m ∉ S) : MapAt w' m A := by
  have hl := h.lt
  obtain ⟨es, clk, h, R⟩ := h
  exact ⟨es, clk, (hc.block m hl hn).trans h, R⟩
theorem MapAt.below {w w' : World} {m : Nat} {A : Ledger} (h : MapAt w m A) (hb : Below w.heap.size w w') : MapAt w' m A := h.chg (S := []) (Chg.of_below hb) (by simp)
theorem MapAt.later {w : World} {m : Nat} {A : Ledger} (h : MapAt w m A) (x : Later w) : MapAt x.w m A := h.below x.b
theorem MapAt.alloc {w : World} {m : Nat} {A : Ledger} (h : MapAt w m A) (o : Obj) : MapAt (w.alloc o) m A := h.below ((Below.refl _ _).alloc (Nat.le_refl _) _)
theorem MapAt.setCell {w : World} {m : Nat} {A : Ledger} (h : MapAt w m A) (p : Addr) (v : Value) : MapAt (w.setCell p v) m A := by
  obtain ⟨es, clk, h, R⟩ := h
  refine ⟨es, clk, ?_, R⟩
  by_cases e : m = p.block
  · subst e
    have hlt := lt_of_block h
    have h' : w.heap[p.block] = .map es clk := by simpa [Array.getElem?_eq_getElem hlt] using h
    show (w.heap.modify p.block _)[p.block]? = _
    rw [Array.getElem?_eq_getElem (by simpa using hlt), Array.getElem_modify_self, h']
  · rw [Below.heap_setCell _ _ _ _ e]; exact h
theorem MapAt.drew {w : World} {m : Nat} {A : Ledger} (h : MapAt w m A) : MapAt w.drew m A := h

end Go.Proofs.Ytelcdiceongfdaa
