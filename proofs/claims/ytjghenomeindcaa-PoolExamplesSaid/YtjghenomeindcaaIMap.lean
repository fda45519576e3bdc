/- Maps from integers as lists of keys and values: lookup, store, delete as runs of the operations, over any program. -/
import Derived.Test.YtjghenomeindcaaBase
import Derived.MapKept
import Derived.Maps.RangeRun
set_option linter.unusedVariables false
set_option linter.unusedSimpArgs false
namespace Go.Lf
open Go.RowKit Go.MapKept

def mlook : List (Int × Value) → Int → Option Value
  | [], _ => none
  | p :: l, k => if k = p.1 then some p.2 else mlook l k
def mput : List (Int × Value) → Int → Value → List (Int × Value)
  | [], k, v => [(k, v)]
  | p :: l, k, v => if k = p.1 then (k, v) :: l else p :: mput l k v
def mdel : List (Int × Value) → Int → List (Int × Value)
  | [], _ => []
  | p :: l, k => if k = p.1 then l else p :: mdel l k
def ekv (e : MapEntry) : Value × Value := (e.key, e.val)
def pkv (q : IntKind) (p : Int × Value) : Value × Value := (.int q p.1, p.2)

theorem findNow_i (q : IntKind) (k : Int) : ∀ (es : List MapEntry) (l : List (Int × Value)) (i : Nat), es.map ekv = l.map (pkv q) →
    (mlook l k = none ∧ Instr.findNow (.int q) (.int q k) es i = some none ∧ (∀ v, mput l k v = l ++ [(k, v)]) ∧ mdel l k = l) ∨
    (∃ j v e, mlook l k = some v ∧ es[j]? = some e ∧ e.key = .int q k ∧ Instr.findNow (.int q) (.int q k) es i = some (some (i + j, v)) ∧
      (∀ (f : MapEntry → MapEntry) (u : Value), (∀ x, (f x).val = u) → (f e).key = .int q k → (es.modify j f).map ekv = (mput l k u).map (pkv q)) ∧ (es.eraseIdx j).map ekv = (mdel l k).map (pkv q))
  | [], [], i, _ => .inl ⟨rfl, rfl, fun _ => rfl, rfl⟩
  | [], _ :: _, _, h => by simp at h
  | _ :: _, [], _, h => by simp at h
  | e :: es, p :: l, i, h => by
    simp only [List.map_cons, List.cons.injEq] at h
    obtain ⟨h1, h2⟩ := h
    have hk : e.key = .int q p.1 := congrArg Prod.fst h1
    have hv : e.val = p.2 := congrArg Prod.snd h1
    by_cases hkp : k = p.1
    · subst hkp
      refine .inr ⟨0, p.2, e, by simp [mlook], rfl, hk, ?_, ?_, ?_⟩
      · simp [Instr.findNow, hk, Instr.sameNow, hv]
      · intro f u hf hfk
        simp only [List.modify_zero_cons, List.map_cons, mput, if_pos, h2]
        rw [show ekv (f e) = pkv q (p.1, u) by unfold ekv pkv; rw [hf, hfk]]
      · simp [mdel, h2]
    · have hs : Instr.sameNow (.int q) (.int q k) e.key = some false := by rw [hk]; simp [Instr.sameNow, hkp]
      rcases findNow_i q k es l (i + 1) h2 with ⟨a, b, c, d⟩ | ⟨j, v, e', a, b, c, d, f1, f2⟩
      · refine .inl ⟨by simp [mlook, hkp, a], by simp [Instr.findNow, hs, b], fun v => by simp [mput, hkp, c], by simp [mdel, hkp, d]⟩
      · refine .inr ⟨j + 1, v, e', by simp [mlook, hkp, a], by simpa using b, c, ?_, ?_, ?_⟩
        · simp [Instr.findNow, hs, d]; omega
        · intro f u hf hfk
          simp only [List.modify_succ_cons, List.map_cons, mput, if_neg hkp, f1 f u hf hfk]
          rw [show ekv e = pkv q p by unfold ekv pkv; rw [hk, hv]]
        · simp only [List.eraseIdx_cons_succ, List.map_cons, mdel, if_neg hkp, f2]
          rw [show ekv e = pkv q p by unfold ekv pkv; rw [hk, hv]]

/-- Block r is a map from integers with these entries. -/
def IMap (q : IntKind) (w : World) (r : Nat) (l : List (Int × Value)) : Prop :=
  ∃ es clock, w.heap[r]? = some (.map es clock) ∧ es.toList.map ekv = l.map (pkv q) ∧ Stamped es clock

section
variable {q : IntKind} {w w' : World} {r : Nat} {l : List (Int × Value)} {P : Program} {mt kt et : TypeId}
theorem IMap.keep {S : Nat → Prop} (h : IMap q w r l) (hk : Keep S w w') (hn : ¬ S r) : IMap q w' r l := by
  obtain ⟨es, clock, h1, h2, h3⟩ := h
  exact ⟨es, clock, hk.at h1 hn, h2, h3⟩
theorem IMap.lt (h : IMap q w r l) : r < w.heap.size := by
  obtain ⟨es, clock, h1, -, -⟩ := h
  exact lt_of_block h1
theorem imap_new (w : World) : IMap q (w.alloc (.map #[] 0)) w.heap.size [] := ⟨#[], 0, heap_alloc_new w _, rfl, stamped_empty 0⟩
theorem IMap.ne (h : IMap q w r l) {b : Nat} {cs : Array Value} {ty : TypeId} (hb : w.heap[b]? = some (.cells cs ty (0, 0))) : r ≠ b := by
  obtain ⟨es, clock, h1, -, -⟩ := h
  intro e; subst e; rw [h1] at hb; cases hb

theorem ckey_i (hk : P.underlying kt = some (.int q)) (b : Bool) (d : Nat) (k : Int) : (Instr.checkKey b (d + 1) kt (.int q k)).run P w = .ok () w := by
  simp [Instr.checkKey, run_underlying hk]

/-- Lookup, with the Boolean. -/
theorem look_ok (h : IMap q w r l) (hm : P.underlying mt = some (.map kt et)) (hk : P.underlying kt = some (.int q)) {z : Value} (hz : (zeroValue et).run P w = .ok z w) (k : Int) :
    (Instr.lookup mt (.map (some r)) (.int q k) true).run P w = .ok (.tuple #[(mlook l k).getD z, .bool (mlook l k).isSome]) w := by
  obtain ⟨es, clock, h1, h2, h3⟩ := h
  have ck := ckey_i (w := w) hk es.isEmpty 9999 k
  rcases findNow_i q k es.toList l 0 h2 with ⟨a, b, -, -⟩ | ⟨j, v, e, a, -, -, b, -, -⟩
  · simp [Instr.lookup, run_underlying hm, MapKept.run_getObj_map h1, ck, MapKept.run_findKey hk b, hz, a, Result.andThen]
  · simp [Instr.lookup, run_underlying hm, MapKept.run_getObj_map h1, ck, MapKept.run_findKey hk b, a, Result.andThen]
theorem look_one (h : IMap q w r l) (hm : P.underlying mt = some (.map kt et)) (hk : P.underlying kt = some (.int q)) {z : Value} (hz : (zeroValue et).run P w = .ok z w) (k : Int) :
    (Instr.lookup mt (.map (some r)) (.int q k) false).run P w = .ok ((mlook l k).getD z) w := by
  obtain ⟨es, clock, h1, h2, h3⟩ := h
  have ck := ckey_i (w := w) hk es.isEmpty 9999 k
  rcases findNow_i q k es.toList l 0 h2 with ⟨a, b, -, -⟩ | ⟨j, v, e, a, -, -, b, -, -⟩
  · simp [Instr.lookup, run_underlying hm, MapKept.run_getObj_map h1, ck, MapKept.run_findKey hk b, hz, a, Result.andThen]
  · simp [Instr.lookup, run_underlying hm, MapKept.run_getObj_map h1, ck, MapKept.run_findKey hk b, a, Result.andThen]

theorem keep_setb (o : Obj) : Keep (fun k => k = r) w { w with heap := w.heap.setIfInBounds r o } :=
  ⟨rfl, rfl, rfl, by simp, fun k _ hn => by simp [Array.getElem?_setIfInBounds, Ne.symm hn]⟩
/-- A map's block with other entries. -/
def MapSet (q : IntKind) (w : World) (r : Nat) (l : List (Int × Value)) (w' : World) : Prop := IMap q w' r l ∧ Keep (fun k => k = r) w w' ∧ w'.heap.size = w.heap.size

theorem keys_ne {es : List MapEntry} (h : es.map ekv = l.map (pkv q)) {k : Int} (hn : mlook l k = none) : ∀ x ∈ es, x.key ≠ .int q k := by
  induction es generalizing l with
  | nil => simp
  | cons e es ih =>
    cases l with
    | nil => simp at h
    | cons p l =>
      simp only [List.map_cons, List.cons.injEq] at h
      obtain ⟨h1, h2⟩ := h
      have hk : e.key = .int q p.1 := congrArg Prod.fst h1
      unfold mlook at hn
      split at hn
      · cases hn
      · rename_i hkp
        intro x hx
        rcases List.mem_cons.1 hx with rfl | hx
        · rw [hk]; intro e; simp only [Value.int.injEq, true_and] at e; exact hkp e.symm
        · exact ih h2 hn x hx

/-- A store. -/
theorem put_run (h : IMap q w r l) (hm : P.underlying mt = some (.map kt et)) (hk : P.underlying kt = some (.int q)) (k : Int) (v : Value) :
    ∃ w', (Instr.mapUpdate mt (.map (some r)) (.int q k) v).run P w = .ok () w' ∧ MapSet q w r (mput l k v) w' := by
  obtain ⟨es, clock, h1, h2, h3⟩ := h
  have ck := ckey_i (w := w) hk false 9999 k
  rcases findNow_i q k es.toList l 0 h2 with ⟨a, b, c, -⟩ | ⟨j, v0, e, a, b0, b1, b, f1, -⟩
  · refine ⟨{ w with heap := w.heap.setIfInBounds r (.map (es.push { key := .int q k, val := v, born := clock }) (clock + 1)) }, ?_, ⟨_, _, (heap_set h1).1, ?_, ?_⟩, keep_setb _, by simp⟩
    · simp [Instr.mapUpdate, run_underlying hm, MapKept.run_getObj_map h1, ck, MapKept.run_findKey hk b, MapKept.run_setObj_map _ h1, Result.andThen]
    · rw [c]; simp [h2, ekv, pkv]
    · exact stamped_push h3 (keys_ne h2 a)
  · have hj : es[0 + j]? = some e := by rw [Nat.zero_add]; simpa using b0
    have hkk : (((es[0 + j]?).map (·.key)).getD (.int q k)) = .int q k := by rw [hj]; exact b1
    have hst : (Instr.keyThatStays (.int q k) (.int q k)).run P w = .ok (.int q k) w := by simp [Instr.keyThatStays, Instr.sameBits]
    refine ⟨{ w with heap := w.heap.setIfInBounds r (.map (es.modify (0 + j) fun e => { e with key := .int q k, val := v }) clock) }, ?_, ⟨_, _, (heap_set h1).1, ?_, ?_⟩, keep_setb _, by simp⟩
    · simp only [Instr.mapUpdate, Sem.run_bind, run_underlying hm, MapKept.run_getObj_map h1, ck, MapKept.run_findKey hk b, Result.andThen, hkk, hst, MapKept.run_setObj_map _ h1]
    · rw [Nat.zero_add, Array.toList_modify]
      exact f1 _ v (fun _ => rfl) rfl
    · refine stamped_modify h3 _ _ (fun _ _ => rfl) (fun x _ hx => ?_)
      rw [hj] at hx
      cases hx
      exact b1.symm

/-- A delete. -/
theorem del_run (h : IMap q w r l) (hm : P.underlying mt = some (.map kt et)) (hk : P.underlying kt = some (.int q)) (k : Int) :
    ∃ w', (∀ ty : TypeId, (Builtin.delete_ #[mt, kt] ty #[.map (some r), .int q k]).run P w = .ok (.tuple #[]) w') ∧ MapSet q w r (mdel l k) w' := by
  obtain ⟨es, clock, h1, h2, h3⟩ := h
  have ck := ckey_i (w := w) hk es.isEmpty 9999 k
  rcases findNow_i q k es.toList l 0 h2 with ⟨a, b, -, c⟩ | ⟨j, v0, e, a, b0, b1, b, -, f2⟩
  · refine ⟨{ w with heap := w.heap.setIfInBounds r (.map es clock) }, ?_, ⟨_, _, (heap_set h1).1, ?_, h3⟩, keep_setb _, by simp⟩
    · intro ty; simp [Builtin.delete_, run_underlying hm, MapKept.run_getObj_map h1, ck, MapKept.run_findKey hk b, MapKept.run_setObj_map _ h1, Result.andThen]
    · rw [c]; exact h2
  · refine ⟨{ w with heap := w.heap.setIfInBounds r (.map (es.eraseIdxIfInBounds (0 + j)) clock) }, ?_, ⟨_, _, (heap_set h1).1, ?_, stamped_erase h3 _⟩, keep_setb _, by simp⟩
    · intro ty; simp [Builtin.delete_, run_underlying hm, MapKept.run_getObj_map h1, ck, MapKept.run_findKey hk b, MapKept.run_setObj_map _ h1, Result.andThen]
    · rw [Nat.zero_add, Array.toList_eraseIdxIfInBounds]
      exact f2

/-! The lists alone. -/
theorem mlook_put (l : List (Int × Value)) (k j : Int) (v : Value) : mlook (mput l k v) j = if j = k then some v else mlook l j := by
  induction l with
  | nil => simp [mput, mlook]
  | cons p l ih =>
    by_cases h : k = p.1
    · simp only [mput, if_pos h, mlook]
      by_cases hj : j = k
      · simp [hj]
      · rw [if_neg hj, if_neg hj, if_neg (by omega)]
    · simp only [mput, if_neg h, mlook, ih]
      by_cases hj : j = p.1
      · rw [if_pos hj, if_neg (by omega), if_pos hj]
      · rw [if_neg hj, if_neg hj]
def mkeys (l : List (Int × Value)) : List Int := l.map (·.1)
theorem mlook_none {l : List (Int × Value)} {j : Int} : mlook l j = none ↔ j ∉ mkeys l := by
  induction l with
  | nil => simp [mlook, mkeys]
  | cons p l ih =>
    by_cases h : j = p.1
    · simp [mlook, mkeys, h]
    · have h1 : mlook (p :: l) j = mlook l j := by simp [mlook, h]
      rw [h1, ih]
      simp [mkeys, h]
theorem mlook_del {l : List (Int × Value)} (hd : (mkeys l).Nodup) (k j : Int) : mlook (mdel l k) j = if j = k then none else mlook l j := by
  induction l with
  | nil => simp [mdel, mlook]
  | cons p l ih =>
    unfold mkeys at hd
    rw [List.map_cons, List.nodup_cons] at hd
    by_cases h : k = p.1
    · simp only [mdel, if_pos h, mlook]
      by_cases hj : j = k
      · rw [if_pos hj]; exact mlook_none.2 (by rw [hj, h]; exact hd.1)
      · rw [if_neg hj, if_neg (by omega)]
    · simp only [mdel, if_neg h, mlook]
      rw [ih hd.2]
      by_cases hj : j = p.1
      · rw [if_pos hj, if_pos hj, if_neg (by omega)]
      · rw [if_neg hj, if_neg hj]
theorem mkeys_put (l : List (Int × Value)) (k : Int) (v : Value) : mkeys (mput l k v) = if k ∈ mkeys l then mkeys l else mkeys l ++ [k] := by
  induction l with
  | nil => simp [mput, mkeys]
  | cons p l ih =>
    by_cases h : k = p.1
    · simp [mput, h, mkeys]
    · have h1 : mkeys (mput (p :: l) k v) = p.1 :: mkeys (mput l k v) := by simp [mput, h, mkeys]
      have h2 : mkeys (p :: l) = p.1 :: mkeys l := rfl
      rw [h1, h2, ih]
      by_cases hm : k ∈ mkeys l
      · rw [if_pos hm, if_pos (List.mem_cons_of_mem _ hm)]
      · rw [if_neg hm, if_neg (by simp [h, hm])]; rfl
theorem mkeys_put_nodup {l : List (Int × Value)} (h : (mkeys l).Nodup) (k : Int) (v : Value) : (mkeys (mput l k v)).Nodup := by
  rw [mkeys_put]
  split
  · exact h
  · rename_i hn
    rw [List.nodup_append]
    exact ⟨h, by simp, fun a ha b hb => by simp at hb; subst hb; intro e; subst e; exact hn ha⟩
theorem mkeys_del_sub (l : List (Int × Value)) (k : Int) : (mkeys (mdel l k)).Sublist (mkeys l) := by
  induction l with
  | nil => simp [mdel, mkeys]
  | cons p l ih =>
    unfold mkeys at *
    by_cases h : k = p.1
    · simp [mdel, h]
    · simp only [mdel, if_neg h, List.map_cons]
      exact ih.cons_cons _
theorem mkeys_del_nodup {l : List (Int × Value)} (h : (mkeys l).Nodup) (k : Int) : (mkeys (mdel l k)).Nodup := (mkeys_del_sub l k).nodup h
end
end Go.Lf
