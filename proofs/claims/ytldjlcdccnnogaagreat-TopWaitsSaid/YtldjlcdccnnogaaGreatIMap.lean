/- Maps from integers as lists of keys and values: lookup, store, delete as runs of the operations, over any program. -/
import Derived.Test.YtldjlcdccnnogaaGreatBase
import Derived.MapKept
import Derived.Maps.RangeRun
import Derived.Maps.RangeWalk
set_option linter.unusedVariables false
set_option linter.unusedSimpArgs false
namespace Go.Lf
open Go.RowKit Go.MapKept

def mlook : List (Int × Value) → Int → Option Value
  | [], _ => none
  | p :: l, k => if k = p.1 then some p.2 else mlook l k
def mput : List (Int × Value) → Int → Value → List (Int × Value)
  | [], k, v => [(k, v)]
  | p :: l, k, v => if k = p.1 then (k, v) :: l else p :: mput l k v
def mdel : List (Int × Value) → Int → List (Int × Value)
  | [], _ => []
  | p :: l, k => if k = p.1 then l else p :: mdel l k
def ekv (e : MapEntry) : Value × Value := (e.key, e.val)
def pkv (q : IntKind) (p : Int × Value) : Value × Value := (.int q p.1, p.2)

theorem findNow_i (q : IntKind) (k : Int) : ∀ (es : List MapEntry) (l : List (Int × Value)) (i : Nat), es.map ekv = l.map (pkv q) →
    (mlook l k = none ∧ Instr.findNow (.int q) (.int q k) es i = some none ∧ (∀ v, mput l k v = l ++ [(k, v)]) ∧ mdel l k = l) ∨
    (∃ j v e, mlook l k = some v ∧ es[j]? = some e ∧ e.key = .int q k ∧ Instr.findNow (.int q) (.int q k) es i = some (some (i + j, v)) ∧
      (∀ (f : MapEntry → MapEntry) (u : Value), (∀ x, (f x).val = u) → (f e).key = .int q k → (es.modify j f).map ekv = (mput l k u).map (pkv q)) ∧ (es.eraseIdx j).map ekv = (mdel l k).map (pkv q))
  | [], [], i, _ => .inl ⟨rfl, rfl, fun _ => rfl, rfl⟩
  | [], _ :: _, _, h => by simp at h
  | _ :: _, [], _, h => by simp at h
  | e :: es, p :: l, i, h => by
    simp only [List.map_cons, List.cons.injEq] at h
    obtain ⟨h1, h2⟩ := h
    have hk : e.key = .int q p.1 := congrArg Prod.fst h1
    have hv : e.val = p.2 := congrArg Prod.snd h1
    by_cases hkp : k = p.1
    · subst hkp
      refine .inr ⟨0, p.2, e, by simp [mlook], rfl, hk, ?_, ?_, ?_⟩
      · simp [Instr.findNow, hk, Instr.sameNow, hv]
      · intro f u hf hfk
        simp only [List.modify_zero_cons, List.map_cons, mput, if_pos, h2]
        rw [show ekv (f e) = pkv q (p.1, u) by unfold ekv pkv; rw [hf, hfk]]
      · simp [mdel, h2]
    · have hs : Instr.sameNow (.int q) (.int q k) e.key = some false := by rw [hk]; simp [Instr.sameNow, hkp]
      rcases findNow_i q k es l (i + 1) h2 with ⟨a, b, c, d⟩ | ⟨j, v, e', a, b, c, d, f1, f2⟩
      · refine .inl ⟨by simp [mlook, hkp, a], by simp [Instr.findNow, hs, b], fun v => by simp [mput, hkp, c], by simp [mdel, hkp, d]⟩
      · refine .inr ⟨j + 1, v, e', by simp [mlook, hkp, a], by simpa using b, c, ?_, ?_, ?_⟩
        · simp [Instr.findNow, hs, d]; omega
        · intro f u hf hfk
          simp only [List.modify_succ_cons, List.map_cons, mput, if_neg hkp, f1 f u hf hfk]
          rw [show ekv e = pkv q p by unfold ekv pkv; rw [hk, hv]]
        · simp only [List.eraseIdx_cons_succ, List.map_cons, mdel, if_neg hkp, f2]
          rw [show ekv e = pkv q p by unfold ekv pkv; rw [hk, hv]]

/-- Block r is a map from integers with these entries. -/
def IMap (q : IntKind) (w : World) (r : Nat) (l : List (Int × Value)) : Prop :=
  ∃ es clock, w.heap[r]? = some (.map es clock) ∧ es.toList.map ekv = l.map (pkv q) ∧ Stamped es clock

section
variable {q : IntKind} {w w' : World} {r : Nat} {l : List (Int × Value)} {P : Program} {mt kt et : TypeId}
theorem IMap.keep {S : Nat → Prop} (h : IMap q w r l) (hk : Keep S w w') (hn : ¬ S r) : IMap q w' r l := by
  obtain ⟨es, clock, h1, h2, h3⟩ := h
  exact ⟨es, clock, hk.at h1 hn, h2, h3⟩
theorem IMap.lt (h : IMap q w r l) : r < w.heap.size := by
  obtain ⟨es, clock, h1, -, -⟩ := h
  exact lt_of_block h1
theorem imap_new (w : World) : IMap q (w.alloc (.map #[] 0)) w.heap.size [] := ⟨#[], 0, heap_alloc_new w _, rfl, stamped_empty 0⟩
theorem IMap.ne (h : IMap q w r l) {b : Nat} {cs : Array Value} {ty : TypeId} (hb : w.heap[b]? = some (.cells cs ty (0, 0))) : r ≠ b := by
  obtain ⟨es, clock, h1, -, -⟩ := h
  intro e; subst e; rw [h1] at hb; cases hb

theorem ckey_i (hk : P.underlying kt = some (.int q)) (b : Bool) (d : Nat) (k : Int) : (Instr.checkKey b (d + 1) kt (.int q k)).run P w = .ok () w := by
  simp [Instr.checkKey, run_underlying hk]

/-- Lookup, with the Boolean. -/
theorem look_ok (h : IMap q w r l) (hm : P.underlying mt = some (.map kt et)) (hk : P.underlying kt = some (.int q)) {z : Value} (hz : (zeroValue et).run P w = .ok z w) (k : Int) :
    (Instr.lookup mt (.map (some r)) (.int q k) true).run P w = .ok (.tuple #[(mlook l k).getD z, .bool (mlook l k).isSome]) w := by
  obtain ⟨es, clock, h1, h2, h3⟩ := h
  have ck := ckey_i (w := w) hk es.isEmpty 9999 k
  rcases findNow_i q k es.toList l 0 h2 with ⟨a, b, -, -⟩ | ⟨j, v, e, a, -, -, b, -, -⟩
  · simp [Instr.lookup, run_underlying hm, MapKept.run_getObj_map h1, ck, MapKept.run_findKey hk b, hz, a, Result.andThen]
  · simp [Instr.lookup, run_underlying hm, MapKept.run_getObj_map h1, ck, MapKept.run_findKey hk b, a, Result.andThen]
theorem look_one (h : IMap q w r l) (hm : P.underlying mt = some (.map kt et)) (hk : P.underlying kt = some (.int q)) {z : Value} (hz : (zeroValue et).run P w = .ok z w) (k : Int) :
    (Instr.lookup mt (.map (some r)) (.int q k) false).run P w = .ok ((mlook l k).getD z) w := by
  obtain ⟨es, clock, h1, h2, h3⟩ := h
  have ck := ckey_i (w := w) hk es.isEmpty 9999 k
  rcases findNow_i q k es.toList l 0 h2 with ⟨a, b, -, -⟩ | ⟨j, v, e, a, -, -, b, -, -⟩
  · simp [Instr.lookup, run_underlying hm, MapKept.run_getObj_map h1, ck, MapKept.run_findKey hk b, hz, a, Result.andThen]
  · simp [Instr.lookup, run_underlying hm, MapKept.run_getObj_map h1, ck, MapKept.run_findKey hk b, a, Result.andThen]

theorem keep_setb (o : Obj) : Keep (fun k => k = r) w { w with heap := w.heap.setIfInBounds r o } :=
  ⟨rfl, rfl, rfl, by simp, fun k _ hn => by simp [Array.getElem?_setIfInBounds, Ne.symm hn]⟩
/-- A map's block with other entries. -/
def MapSet (q : IntKind) (w : World) (r : Nat) (l : List (Int × Value)) (w' : World) : Prop := IMap q w' r l ∧ Keep (fun k => k = r) w w' ∧ w'.heap.size = w.heap.size

theorem keys_ne {es : List MapEntry} (h : es.map ekv = l.map (pkv q)) {k : Int} (hn : mlook l k = none) : ∀ x ∈ es, x.key ≠ .int q k := by
  induction es generalizing l with
  | nil => simp
  | cons e es ih =>
    cases l with
    | nil => simp at h
    | cons p l =>
      simp only [List.map_cons, List.cons.injEq] at h
      obtain ⟨h1, h2⟩ := h
      have hk : e.key = .int q p.1 := congrArg Prod.fst h1
      unfold mlook at hn
      split at hn
      · cases hn
      · rename_i hkp
        intro x hx
        rcases List.mem_cons.1 hx with rfl | hx
        · rw [hk]; intro e; simp only [Value.int.injEq, true_and] at e; exact hkp e.symm
        · exact ih h2 hn x hx

/-- A store. -/
theorem put_run (h : IMap q w r l) (hm : P.underlying mt = some (.map kt et)) (hk : P.underlying kt = some (.int q)) (k : Int) (v : Value) :
    ∃ w', (Instr.mapUpdate mt (.map (some r)) (.int q k) v).run P w = .ok () w' ∧ MapSet q w r (mput l k v) w' := by
  obtain ⟨es, clock, h1, h2, h3⟩ := h
  have ck := ckey_i (w := w) hk false 9999 k
  rcases findNow_i q k es.toList l 0 h2 with ⟨a, b, c, -⟩ | ⟨j, v0, e, a, b0, b1, b, f1, -⟩
  · refine ⟨{ w with heap := w.heap.setIfInBounds r (.map (es.push { key := .int q k, val := v, born := clock }) (clock + 1)) }, ?_, ⟨_, _, (heap_set h1).1, ?_, ?_⟩, keep_setb _, by simp⟩
    · simp [Instr.mapUpdate, run_underlying hm, MapKept.run_getObj_map h1, ck, MapKept.run_findKey hk b, MapKept.run_setObj_map _ h1, Result.andThen]
    · rw [c]; simp [h2, ekv, pkv]
    · exact stamped_push h3 (keys_ne h2 a)
  · have hj : es[0 + j]? = some e := by rw [Nat.zero_add]; simpa using b0
    have hkk : (((es[0 + j]?).map (·.key)).getD (.int q k)) = .int q k := by rw [hj]; exact b1
    have hst : (Instr.keyThatStays (.int q k) (.int q k)).run P w = .ok (.int q k) w := by simp [Instr.keyThatStays, Instr.sameBits]
    refine ⟨{ w with heap := w.heap.setIfInBounds r (.map (es.modify (0 + j) fun e => { e with key := .int q k, val := v }) clock) }, ?_, ⟨_, _, (heap_set h1).1, ?_, ?_⟩, keep_setb _, by simp⟩
    · simp only [Instr.mapUpdate, Sem.run_bind, run_underlying hm, MapKept.run_getObj_map h1, ck, MapKept.run_findKey hk b, Result.andThen, hkk, hst, MapKept.run_setObj_map _ h1]
    · rw [Nat.zero_add, Array.toList_modify]
      exact f1 _ v (fun _ => rfl) rfl
    · refine stamped_modify h3 _ _ (fun _ _ => rfl) (fun x _ hx => ?_)
      rw [hj] at hx
      cases hx
      exact b1.symm

/-- A delete. -/
theorem del_run (h : IMap q w r l) (hm : P.underlying mt = some (.map kt et)) (hk : P.underlying kt = some (.int q)) (k : Int) :
    ∃ w', (∀ ty : TypeId, (Builtin.delete_ #[mt, kt] ty #[.map (some r), .int q k]).run P w = .ok (.tuple #[]) w') ∧ MapSet q w r (mdel l k) w' := by
  obtain ⟨es, clock, h1, h2, h3⟩ := h
  have ck := ckey_i (w := w) hk es.isEmpty 9999 k
  rcases findNow_i q k es.toList l 0 h2 with ⟨a, b, -, c⟩ | ⟨j, v0, e, a, b0, b1, b, -, f2⟩
  · refine ⟨{ w with heap := w.heap.setIfInBounds r (.map es clock) }, ?_, ⟨_, _, (heap_set h1).1, ?_, h3⟩, keep_setb _, by simp⟩
    · intro ty; simp [Builtin.delete_, run_underlying hm, MapKept.run_getObj_map h1, ck, MapKept.run_findKey hk b, MapKept.run_setObj_map _ h1, Result.andThen]
    · rw [c]; exact h2
  · refine ⟨{ w with heap := w.heap.setIfInBounds r (.map (es.eraseIdxIfInBounds (0 + j)) clock) }, ?_, ⟨_, _, (heap_set h1).1, ?_, stamped_erase h3 _⟩, keep_setb _, by simp⟩
    · intro ty; simp [Builtin.delete_, run_underlying hm, MapKept.run_getObj_map h1, ck, MapKept.run_findKey hk b, MapKept.run_setObj_map _ h1, Result.andThen]
    · rw [Nat.zero_add, Array.toList_eraseIdxIfInBounds]
      exact f2

/-! The lists alone. -/
theorem mlook_put (l : List (Int × Value)) (k j : Int) (v : Value) : mlook (mput l k v) j = if j = k then some v else mlook l j := by
  induction l with
  | nil => simp [mput, mlook]
  | cons p l ih =>
    by_cases h : k = p.1
    · simp only [mput, if_pos h, mlook]
      by_cases hj : j = k
      · simp [hj]
      · rw [if_neg hj, if_neg hj, if_neg (by omega)]
    · simp only [mput, if_neg h, mlook, ih]
      by_cases hj : j = p.1
      · rw [if_pos hj, if_neg (by omega), if_pos hj]
      · rw [if_neg hj, if_neg hj]
def mkeys (l : List (Int × Value)) : List Int := l.map (·.1)
theorem mlook_none {l : List (Int × Value)} {j : Int} : mlook l j = none ↔ j ∉ mkeys l := by
  induction l with
  | nil => simp [mlook, mkeys]
  | cons p l ih =>
    by_cases h : j = p.1
    · simp [mlook, mkeys, h]
    · have h1 : mlook (p :: l) j = mlook l j := by simp [mlook, h]
      rw [h1, ih]
      simp [mkeys, h]
theorem mlook_del {l : List (Int × Value)} (hd : (mkeys l).Nodup) (k j : Int) : mlook (mdel l k) j = if j = k then none else mlook l j := by
  induction l with
  | nil => simp [mdel, mlook]
  | cons p l ih =>
    unfold mkeys at hd
    rw [List.map_cons, List.nodup_cons] at hd
    by_cases h : k = p.1
    · simp only [mdel, if_pos h, mlook]
      by_cases hj : j = k
      · rw [if_pos hj]; exact mlook_none.2 (by rw [hj, h]; exact hd.1)
      · rw [if_neg hj, if_neg (by omega)]
    · simp only [mdel, if_neg h, mlook]
      rw [ih hd.2]
      by_cases hj : j = p.1
      · rw [if_pos hj, if_pos hj, if_neg (by omega)]
      · rw [if_neg hj, if_neg hj]
theorem mkeys_put (l : List (Int × Value)) (k : Int) (v : Value) : mkeys (mput l k v) = if k ∈ mkeys l then mkeys l else mkeys l ++ [k] := by
  induction l with
  | nil => simp [mput, mkeys]
  | cons p l ih =>
    by_cases h : k = p.1
    · simp [mput, h, mkeys]
    · have h1 : mkeys (mput (p :: l) k v) = p.1 :: mkeys (mput l k v) := by simp [mput, h, mkeys]
      have h2 : mkeys (p :: l) = p.1 :: mkeys l := rfl
      rw [h1, h2, ih]
      by_cases hm : k ∈ mkeys l
      · rw [if_pos hm, if_pos (List.mem_cons_of_mem _ hm)]
      · rw [if_neg hm, if_neg (by simp [h, hm])]; rfl
theorem mkeys_put_nodup {l : List (Int × Value)} (h : (mkeys l).Nodup) (k : Int) (v : Value) : (mkeys (mput l k v)).Nodup := by
  rw [mkeys_put]
  split
  · exact h
  · rename_i hn
    rw [List.nodup_append]
    exact ⟨h, by simp, fun a ha b hb => by simp at hb; subst hb; intro e; subst e; exact hn ha⟩
theorem mkeys_del_sub (l : List (Int × Value)) (k : Int) : (mkeys (mdel l k)).Sublist (mkeys l) := by
  induction l with
  | nil => simp [mdel, mkeys]
  | cons p l ih =>
    unfold mkeys at *
    by_cases h : k = p.1
    · simp [mdel, h]
    · simp only [mdel, if_neg h, List.map_cons]
      exact ih.cons_cons _
theorem mkeys_del_nodup {l : List (Int × Value)} (h : (mkeys l).Nodup) (k : Int) : (mkeys (mdel l k)).Nodup := (mkeys_del_sub l k).nodup h
end
end Go.Lf

/-! A range over a map from integers: the keys come each once, in some order. Over any program. -/
set_option linter.unusedVariables false
set_option linter.unusedSimpArgs false
namespace Go.Lf
open Go.RowKit Go.MapKept Go.ChangeMaps
/-- Block r is an iterator over the map at block b; xs are the keys that it has given. -/
def IRng (q : IntKind) (w : World) (b r : Nat) (l : List (Int × Value)) (xs : List Int) : Prop :=
  ∃ es clock since seen c0, w.heap[b]? = some (.map es clock) ∧ es.toList.map ekv = l.map (pkv q) ∧ Stamped es clock ∧ w.heap[r]? = some (.mapIter (some b) since seen c0) ∧ (∀ x ∈ es.toList, x.born < since) ∧ since ≤ c0 ∧ since ≤ clock ∧
    (xs.map (Value.int q) ++ (leftOf es seen).toList.map (·.key)).Perm ((mkeys l).map (Value.int q))
theorem keys_ekv {q : IntKind} {es : List MapEntry} {l : List (Int × Value)} (h : es.map ekv = l.map (pkv q)) : es.map (·.key) = (mkeys l).map (Value.int q) := by
  have h1 := congrArg (List.map Prod.fst) h
  rw [List.map_map, List.map_map] at h1
  unfold mkeys
  rw [List.map_map]
  exact h1
theorem born_split : ∀ {l : List MapEntry}, (l.map (·.born)).Nodup → ∀ {e : MapEntry}, e ∈ l → l.Perm (e :: l.filter (fun x => x.born != e.born))
  | [], _, e, he => by cases he
  | a :: l, hn, e, he => by
    rw [List.map_cons, List.nodup_cons] at hn
    rcases List.mem_cons.1 he with rfl | he
    · have : l.filter (fun x => x.born != e.born) = l := List.filter_eq_self.2 fun x hx => by
        have : x.born ≠ e.born := fun h => hn.1 (h ▸ List.mem_map_of_mem hx)
        simpa using this
      rw [List.filter_cons_of_neg (by simp), this]
    · have hab : a.born ≠ e.born := fun h => hn.1 (h ▸ List.mem_map_of_mem he)
      rw [List.filter_cons_of_pos (by simpa using hab)]
      exact ((born_split hn.2 he).cons a).trans (List.Perm.swap _ _ _)
theorem left_push (es : Array MapEntry) (seen : Array Nat) (b : Nat) : (leftOf es (seen.push b)).toList = (leftOf es seen).toList.filter (fun x => x.born != b) := by
  unfold leftOf
  rw [Array.toList_filter, Array.toList_filter, List.filter_filter]
  apply List.filter_congr
  intro x _
  rw [contains_push]
  cases seen.contains x.born <;> cases h : (x.born == b) <;> simp [bne, h]
theorem val_int_inj {q : IntKind} {l m : List Int} (h : (l.map (Value.int q)).Perm (m.map (Value.int q))) : l.Perm m := by
  have h1 := h.map (fun v : Value => match v with | .int _ x => x | _ => 0)
  rw [List.map_map, List.map_map] at h1
  have e : ((fun v : Value => match v with | .int _ x => x | _ => 0) ∘ Value.int q) = id := rfl
  rw [e, List.map_id, List.map_id] at h1
  exact h1
section
variable {q : IntKind} {P : Program} {w w' : World} {b r : Nat} {l : List (Int × Value)} {xs : List Int} {t kt et : TypeId}
theorem IRng.keep (h : IRng q w b r l xs) {S : Nat → Prop} (hk : Keep S w w') (h1 : ¬ S b) (h2 : ¬ S r) : IRng q w' b r l xs := by
  obtain ⟨es, clock, since, seen, c0, a1, a2, a3, a4, a5⟩ := h
  exact ⟨es, clock, since, seen, c0, hk.at a1 h1, a2, a3, hk.at a4 h2, a5⟩
theorem IRng.len (h : IRng q w b r l xs) : xs.length ≤ l.length := by
  obtain ⟨es, clock, since, seen, c0, a1, a2, a3, a4, a5, a6, a7, a8⟩ := h
  have := a8.length_eq
  simp [mkeys] at this
  omega
theorem IRng.lt (h : IRng q w b r l xs) : r < w.heap.size := by
  obtain ⟨es, clock, since, seen, c0, a1, a2, a3, a4, a5, a6, a7, a8⟩ := h
  exact lt_of_block a4
theorem IRng.ne_row (h : IRng q w b r l xs) {e : TypeId} {size n : Nat} {v : Value} {ys : List Value} (ho : w.ownsRow 0 e size v n ys) : v.ownBlock ≠ some b ∧ v.ownBlock ≠ some r := by
  obtain ⟨es, clock, since, seen, c0, a1, a2, a3, a4, a5, a6, a7, a8⟩ := h
  rcases ho.2 with ⟨rfl, -⟩ | ⟨g, cap, cur, rfl, -, hg, -⟩
  · exact ⟨fun e => (by cases e), fun e => (by cases e)⟩
  · refine ⟨fun e => ?_, fun e => ?_⟩
    · simp only [Value.ownBlock, Option.some.injEq] at e
      subst e
      rw [a1] at hg
      cases hg
    · simp only [Value.ownBlock, Option.some.injEq] at e
      subst e
      rw [a4] at hg
      cases hg
theorem irng_start (h : IMap q w b l) : ∃ clock, (∀ (P : Program) (t kt et : TypeId), P.underlying t = some (.map kt et) → (Instr.range t (.map (some b))).run P w = .ok (.pointer (some ⟨w.heap.size, 0, none⟩)) (w.alloc (.mapIter (some b) clock #[] clock))) ∧ IRng q (w.alloc (.mapIter (some b) clock #[] clock)) b w.heap.size l [] := by
  obtain ⟨es, clock, h1, h2, h3⟩ := h
  refine ⟨clock, fun P t kt et ht => run_range_map w t kt et b es clock ht h1, es, clock, clock, #[], clock, alloc_old h1 _, h2, h3, heap_alloc_new w _, h3.1, Nat.le_refl _, Nat.le_refl _, ?_⟩
  rw [← keys_ekv h2]
  have : (leftOf es #[]).toList = es.toList := by
    unfold leftOf
    rw [Array.toList_filter]
    exact List.filter_eq_self.2 fun x _ => by simp
  rw [this]
  exact List.Perm.refl _
/-- The step. -/
theorem IRng.next (h : IRng q w b r l xs) (ty : TypeId) :
    ((Instr.next (.pointer (some ⟨r, 0, none⟩)) false ty).run P w = .ok (.tuple #[.bool false]) w ∧ xs.Perm (mkeys l)) ∨
    ∃ (x : Int) (v : Value) (w' : World), (Instr.next (.pointer (some ⟨r, 0, none⟩)) false ty).run P w = .ok (.tuple #[.bool true, .int q x, v]) w' ∧ IRng q w' b r l (xs ++ [x]) ∧ Keep (fun k => k = r) w w' ∧ w'.heap.size = w.heap.size ∧ (Instr.entry (.pointer (some ⟨r, 0, none⟩))).run P w' = .ok (.tuple #[.int q x, v]) w' := by
  obtain ⟨es, clock, since, seen, c0, hb, he, hst, hr, hold, hsc, hsk, hp⟩ := h
  have hne : r ≠ b := fun e => by subst e; rw [hb] at hr; cases hr
  have hst2 := (stamped_iff es clock).1 hst
  rcases run_next_at (P := P) w ty r b since c0 seen es clock hr hb hold hsc with ⟨h0, hrun⟩ | ⟨e, hmem, w1, hal, hrun⟩
  · refine .inl ⟨hrun, ?_⟩
    have : (leftOf es seen).toList = [] := List.eq_nil_of_length_eq_zero (by simpa using h0)
    rw [this] at hp
    simp only [List.map_nil, List.append_nil] at hp
    exact val_int_inj hp
  · obtain ⟨hem, hes⟩ := mem_left hmem
    obtain ⟨x, hx⟩ : ∃ x, e.key = .int q x := by
      have : e.key ∈ es.toList.map (·.key) := List.mem_map_of_mem hem
      rw [keys_ekv he, List.mem_map] at this
      obtain ⟨x, -, hx⟩ := this
      exact ⟨x, hx.symm⟩
    have hr1 : w1.heap[r]? = some (.mapIter (some b) since seen c0) := by rcases hal with rfl | rfl <;> exact hr
    have hb1 : w1.heap[b]? = some (.map es clock) := by rcases hal with rfl | rfl <;> exact hb
    have hset := heap_set (o' := .mapIter (some b) since (seen.push e.born) clock) hr1
    have hb' : (setBlock w1 r (.mapIter (some b) since (seen.push e.born) clock)).heap[b]? = some (.map es clock) := (hset.2 b (fun e1 => hne e1.symm)).trans hb1
    have hen := run_entry_at (P := P) _ r b since seen es clock e hset.1 hb' hem hst2.2.1
    rw [hx] at hrun hen
    refine .inr ⟨x, e.val, _, hrun, ⟨es, clock, since, seen.push e.born, clock, hb', he, hst, hset.1, hold, hsk, hsk, ?_⟩, ?_, ?_, hen⟩
    · have hnd : ((leftOf es seen).toList.map (·.born)).Nodup := by
        have : (leftOf es seen).toList.Sublist es.toList := by unfold leftOf; rw [Array.toList_filter]; exact List.filter_sublist
        exact (this.map _).nodup hst2.2.1
      have h1 := (born_split hnd hmem).map (·.key)
      rw [List.map_cons, hx, ← left_push] at h1
      rw [List.map_append, List.append_assoc]
      exact (List.Perm.append_left _ h1.symm).trans hp
    · rcases hal with rfl | rfl <;> exact ⟨rfl, rfl, rfl, by simp [setBlock], fun i _ hi => hset.2 i hi⟩
    · rcases hal with rfl | rfl <;> simp [setBlock]
end
section
variable {q : IntKind} {P : Program} (w : World) {ops : Array Oper} {rest : List Oper} {o : Oper} {a : Act} {Q : Exit → Act → World → Prop} {b r : Nat} {l : List (Int × Value)} {xs : List Int} {t kt et : TypeId}
theorem wpList_range_imap (hg : o.guard = none) (m : Operand) (hop : o.op = Op.range t m) (ht : P.underlying t = some (.map kt et)) (hm : a.eval m = .map (some b)) (h : IMap q w b l)
    (hK : ∀ w', IRng q w' b w.heap.size l [] → Keep Nil w w' → w'.heap.size = w.heap.size + 1 → wpList P ops Q rest (a.put o.dst (.pointer (some ⟨w.heap.size, 0, none⟩))) w') : wpList P ops Q (o :: rest) a w := by
  refine wpList_plain hg fun K' hK' => ?_
  obtain ⟨clock, hrun, hi⟩ := irng_start h
  have hrun := hrun P t kt et ht
  unfold Oper.wp
  simp [execOp, hop, hm, hrun, Result.andThen]
  exact hK' _ _ (hK _ hi ((Keep.refl Nil w).alloc _) (by simp))
theorem wpList_next_imap (hg : o.guard = none) (it : Operand) (hop : o.op = Op.next it false) (hit : a.eval it = .pointer (some ⟨r, 0, none⟩)) (h : IRng q w b r l xs)
    (hDone : xs.Perm (mkeys l) → wpList P ops Q rest (a.put o.dst (.tuple #[.bool false])) w)
    (hMore : ∀ (x : Int) (v : Value) (w' : World), IRng q w' b r l (xs ++ [x]) → Keep (fun k => k = r) w w' → w'.heap.size = w.heap.size → (Instr.entry (.pointer (some ⟨r, 0, none⟩))).run P w' = .ok (.tuple #[.int q x, v]) w' → wpList P ops Q rest (a.put o.dst (.tuple #[.bool true, .int q x, v])) w') :
    wpList P ops Q (o :: rest) a w := by
  refine wpList_plain hg fun K' hK' => ?_
  unfold Oper.wp
  rcases h.next (P := P) o.type with ⟨hrun, hp⟩ | ⟨x, v, w', hrun, h1, h2, h3, h4⟩
  · simp [execOp, hop, hit, hrun, Result.andThen]
    exact hK' _ _ (hDone hp)
  · simp [execOp, hop, hit, hrun, Result.andThen]
    exact hK' _ _ (hMore x v w' h1 h2 h3 h4)
end
end Go.Lf
