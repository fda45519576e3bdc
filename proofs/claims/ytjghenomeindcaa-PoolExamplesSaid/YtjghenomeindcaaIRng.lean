/- A range over a map from integers: the keys come each once, in some order. Over any program. -/
import Derived.Test.YtjghenomeindcaaIMap
import Derived.Maps.RangeWalk
set_option linter.unusedVariables false
set_option linter.unusedSimpArgs false
namespace Go.Lf
open Go.RowKit Go.MapKept Go.ChangeMaps
/-- Block r is an iterator over the map at block b; xs are the keys that it has given. -/
def IRng (q : IntKind) (w : World) (b r : Nat) (l : List (Int × Value)) (xs : List Int) : Prop :=
  ∃ es clock since seen c0, w.heap[b]? = some (.map es clock) ∧ es.toList.map ekv = l.map (pkv q) ∧ Stamped es clock ∧ w.heap[r]? = some (.mapIter (some b) since seen c0) ∧ (∀ x ∈ es.toList, x.born < since) ∧ since ≤ c0 ∧ since ≤ clock ∧
    (xs.map (Value.int q) ++ (leftOf es seen).toList.map (·.key)).Perm ((mkeys l).map (Value.int q))
theorem keys_ekv {q : IntKind} {es : List MapEntry} {l : List (Int × Value)} (h : es.map ekv = l.map (pkv q)) : es.map (·.key) = (mkeys l).map (Value.int q) := by
  have h1 := congrArg (List.map Prod.fst) h
  rw [List.map_map, List.map_map] at h1
  unfold mkeys
  rw [List.map_map]
  exact h1
theorem born_split : ∀ {l : List MapEntry}, (l.map (·.born)).Nodup → ∀ {e : MapEntry}, e ∈ l → l.Perm (e :: l.filter (fun x => x.born != e.born))
  | [], _, e, he => by cases he
  | a :: l, hn, e, he => by
    rw [List.map_cons, List.nodup_cons] at hn
    rcases List.mem_cons.1 he with rfl | he
    · have : l.filter (fun x => x.born != e.born) = l := List.filter_eq_self.2 fun x hx => by
        have : x.born ≠ e.born := fun h => hn.1 (h ▸ List.mem_map_of_mem hx)
        simpa using this
      rw [List.filter_cons_of_neg (by simp), this]
    · have hab : a.born ≠ e.born := fun h => hn.1 (h ▸ List.mem_map_of_mem he)
      rw [List.filter_cons_of_pos (by simpa using hab)]
      exact ((born_split hn.2 he).cons a).trans (List.Perm.swap _ _ _)
theorem left_push (es : Array MapEntry) (seen : Array Nat) (b : Nat) : (leftOf es (seen.push b)).toList = (leftOf es seen).toList.filter (fun x => x.born != b) := by
  unfold leftOf
  rw [Array.toList_filter, Array.toList_filter, List.filter_filter]
  apply List.filter_congr
  intro x _
  rw [contains_push]
  cases seen.contains x.born <;> cases h : (x.born == b) <;> simp [bne, h]
theorem val_int_inj {q : IntKind} {l m : List Int} (h : (l.map (Value.int q)).Perm (m.map (Value.int q))) : l.Perm m := by
  have h1 := h.map (fun v : Value => match v with | .int _ x => x | _ => 0)
  rw [List.map_map, List.map_map] at h1
  have e : ((fun v : Value => match v with | .int _ x => x | _ => 0) ∘ Value.int q) = id := rfl
  rw [e, List.map_id, List.map_id] at h1
  exact h1
section
variable {q : IntKind} {P : Program} {w w' : World} {b r : Nat} {l : List (Int × Value)} {xs : List Int} {t kt et : TypeId}
theorem IRng.keep (h : IRng q w b r l xs) {S : Nat → Prop} (hk : Keep S w w') (h1 : ¬ S b) (h2 : ¬ S r) : IRng q w' b r l xs := by
  obtain ⟨es, clock, since, seen, c0, a1, a2, a3, a4, a5⟩ := h
  exact ⟨es, clock, since, seen, c0, hk.at a1 h1, a2, a3, hk.at a4 h2, a5⟩
theorem IRng.len (h : IRng q w b r l xs) : xs.length ≤ l.length := by
  obtain ⟨es, clock, since, seen, c0, a1, a2, a3, a4, a5, a6, a7, a8⟩ := h
  have := a8.length_eq
  simp [mkeys] at this
  omega
theorem IRng.lt (h : IRng q w b r l xs) : r < w.heap.size := by
  obtain ⟨es, clock, since, seen, c0, a1, a2, a3, a4, a5, a6, a7, a8⟩ := h
  exact lt_of_block a4
theorem IRng.ne_row (h : IRng q w b r l xs) {e : TypeId} {size n : Nat} {v : Value} {ys : List Value} (ho : w.ownsRow 0 e size v n ys) : v.ownBlock ≠ some b ∧ v.ownBlock ≠ some r := by
  obtain ⟨es, clock, since, seen, c0, a1, a2, a3, a4, a5, a6, a7, a8⟩ := h
  rcases ho.2 with ⟨rfl, -⟩ | ⟨g, cap, cur, rfl, -, hg, -⟩
  · exact ⟨fun e => (by cases e), fun e => (by cases e)⟩
  · refine ⟨fun e => ?_, fun e => ?_⟩
    · simp only [Value.ownBlock, Option.some.injEq] at e
      subst e
      rw [a1] at hg
      cases hg
    · simp only [Value.ownBlock, Option.some.injEq] at e
      subst e
      rw [a4] at hg
      cases hg
theorem irng_start (h : IMap q w b l) : ∃ clock, (∀ (P : Program) (t kt et : TypeId), P.underlying t = some (.map kt et) → (Instr.range t (.map (some b))).run P w = .ok (.pointer (some ⟨w.heap.size, 0, none⟩)) (w.alloc (.mapIter (some b) clock #[] clock))) ∧ IRng q (w.alloc (.mapIter (some b) clock #[] clock)) b w.heap.size l [] := by
  obtain ⟨es, clock, h1, h2, h3⟩ := h
  refine ⟨clock, fun P t kt et ht => run_range_map w t kt et b es clock ht h1, es, clock, clock, #[], clock, alloc_old h1 _, h2, h3, heap_alloc_new w _, h3.1, Nat.le_refl _, Nat.le_refl _, ?_⟩
  rw [← keys_ekv h2]
  have : (leftOf es #[]).toList = es.toList := by
    unfold leftOf
    rw [Array.toList_filter]
    exact List.filter_eq_self.2 fun x _ => by simp
  rw [this]
  exact List.Perm.refl _
/-- The step. -/
theorem IRng.next (h : IRng q w b r l xs) (ty : TypeId) :
    ((Instr.next (.pointer (some ⟨r, 0, none⟩)) false ty).run P w = .ok (.tuple #[.bool false]) w ∧ xs.Perm (mkeys l)) ∨
    ∃ (x : Int) (v : Value) (w' : World), (Instr.next (.pointer (some ⟨r, 0, none⟩)) false ty).run P w = .ok (.tuple #[.bool true, .int q x, v]) w' ∧ IRng q w' b r l (xs ++ [x]) ∧ Keep (fun k => k = r) w w' ∧ w'.heap.size = w.heap.size ∧ (Instr.entry (.pointer (some ⟨r, 0, none⟩))).run P w' = .ok (.tuple #[.int q x, v]) w' := by
  obtain ⟨es, clock, since, seen, c0, hb, he, hst, hr, hold, hsc, hsk, hp⟩ := h
  have hne : r ≠ b := fun e => by subst e; rw [hb] at hr; cases hr
  have hst2 := (stamped_iff es clock).1 hst
  rcases run_next_at (P := P) w ty r b since c0 seen es clock hr hb hold hsc with ⟨h0, hrun⟩ | ⟨e, hmem, w1, hal, hrun⟩
  · refine .inl ⟨hrun, ?_⟩
    have : (leftOf es seen).toList = [] := List.eq_nil_of_length_eq_zero (by simpa using h0)
    rw [this] at hp
    simp only [List.map_nil, List.append_nil] at hp
    exact val_int_inj hp
  · obtain ⟨hem, hes⟩ := mem_left hmem
    obtain ⟨x, hx⟩ : ∃ x, e.key = .int q x := by
      have : e.key ∈ es.toList.map (·.key) := List.mem_map_of_mem hem
      rw [keys_ekv he, List.mem_map] at this
      obtain ⟨x, -, hx⟩ := this
      exact ⟨x, hx.symm⟩
    have hr1 : w1.heap[r]? = some (.mapIter (some b) since seen c0) := by rcases hal with rfl | rfl <;> exact hr
    have hb1 : w1.heap[b]? = some (.map es clock) := by rcases hal with rfl | rfl <;> exact hb
    have hset := heap_set (o' := .mapIter (some b) since (seen.push e.born) clock) hr1
    have hb' : (setBlock w1 r (.mapIter (some b) since (seen.push e.born) clock)).heap[b]? = some (.map es clock) := (hset.2 b (fun e1 => hne e1.symm)).trans hb1
    have hen := run_entry_at (P := P) _ r b since seen es clock e hset.1 hb' hem hst2.2.1
    rw [hx] at hrun hen
    refine .inr ⟨x, e.val, _, hrun, ⟨es, clock, since, seen.push e.born, clock, hb', he, hst, hset.1, hold, hsk, hsk, ?_⟩, ?_, ?_, hen⟩
    · have hnd : ((leftOf es seen).toList.map (·.born)).Nodup := by
        have : (leftOf es seen).toList.Sublist es.toList := by unfold leftOf; rw [Array.toList_filter]; exact List.filter_sublist
        exact (this.map _).nodup hst2.2.1
      have h1 := (born_split hnd hmem).map (·.key)
      rw [List.map_cons, hx, ← left_push] at h1
      rw [List.map_append, List.append_assoc]
      exact (List.Perm.append_left _ h1.symm).trans hp
    · rcases hal with rfl | rfl <;> exact ⟨rfl, rfl, rfl, by simp [setBlock], fun i _ hi => hset.2 i hi⟩
    · rcases hal with rfl | rfl <;> simp [setBlock]
end
section
variable {q : IntKind} {P : Program} (w : World) {ops : Array Oper} {rest : List Oper} {o : Oper} {a : Act} {Q : Exit → Act → World → Prop} {b r : Nat} {l : List (Int × Value)} {xs : List Int} {t kt et : TypeId}
theorem wpList_range_imap (hg : o.guard = none) (m : Operand) (hop : o.op = Op.range t m) (ht : P.underlying t = some (.map kt et)) (hm : a.eval m = .map (some b)) (h : IMap q w b l)
    (hK : ∀ w', IRng q w' b w.heap.size l [] → Keep Nil w w' → w'.heap.size = w.heap.size + 1 → wpList P ops Q rest (a.put o.dst (.pointer (some ⟨w.heap.size, 0, none⟩))) w') : wpList P ops Q (o :: rest) a w := by
  refine wpList_plain hg fun K' hK' => ?_
  obtain ⟨clock, hrun, hi⟩ := irng_start h
  have hrun := hrun P t kt et ht
  unfold Oper.wp
  simp [execOp, hop, hm, hrun, Result.andThen]
  exact hK' _ _ (hK _ hi ((Keep.refl Nil w).alloc _) (by simp))
theorem wpList_next_imap (hg : o.guard = none) (it : Operand) (hop : o.op = Op.next it false) (hit : a.eval it = .pointer (some ⟨r, 0, none⟩)) (h : IRng q w b r l xs)
    (hDone : xs.Perm (mkeys l) → wpList P ops Q rest (a.put o.dst (.tuple #[.bool false])) w)
    (hMore : ∀ (x : Int) (v : Value) (w' : World), IRng q w' b r l (xs ++ [x]) → Keep (fun k => k = r) w w' → w'.heap.size = w.heap.size → (Instr.entry (.pointer (some ⟨r, 0, none⟩))).run P w' = .ok (.tuple #[.int q x, v]) w' → wpList P ops Q rest (a.put o.dst (.tuple #[.bool true, .int q x, v])) w') :
    wpList P ops Q (o :: rest) a w := by
  refine wpList_plain hg fun K' hK' => ?_
  unfold Oper.wp
  rcases h.next (P := P) o.type with ⟨hrun, hp⟩ | ⟨x, v, w', hrun, h1, h2, h3, h4⟩
  · simp [execOp, hop, hit, hrun, Result.andThen]
    exact hK' _ _ (hDone hp)
  · simp [execOp, hop, hit, hrun, Result.andThen]
    exact hK' _ _ (hMore x v w' h1 h2 h3 h4)
end
end Go.Lf
