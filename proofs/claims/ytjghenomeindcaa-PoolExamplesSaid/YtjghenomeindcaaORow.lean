/- Rows of integers that may begin behind their block's first cell: append, parts. Over any program. -/
import Derived.Test.YtjghenomeindcaaBase
import Derived.ArgAppend
set_option linter.unusedVariables false
set_option linter.unusedSimpArgs false
namespace Go.Lf
open Go.RowKit
def ivs (l : List Int) : List Value := l.map (Value.int .i64)
theorem ivs_len (l : List Int) : (ivs l).length = l.length := by simp [ivs]
theorem ivs_at {l : List Int} {i : Nat} {x : Int} (h : l[i]? = some x) : (ivs l)[i]? = some (.int .i64 x) := by simp [ivs, h]
theorem ivs_snoc (l : List Int) (x : Int) : ivs (l ++ [x]) = ivs l ++ [.int .i64 x] := by simp [ivs]
/-- A slice of integers: nil, or a part of a block of cells. -/
def ORow (w : World) (e : TypeId) (v : Value) (zs : List Int) : Prop :=
  ∃ a cp, v = .slice a zs.length cp ∧ ((a = none ∧ zs = [] ∧ cp = 0) ∨
    ∃ g off cur, a = some ⟨g, off, none⟩ ∧ w.heap[g]? = some (.cells cur e (0, 0)) ∧ zs.length ≤ cp ∧ cp ≤ maxLen ∧ off + cp ≤ cur.size ∧ ∀ i x, zs[i]? = some x → cur[off + i]? = some (.int .i64 x))
section
variable {w w' : World} {e : TypeId} {v : Value} {zs : List Int}
theorem ORow.nil (w : World) (e : TypeId) : ORow w e (.slice none 0 0) [] := ⟨none, 0, rfl, .inl ⟨rfl, rfl, rfl⟩⟩
theorem ORow.keep (h : ORow w e v zs) {S : Nat → Prop} (hk : Keep S w w') (hn : ∀ k, v.ownBlock = some k → ¬ S k) : ORow w' e v zs := by
  obtain ⟨a, cp, rfl, h⟩ := h
  refine ⟨a, cp, rfl, ?_⟩
  rcases h with h | ⟨g, off, cur, rfl, hg, r⟩
  · exact .inl h
  · exact .inr ⟨g, off, cur, rfl, hk.at hg (hn g rfl), r⟩
theorem ORow.shape (h : ORow w e v zs) : ∃ a cp, v = .slice a zs.length cp := by
  obtain ⟨a, cp, rfl, -⟩ := h
  exact ⟨a, cp, rfl⟩
theorem ORow.of_row {n : Nat} (h : w.ownsRow 0 e 1 v n (ivs zs)) : ORow w e v zs := by
  have hl : n = zs.length := by have := h.1; rw [ivs_len] at this; omega
  subst hl
  rcases h.2 with ⟨rfl, h0⟩ | ⟨g, cap, cur, rfl, -, hg, hnc, hcm, hcs, htake⟩
  · have hz : zs = [] := List.eq_nil_of_length_eq_zero h0
    subst hz
    exact ORow.nil w e
  · refine ⟨_, cap, rfl, .inr ⟨g, 0, cur, rfl, hg, hnc, hcm, by omega, fun i x hx => ?_⟩⟩
    have h1 := ivs_at hx
    rw [← htake, List.getElem?_take] at h1
    have hi : i < zs.length := (List.getElem?_eq_some_iff.1 hx).1
    rw [if_pos (by omega)] at h1
    rw [Nat.zero_add]
    simpa using h1
theorem ORow.cell (h : ORow w e v zs) {i : Nat} {x : Int} (hx : zs[i]? = some x) : ∃ g off cp, v = .slice (some ⟨g, off, none⟩) zs.length cp ∧ w.cell? ⟨g, off + i, none⟩ = some (.int .i64 x) := by
  obtain ⟨a, cp, rfl, ⟨-, rfl, -⟩ | ⟨g, off, cur, rfl, hg, -, -, -, hc⟩⟩ := h
  · cases hx
  · exact ⟨g, off, cp, rfl, by rw [cell_of hg]; exact hc i x hx⟩
theorem ORow.lt (h : ORow w e v zs) (k : Nat) (hk : v.ownBlock = some k) : k < w.heap.size := by
  obtain ⟨a, cp, rfl, ⟨rfl, -, -⟩ | ⟨g, off, cur, rfl, hg, -⟩⟩ := h
  · cases hk
  · cases hk; exact lt_of_block hg
/-- All but the last. -/
theorem ORow.init {x : Int} (h : ORow w e v (zs ++ [x])) : ∃ g off cp, v = .slice (some ⟨g, off, none⟩) (zs.length + 1) cp ∧ zs.length + 1 ≤ cp ∧ cp ≤ maxLen ∧ ORow w e (.slice (some ⟨g, off, none⟩) zs.length cp) zs := by
  obtain ⟨a, cp, rfl, ⟨-, h0, -⟩ | ⟨g, off, cur, rfl, hg, h1, h2, h3, hc⟩⟩ := h
  · simp at h0
  · rw [List.length_append, List.length_singleton] at h1 ⊢
    exact ⟨g, off, cp, rfl, h1, h2, _, cp, rfl, .inr ⟨g, off, cur, rfl, hg, by omega, h2, h3, fun i y hy => hc i y (by rw [List.getElem?_append_left (List.getElem?_eq_some_iff.1 hy).1]; exact hy)⟩⟩
/-- All but the first. -/
theorem ORow.rest {x : Int} (h : ORow w e v (x :: zs)) : ∃ g off cp, v = .slice (some ⟨g, off, none⟩) (zs.length + 1) cp ∧ zs.length + 1 ≤ cp ∧ cp ≤ maxLen ∧ w.cell? ⟨g, off, none⟩ = some (.int .i64 x) ∧
    ((cp = 1 ∧ ORow w e (.slice (some ⟨g, off, none⟩) zs.length (cp - 1)) zs) ∨ (cp ≠ 1 ∧ ORow w e (.slice (some ⟨g, off + 1, none⟩) zs.length (cp - 1)) zs)) := by
  obtain ⟨a, cp, rfl, ⟨-, h0, -⟩ | ⟨g, off, cur, rfl, hg, h1, h2, h3, hc⟩⟩ := h
  · cases h0
  · rw [List.length_cons] at h1 ⊢
    refine ⟨g, off, cp, rfl, h1, h2, by rw [cell_of hg]; exact hc 0 x rfl, ?_⟩
    by_cases hcp : cp = 1
    · subst hcp
      have hz : zs = [] := List.eq_nil_of_length_eq_zero (by omega)
      subst hz
      exact .inl ⟨rfl, _, 0, rfl, .inr ⟨g, off, cur, rfl, hg, Nat.le_refl _, Nat.zero_le _, by omega, fun i y hy => by cases hy⟩⟩
    · refine .inr ⟨hcp, _, cp - 1, rfl, .inr ⟨g, off + 1, cur, rfl, hg, by omega, by omega, by omega, fun i y hy => ?_⟩⟩
      rw [show off + 1 + i = off + (i + 1) by omega]
      exact hc (i + 1) y (by rw [List.getElem?_cons_succ]; exact hy)
end
section
variable {P : Program} (w : World)
/-- append of one number. -/
theorem run_oapp (t ty e : TypeId) (ht : P.underlying t = some (.slice e)) (hinfo : (P.info? e).map (fun i => (i.zero, i.size, i.bytes)) = some (some (.int .i64 0), 1, 8))
    (v : Value) (zs : List Int) (hown : ORow w e v zs) (x : Int) (sv : Value) (hrd : Rd w 1 sv 1 [.int .i64 x]) (hb : zs.length < 1000000) :
    ∃ v' w', (Builtin.append_ #[t, t] ty #[v, sv]).run P w = .ok v' w' ∧ ORow w' e v' (zs ++ [x]) ∧ ORow w' e v zs ∧ w.grownBy w' v.ownBlock ∧ RowStep w v v' := by
  obtain ⟨b, soff, sc, rfl, hs⟩ := Rd.cell hrd (by decide)
  have hsx : ∀ (j : Nat) (u : Value), ([.int .i64 x] : List Value)[j]? = some u → w.cell? ((⟨b, soff, none⟩ : Addr).add j) = some u := fun j u hu => by rw [addr_add]; exact hs j u hu
  have h1 : ∀ u ∈ ([.int .i64 x] : List Value), u.oneCell' = true := by simp [Value.oneCell']
  obtain ⟨i, hi, hz, hsize, hby⟩ := info_parts hinfo
  have fresh : ∀ v' w', w'.ownsRow 0 e 1 v' (zs.length + 1) (ivs zs ++ [.int .i64 x]) → ORow w' e v' (zs ++ [x]) := fun v' w' h => ORow.of_row (by rw [ivs_snoc]; exact h)
  obtain ⟨a, cp, rfl, ⟨rfl, rfl, rfl⟩ | ⟨g, off, cur, rfl, hg, c1, c2, c3, hc⟩⟩ := hown
  · obtain ⟨v', w', hr, ho, hgr, hst⟩ := run_app_rd (P := P) w t ty e (.int .i64 0) 1 8 ht hinfo rfl (by decide) (.slice none 0 0) 0 [] (World.ownsRow_nil _ _ _ _) _ 1 [.int .i64 x] hrd h1 (by omega) (by unfold maxLen; omega)
    exact ⟨v', w', hr, fresh v' w' ho, ORow.nil w' e, hgr, hst⟩
  · by_cases hroom : zs.length + 1 ≤ cp
    · have hlt : off + zs.length < cur.size := by omega
      have hcc : ∀ j, j < ([.int .i64 x] : List Value).length → (w.cell? ⟨g, off + zs.length * i.size + j, none⟩).isSome = true := fun j hj => by
        have : j = 0 := by simpa using hj
        subst this
        rw [hsize, cell_of hg, Array.getElem?_eq_getElem (by omega)]
        rfl
      have hr := run_append_room_cells (P := P) w t ty e i ht hi g off zs.length cp ⟨b, soff, none⟩ 1 sc [.int .i64 x] (by rw [hsize]; rfl) hsx h1 hroom hcc (fun j hj => free_of hg _)
      rw [hsize] at hr
      refine ⟨_, _, hr, ?_, ?_, ?_, fun k hk => .inl hk⟩
      · refine ⟨_, cp, by rw [List.length_append]; rfl, .inr ⟨g, off, cur.setIfInBounds (off + zs.length) (.int .i64 x), rfl, ?_, by rw [List.length_append]; exact hroom, c2, by simpa using c3, fun j y hy => ?_⟩⟩
        · show (w.setCell ⟨g, off + zs.length * 1, none⟩ (.int .i64 x)).heap[g]? = _
          rw [Nat.mul_one]
          exact set_same hg _
        · rw [Array.getElem?_setIfInBounds]
          by_cases hj : off + zs.length = off + j
          · have : j = zs.length := by omega
            subst this
            rw [List.getElem?_concat_length] at hy
            cases hy
            rw [if_pos rfl, if_pos hlt]
          · rw [if_neg hj]
            have hl := (List.getElem?_eq_some_iff.1 hy).1
            rw [List.length_append, List.length_singleton] at hl
            rw [List.getElem?_append_left (by omega)] at hy
            exact hc j y hy
      · refine ⟨_, cp, rfl, .inr ⟨g, off, cur.setIfInBounds (off + zs.length) (.int .i64 x), rfl, ?_, c1, c2, by simpa using c3, fun j y hy => ?_⟩⟩
        · show (w.setCell ⟨g, off + zs.length * 1, none⟩ (.int .i64 x)).heap[g]? = _
          rw [Nat.mul_one]
          exact set_same hg _
        · have hl := (List.getElem?_eq_some_iff.1 hy).1
          rw [Array.getElem?_setIfInBounds_ne (by omega)]
          exact hc j y hy
      · exact ⟨rfl, rfl, rfl, by show w.heap.size ≤ (w.setCell ⟨g, off + zs.length * 1, none⟩ (.int .i64 x)).heap.size; simp [World.setCell], fun k hk hne => by
          show (w.setCell ⟨g, off + zs.length * 1, none⟩ (.int .i64 x)).heap[k]? = _
          rw [Below.heap_setCell w _ _ k (fun e => hne (by rw [e]; rfl))]⟩
    · have holds : ∀ (j : Nat) (u : Value), (ivs zs)[j]? = some u → w.cell? ((⟨g, off, none⟩ : Addr).add j) = some u := fun j u hu => by
        rw [addr_add, cell_of hg]
        unfold ivs at hu
        rw [List.getElem?_map] at hu
        cases hz : zs[j]? with
        | none => rw [hz] at hu; cases hu
        | some y => rw [hz] at hu; cases hu; exact hc j y hz
      obtain ⟨v', w', hr, ho, hgr⟩ := run_append_arg_grows (P := P) w t ty e i (.int .i64 0) 1 8 ht hi hz hsize hby rfl (by decide) ⟨g, off, none⟩ zs.length cp (ivs zs) (by rw [ivs_len]; omega) holds ⟨b, soff, none⟩ 1 sc [.int .i64 x] rfl hsx (by omega) (by unfold maxLen; omega) (by omega)
      refine ⟨v', w', hr, fresh v' w' ⟨ho.1, ?_⟩, ?_, ⟨hgr.os, hgr.tape, hgr.output, hgr.size, fun k hk _ => hgr.block k hk (by simp)⟩, fun k hk => .inr (ho.lt k hk).1⟩
      · rcases ho.2 with h | ⟨g', cap', cur', h1, h2, h3⟩
        · exact .inl h
        · exact .inr ⟨g', cap', cur', h1, Nat.zero_le _, h3⟩
      · exact ⟨_, cp, rfl, .inr ⟨g, off, cur, rfl, (hgr.block g (lt_of_block hg) (by simp)).trans hg, c1, c2, c3, hc⟩⟩
/-- The same append as a step of a region that draws its order. -/
theorem step_oapp {ops : Array Oper} {o : Oper} {a : Act} {K : Act → World → Prop} {Q : Exit → Act → World → Prop} {E : Prop} (hgd : o.guard = none) (s x : Operand) (t : TypeId)
    (ho : o.op = .call { callee := .builtin .append, args := #[s, x], argTypes := #[t, t] })
    (e : TypeId) (ht : P.underlying t = some (.slice e)) (hinfo : (P.info? e).map (fun i => (i.zero, i.size, i.bytes)) = some (some (.int .i64 0), 1, 8))
    (v : Value) (zs : List Int) (hs : a.eval s = v) (hown : ORow w e v zs) (y : Int) (sv : Value) (hx : a.eval x = sv) (hrd : Rd w 1 sv 1 [.int .i64 y]) (hb : zs.length < 1000000)
    (h : ∀ a' c' w', ORow w' e (.slice a' (zs.length + 1) c') (zs ++ [y]) → ORow w' e v zs → w.grownBy w' v.ownBlock → RowStep w v (.slice a' (zs.length + 1) c') → K (a.put o.dst (.slice a' (zs.length + 1) c')) w') :
    if Region.wanted o (yielded ops a.tmps) = true then Oper.wp P o a w K Q else E := by
  have hw : Region.wanted o (yielded ops a.tmps) = true := by simp [Region.wanted, hgd]
  rw [if_pos hw]
  obtain ⟨v', w', hr, h2, h3, h4, h5⟩ := run_oapp (P := P) w t o.type e ht hinfo v zs hown y sv hrd hb
  unfold Oper.wp execOp
  simp only [ho, resolve, invoke, builtin, Sem.run_bind, Sem.run_pure, Result.andThen_ok, List.map_toArray, List.map_cons, List.map_nil, hs, hx, hr]
  obtain ⟨a', c', rfl⟩ := h2.shape
  rw [show (zs ++ [y]).length = zs.length + 1 by simp] at h2 h5 ⊢
  exact h a' c' w' h2 h3 h4 h5
end
end Go.Lf
