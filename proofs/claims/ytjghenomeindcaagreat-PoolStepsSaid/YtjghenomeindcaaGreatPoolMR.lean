/- PoolSteps: the walk's own row of operations beside the two sides. -/
import Derived.Test.YtjghenomeindcaaGreatPoolOp
import Derived.Test.YtjghenomeindcaaGreatPoolFG
import Derived.Test.YtjghenomeindcaaGreatIndex
set_option linter.unusedVariables false
set_option linter.unusedSimpArgs false
namespace Go.Lf
/-- An event of PoolSteps, as data. -/
structure PEvV where
  d : Int
  th : Int
  ht : Int
  tr : Int
  tw : Int
  rn : Int
open Go.RowKit in
def PEvV.cells (x : PEvV) : List Value := [.int .u8 x.d, .int .i64 x.th, .int .i64 x.ht, .int .i64 x.tr, .int .i64 x.tw, .int .i64 x.rn]
def PEvV.wf (x : PEvV) : Prop := (Lit.int .u8 x.d).wf = true ∧ (Lit.int .i64 x.th).wf = true ∧ (Lit.int .i64 x.ht).wf = true ∧ (Lit.int .i64 x.tr).wf = true ∧ (Lit.int .i64 x.tw).wf = true ∧ (Lit.int .i64 x.rn).wf = true
def pevCells (l : List PEvV) : List Value := l.flatMap PEvV.cells
theorem pevCells_at {l : List PEvV} {k j : Nat} {x : PEvV} {u : Value} (hx : l[k]? = some x) (hu : x.cells[j]? = some u) : (pevCells l)[k * 6 + j]? = some u := by
  induction l generalizing k with
  | nil => cases hx
  | cons y l ih =>
    cases k with
    | zero =>
      have e : y = x := by simpa using hx
      subst e
      have hj : j < y.cells.length := (List.getElem?_eq_some_iff.1 hu).1
      simp only [pevCells, List.flatMap_cons, Nat.zero_mul, Nat.zero_add]
      rw [List.getElem?_append_left hj]; exact hu
    | succ k =>
      have h1 : l[k]? = some x := by simpa using hx
      have h2 := ih h1
      simp only [pevCells, List.flatMap_cons] at h2 ⊢
      rw [List.getElem?_append_right (by show 6 ≤ _; omega), show (k + 1) * 6 + j - y.cells.length = k * 6 + j by show _ - 6 = _; omega]
      exact h2
theorem few_six {y1 y2 y3 y4 y5 y6 : Int} (h : FewP [y1, y2, y3, y4, y5, y6]) : ∃ t1 t2 t3 t4 t5 t6 : Nat, y1 = t1 ∧ y2 = t2 ∧ y3 = t3 ∧ y4 = t4 ∧ y5 = t5 ∧ y6 = t6 ∧ [t1, t2, t3, t4, t5, t6].sum ≤ 40 := by
  obtain ⟨ts, he, hs⟩ := h.nats
  match ts, he with
  | [a, b, c, d, e, f], he =>
    simp only [List.map_cons, List.map_nil, List.cons.injEq, and_true] at he
    exact ⟨a, b, c, d, e, f, he.1, he.2.1, he.2.2.1, he.2.2.2.1, he.2.2.2.2.1, he.2.2.2.2.2, hs⟩
end Go.Lf
namespace Go.Proofs.YtjghenomeindcaaGreat
open Go.RowKit Go.Lf
theorem infoOp14 : (Tryz.prog.info? 93).map (fun i => (i.zero, i.size, i.bytes)) = some (some (.agg #[.pointer none, .pointer none, .pointer none]), 3, 24) := by kernel_rfl
theorem box6 {W : World} {cb : Nat} {x0 x1 x2 x3 x4 x5 : Value} {t : TypeId} (h : W.heap[cb]? = some (.cells #[x0, x1, x2, x3, x4, x5] t (0, 0))) : W.cell? ⟨cb, 0, none⟩ = some x0 ∧ W.cell? ⟨cb, 1, none⟩ = some x1 ∧ W.cell? ⟨cb, 2, none⟩ = some x2 ∧ W.cell? ⟨cb, 3, none⟩ = some x3 ∧ W.cell? ⟨cb, 4, none⟩ = some x4 ∧ W.cell? ⟨cb, 5, none⟩ = some x5 := by
  refine ⟨?_, ?_, ?_, ?_, ?_, ?_⟩ <;> (rw [cell_of h]; rfl)
/-- The cells of an operation. -/
def oprC (x : POb) (p : Nat) : List Value := if x.o.gv then [.pointer none, ptrV x.tb, ptrV p] else [ptrV x.tb, .pointer none, ptrV p]
theorem oprC_len (x : POb) (p : Nat) : (oprC x p).length = 3 := by unfold oprC; split <;> rfl
def oprs : List POb → List Nat → List Value
  | x :: xs, p :: bl => oprC x p ++ oprs xs bl
  | _, _ => []
theorem oprs_snoc {o : POb} {p : Nat} : ∀ {xs : List POb} {bl : List Nat}, bl.length = xs.length → oprs (xs ++ [o]) (bl ++ [p]) = oprs xs bl ++ oprC o p
  | [], [], _ => by simp [oprs]
  | x :: xs, b :: bl, h => by
    have := oprs_snoc (o := o) (p := p) (xs := xs) (bl := bl) (by simpa using h)
    simp only [List.cons_append, oprs, this, List.append_assoc]
  | [], _ :: _, h => by simp at h
  | _ :: _, [], h => by simp at h
theorem oprs_at {o : POb} {p j : Nat} (hj : j < 3) : ∀ {xs : List POb} {bl : List Nat} {k : Nat}, xs[k]? = some o → bl[k]? = some p → (oprs xs bl)[k * 3 + j]? = (oprC o p)[j]?
  | [], _, _, h, _ => by simp at h
  | _ :: _, [], _, _, h => by simp at h
  | x :: xs, b :: bl, 0, h1, h2 => by
    have e1 : x = o := by simpa using h1
    have e2 : b = p := by simpa using h2
    subst e1 e2
    simp only [oprs, Nat.zero_mul, Nat.zero_add]
    rw [List.getElem?_append_left (by rw [oprC_len]; exact hj)]
  | x :: xs, b :: bl, k + 1, h1, h2 => by
    have := oprs_at (xs := xs) (bl := bl) (k := k) hj (by simpa using h1) (by simpa using h2)
    simp only [oprs]
    rw [List.getElem?_append_right (by rw [oprC_len]; omega), oprC_len, show (k + 1) * 3 + j - 3 = k * 3 + j by omega]
    exact this
theorem oprs_set {x o : POb} (ht : o.tb = x.tb) (hg : o.o.gv = x.o.gv) : ∀ {xs : List POb} {bl : List Nat} {k : Nat}, xs[k]? = some x → oprs (xs.set k o) bl = oprs xs bl
  | [], _, _, h => by simp at h
  | _ :: _, [], _, _ => by simp [oprs]
  | y :: xs, b :: bl, 0, h => by
    have e : y = x := by simpa using h
    subst e
    simp only [List.set_cons_zero, oprs, oprC, ht, hg]
  | y :: xs, b :: bl, k + 1, h => by
    have := oprs_set ht hg (xs := xs) (bl := bl) (k := k) (by simpa using h)
    simp only [List.set_cons_succ, oprs, this]
structure OpR (wr : World) (Lo : Nat → Prop) (vo : Value) (xs : List POb) (bl : List Nat) : Prop where
  row : wr.ownsRow 0 93 3 vo xs.length (oprs xs bl)
  lo : ∀ k, vo.ownBlock = some k → Lo k
section
variable {w wr w' : World} {Lo : Nat → Prop} {c : Cfg} {pb mb L qb nb l n : Nat} {s s' : PSt} {xs : List POb} {bl : List Nat} {vo : Value}
theorem OpR.keep (h : OpR wr Lo vo xs bl) {T : Nat → Prop} (hk : Keep T wr w') (hn : ∀ k, Lo k → ¬ T k) : OpR w' Lo vo xs bl :=
  ⟨row_keep h.row hk (fun k e => hn k (h.lo k e)), h.lo⟩
theorem OpR.out (h : OpR wr Lo vo xs bl) (hk : Keep (Out w Lo) wr w') : OpR w' Lo vo xs bl := h.keep hk (fun k hl ho => ho.1 hl)
theorem OpR.quiet (h : OpR wr Lo vo xs bl) (hk : Keep Nil wr w') : OpR w' Lo vo xs bl := h.keep hk (fun _ _ h => h)
theorem OpR.more (h : OpR wr Lo vo xs bl) {L' : Nat → Prop} (hL : ∀ k, Lo k → L' k) : OpR wr L' vo xs bl := ⟨h.row, fun k e => hL k (h.lo k e)⟩
theorem OpR.set (h : OpR wr Lo vo xs bl) {k : Nat} {x o : POb} (hx : xs[k]? = some x) (ht : o.tb = x.tb) (hg : o.o.gv = x.o.gv) : OpR wr Lo vo (xs.set k o) bl :=
  ⟨by rw [oprs_set ht hg hx, List.length_set]; exact h.row, h.lo⟩
theorem OpR.at (h : OpR wr Lo vo xs bl) {k p : Nat} {x : POb} (hx : xs[k]? = some x) (hp : bl[k]? = some p) : ∃ g cp, vo = .slice (some ⟨g, 0, none⟩) xs.length cp ∧ (∀ j u, (oprC x p)[j]? = some u → wr.cell? ⟨g, k * 3 + j, none⟩ = some u) ∧ g < wr.heap.size ∧ k < xs.length := by
  have hk := (List.getElem?_eq_some_iff.1 hx).1
  rcases h.row.2 with ⟨rfl, e⟩ | ⟨g, cap, cur, rfl, h1, h2, h3⟩
  · omega
  · refine ⟨g, cap, rfl, fun j u hu => ?_, lt_of_block h2, hk⟩
    have hj : j < 3 := by have := (List.getElem?_eq_some_iff.1 hu).1; rw [oprC_len] at this; exact this
    rw [h.row.cellAt (k * 3 + j) (by omega), oprs_at hj hx hp]
    exact hu
/-- The plain part. -/
structure PIv (c : Cfg) (n : Nat) (s : PSt) (xs : List POb) (bl : List Nat) : Prop where
  lb : bl.length = xs.length
  inv : ∃ St sw, QInv c s (xs.map POb.o) St sw
  log : s.log.length ≤ n
  num : xs.length ≤ n
theorem PIv.mono (h : PIv c n s xs bl) {m : Nat} (hm : n ≤ m) : PIv c m s xs bl := ⟨h.lb, h.inv, Nat.le_trans h.log hm, Nat.le_trans h.num hm⟩
theorem PIv.turn (h : PIv c n s xs bl) {k : Nat} {x : POb} {o' : PO} (hx : xs[k]? = some x) (hi : ∃ St sw, QInv c s' ((xs.map POb.o).set k o') St sw) (hl : s'.log.length ≤ s.log.length + 1) : PIv c (n + 1) s' (xs.set k { x with o := o' }) bl :=
  ⟨by rw [List.length_set]; exact h.lb, by rw [List.map_set]; exact hi, by have := h.log; omega, by rw [List.length_set]; have := h.num; omega⟩
theorem PIv.new (h : PIv c n s xs bl) {o : POb} {p : Nat} (hi : ∃ St sw, QInv c s' (xs.map POb.o ++ [o.o]) St sw) (hl : s'.log = s.log) : PIv c (n + 1) s' (xs ++ [o]) (bl ++ [p]) :=
  ⟨by simp [h.lb], by rw [List.map_append]; exact hi, by rw [hl]; have := h.log; omega, by simp [h.num]⟩
/-- All that the walk has at a loop's head. -/
def PMM (w wr : World) (c : Cfg) (pb mb L qb nb l n : Nat) (vo : Value) : Prop :=
  ∃ (Lo : Nat → Prop) (s : PSt) (xs : List POb) (bl : List Nat), PMT w wr Lo c pb mb L qb nb l s s xs (xs.map POb.o) bl ∧ OpR wr Lo vo xs bl ∧ PIv c n s xs bl
theorem PMM.quiet (h : PMM w wr c pb mb L qb nb l n vo) (hk : Keep Nil wr w') : PMM w w' c pb mb L qb nb l n vo := by
  obtain ⟨Lo, s, xs, bl, h1, h2, h3⟩ := h
  exact ⟨Lo, s, xs, bl, h1.quiet hk, h2.quiet hk, h3⟩
theorem PMM.mono (h : PMM w wr c pb mb L qb nb l n vo) {m : Nat} (hm : n ≤ m) : PMM w wr c pb mb L qb nb l m vo := by
  obtain ⟨Lo, s, xs, bl, h1, h2, h3⟩ := h
  exact ⟨Lo, s, xs, bl, h1, h2, h3.mono hm⟩
theorem PMM.own (h : PMM w wr c pb mb L qb nb l n vo) : Keep Nil w wr := by
  obtain ⟨Lo, s, xs, bl, h1, h2, h3⟩ := h
  exact Two.own h1
theorem PMT.init {A B : Nat → Prop} (own : Keep Nil w wr) (h1 : (PoolL c pb mb L).lie wr A s) (h2 : (RPoolL c qb nb l).lie wr B s') (hd : ∀ k, A k → ¬ B k ∧ w.heap.size ≤ k) (hB : ∀ k, B k → w.heap.size ≤ k) : PMT w wr Nil c pb mb L qb nb l s s' [] [] [] :=
  ⟨⟨A, B, ⟨A, ObjsB.init h1⟩, ⟨B, ObjsAt.init h2⟩, fun k h => ⟨(hd k h).1, fun h => h, (hd k h).2⟩, fun k h => ⟨fun h => h, hB k h⟩⟩, fun _ h => h.elim, own⟩
theorem PMM.init (h : PMT w wr Nil c pb mb L qb nb l s s [] [] []) (hi : ∃ St sw, QInv c s [] St sw) (hl : s.log = []) : PMM w wr c pb mb L qb nb l 0 (.slice none 0 0) :=
  ⟨Nil, s, [], [], h, ⟨World.ownsRow_nil _ _ _ _, fun k e => by cases e⟩, ⟨rfl, hi, by rw [hl]; exact Nat.le_refl _, Nat.le_refl _⟩⟩
/-- The row has grown. -/
theorem PMM.grown {w2 w3 : World} {o : POb} {p : Nat} {vo' : Value} (hT : PMT w w2 Lo c pb mb L qb nb l s' s' (xs ++ [o]) (xs.map POb.o ++ [o.o]) (bl ++ [p])) (hR : OpR w2 Lo vo xs bl) (hI : PIv c n s xs bl) (hi : ∃ St sw, QInv c s' (xs.map POb.o ++ [o.o]) St sw) (hl : s'.log = s.log)
    (rA : w3.ownsRow 0 93 3 vo' (xs.length + 1) (oprs xs bl ++ oprC o p)) (k3 : Keep (fun k => vo.ownBlock = some k) w2 w3) (s3 : ∀ k, vo'.ownBlock = some k → vo.ownBlock = some k ∨ w2.heap.size ≤ k) : PMM w w3 c pb mb L qb nb l (n + 1) vo' := by
  have kk : Keep Lo w2 w3 := k3.mono (T := Lo) (fun k _ e => hR.lo k e)
  have la : ∀ k, vo'.ownBlock = some k → k < w3.heap.size := fun k e => (rA.lt k e).2
  refine ⟨fun k => Lo k ∨ vo'.ownBlock = some k, s', xs ++ [o], bl ++ [p], ?_, ⟨?_, fun k e => .inr e⟩, hI.new hi hl⟩
  · rw [List.map_append]
    refine Two.loc hT kk (fun k e => ?_)
    rcases e with e | e
    · exact .inl e
    · rcases s3 k e with h | h
      · exact .inl (hR.lo k h)
      · exact .inr ⟨h, la k e⟩
  · rw [oprs_snoc hI.lb, List.length_append]
    exact rA
/-- The log of accesses. -/
def LogTo14 (w : World) (log : List Acc) (e : Ending) (w' : World) : Prop := ∃ v, e = .returned v ∧ Rd w' 6 v log.length (logCells log) ∧ Keep Nil w w'
theorem log14_any {w : World} {mb : Nat} {F : Nat → Prop} {ws : List Int} {log : List Acc} (h : MemAt w mb F ws log) (hn : log.length < 1000000000000) : Calls Tryz.prog 48 #[.pointer (some ⟨mb, 0, none⟩), .int .i64 0] w (LogTo14 w log) := by
  by_cases h0 : log.length = 0
  · have hl : log = [] := List.eq_nil_of_length_eq_zero h0
    subst hl
    refine (log_none h 0 (.inr (Int.le_refl 0))).mono ?_
    rintro e w' ⟨rfl, rfl⟩
    exact ⟨_, rfl, ⟨none, 0, rfl, rfl, .inl ⟨rfl, rfl, rfl⟩⟩, Keep.refl Nil w⟩
  · refine (log_ok h 0 (Int.le_refl 0) (by omega) hn).mono ?_
    rintro e w' ⟨g, rfl, hg, hz, hk⟩
    exact ⟨_, rfl, rd_of_heap hg (by simp [length_logCells]), hk⟩
end
end Go.Proofs.YtjghenomeindcaaGreat
