/- RangesMatches: the walk's own rows beside the two sides. -/
import Derived.Test.YtmafdjhjmnghcaaGreatRngMJ
import Derived.Test.YtmafdjhjmnghcaaGreatInitFacts
set_option linter.unusedVariables false
set_option linter.unusedSimpArgs false
namespace Go.Lf
/-- A call of RangesMatches, as data. -/
structure KCallV where
  what : Int
  t : Int
  n : Int
  lo : Int
  hi : Int
open Go.RowKit in
def KCallV.cells (x : KCallV) : List Value := [.int .u8 x.what, .int .i64 x.t, .int .i64 x.n, .int .u64 x.lo, .int .u64 x.hi]
def KCallV.wf (x : KCallV) : Prop := (Lit.int .u8 x.what).wf = true ∧ (Lit.int .i64 x.t).wf = true ∧ (Lit.int .i64 x.n).wf = true ∧ (Lit.int .u64 x.lo).wf = true ∧ (Lit.int .u64 x.hi).wf = true
def kcallCells (l : List KCallV) : List Value := l.flatMap KCallV.cells
theorem kcallCells_at {l : List KCallV} {k j : Nat} {x : KCallV} {u : Value} (hx : l[k]? = some x) (hu : x.cells[j]? = some u) : (kcallCells l)[k * 5 + j]? = some u := by
  induction l generalizing k with
  | nil => cases hx
  | cons y l ih =>
    cases k with
    | zero =>
      have e : y = x := by simpa using hx
      subst e
      have hj : j < y.cells.length := (List.getElem?_eq_some_iff.1 hu).1
      simp only [kcallCells, List.flatMap_cons, Nat.zero_mul, Nat.zero_add]
      rw [List.getElem?_append_left hj]; exact hu
    | succ k =>
      have h1 : l[k]? = some x := by simpa using hx
      have h2 := ih h1
      simp only [kcallCells, List.flatMap_cons] at h2 ⊢
      rw [List.getElem?_append_right (by show 5 ≤ _; omega), show (k + 1) * 5 + j - y.cells.length = k * 5 + j by show _ - 5 = _; omega]
      exact h2
end Go.Lf
namespace Go.Proofs.YtmafdjhjmnghcaaGreat
open Go.RowKit Go.Lf
theorem infoKA : (Tryz.prog.info? 22).map (fun i => (i.zero, i.size, i.bytes)) = some (some (.pointer none), 1, 8) := by kernel_rfl
theorem infoKB : (Tryz.prog.info? 108).map (fun i => (i.zero, i.size, i.bytes)) = some (some (.pointer none), 1, 8) := by kernel_rfl
structure KR (wr : World) (L : Nat → Prop) (tb b rb : Nat) (va vb : Value) (xs : List LkC) (bl : List Nat) : Prop where
  box : wr.heap[tb]? = some (.cells #[ptrV b, ptrV rb] 96 (0, 0))
  rowA : wr.ownsRow 0 22 1 va xs.length (xs.map (fun y => ptrV y.l))
  rowB : wr.ownsRow 0 108 1 vb bl.length (bl.map ptrV)
  ltb : L tb
  la : ∀ k, va.ownBlock = some k → L k
  lb : ∀ k, vb.ownBlock = some k → L k
  ne : ∀ k, va.ownBlock = some k → vb.ownBlock ≠ some k ∧ k ≠ tb
  nb : ∀ k, vb.ownBlock = some k → k ≠ tb
section
variable {w wr w' : World} {L : Nat → Prop} {c : Cfg} {b mb rb rm ll tb n : Nat} {x y : List Int × List Acc} {xs : List LkC} {qs : List KS} {bl : List Nat} {va vb : Value}
theorem KR.keep (h : KR wr L tb b rb va vb xs bl) {T : Nat → Prop} (hk : Keep T wr w') (hn : ∀ k, L k → ¬ T k) : KR w' L tb b rb va vb xs bl :=
  ⟨hk.at h.box (hn _ h.ltb), row_keep h.rowA hk (fun k e => hn k (h.la k e)), row_keep h.rowB hk (fun k e => hn k (h.lb k e)), h.ltb, h.la, h.lb, h.ne, h.nb⟩
theorem KR.out (h : KR wr L tb b rb va vb xs bl) (hk : Keep (Out w L) wr w') : KR w' L tb b rb va vb xs bl := h.keep hk (fun k hl ho => ho.1 hl)
theorem KR.quiet (h : KR wr L tb b rb va vb xs bl) (hk : Keep Nil wr w') : KR w' L tb b rb va vb xs bl := h.keep hk (fun _ _ h => h)
theorem KR.more (h : KR wr L tb b rb va vb xs bl) {L' : Nat → Prop} (hL : ∀ k, L k → L' k) : KR wr L' tb b rb va vb xs bl :=
  ⟨h.box, h.rowA, h.rowB, hL _ h.ltb, fun k e => hL k (h.la k e), fun k e => hL k (h.lb k e), h.ne, h.nb⟩
theorem KR.c0 (h : KR wr L tb b rb va vb xs bl) : wr.cell? ⟨tb, 0, none⟩ = some (.pointer (some ⟨b, 0, none⟩)) ∧ wr.cell? ⟨tb, 1, none⟩ = some (.pointer (some ⟨rb, 0, none⟩)) ∧ tb < wr.heap.size :=
  ⟨by rw [cell_of h.box]; rfl, by rw [cell_of h.box]; rfl, lt_of_block h.box⟩
theorem KR.set (h : KR wr L tb b rb va vb xs bl) {k : Nat} {o o' : LkC} (hx : xs[k]? = some o) (ho : o'.l = o.l) : KR wr L tb b rb va vb (xs.set k o') bl := by
  have e : (xs.set k o').map (fun y => ptrV y.l) = xs.map (fun y => ptrV y.l) := by
    rw [List.map_set, ho]
    exact kset_self (by rw [List.getElem?_map, hx]; rfl)
  exact ⟨h.box, by rw [e, List.length_set]; exact h.rowA, h.rowB, h.ltb, h.la, h.lb, h.ne, h.nb⟩
theorem krow_at {e : TypeId} {n : Nat} {v : Value} {xs : List Value} (h : wr.ownsRow 0 e 1 v n xs) {k : Nat} {u : Value} (hu : xs[k]? = some u) : ∃ g cp, v = .slice (some ⟨g, 0, none⟩) n cp ∧ wr.cell? ⟨g, k, none⟩ = some u ∧ g < wr.heap.size ∧ k < n := by
  have hk := (List.getElem?_eq_some_iff.1 hu).1
  have hl := h.1
  rcases h.2 with ⟨rfl, e⟩ | ⟨g, cap, cur, rfl, h1, h2, h3⟩
  · omega
  · have h' : wr.ownsRow 0 _ 1 (.slice (some ⟨g, 0, none⟩) n cap) n xs := h
    exact ⟨g, cap, rfl, by rw [h'.cellAt k (by omega)]; exact hu, lt_of_block h2, by omega⟩
theorem KR.at (h : KR wr L tb b rb va vb xs bl) {k : Nat} {o : LkC} (hx : xs[k]? = some o) : ∃ g cp, va = .slice (some ⟨g, 0, none⟩) xs.length cp ∧ wr.cell? ⟨g, k, none⟩ = some (.pointer (some ⟨o.l, 0, none⟩)) ∧ g < wr.heap.size ∧ k < xs.length :=
  krow_at h.rowA (by rw [List.getElem?_map, hx]; rfl)
theorem KR.bt (h : KR wr L tb b rb va vb xs bl) {k p : Nat} (hx : bl[k]? = some p) : ∃ g cp, vb = .slice (some ⟨g, 0, none⟩) bl.length cp ∧ wr.cell? ⟨g, k, none⟩ = some (.pointer (some ⟨p, 0, none⟩)) ∧ g < wr.heap.size ∧ k < bl.length :=
  krow_at h.rowB (by rw [List.getElem?_map, hx]; rfl)
theorem KR.cellA {g m cp k : Nat} {o : LkC} (h : KR wr L tb b rb (.slice (some ⟨g, 0, none⟩) m cp) vb xs bl) (hx : xs[k]? = some o) : wr.cell? ⟨g, k, none⟩ = some (.pointer (some ⟨o.l, 0, none⟩)) ∧ g < wr.heap.size := by
  obtain ⟨g', cp', hv, h1, h2, -⟩ := h.at hx
  simp only [Value.slice.injEq, Option.some.injEq, Addr.mk.injEq] at hv
  obtain ⟨⟨rfl, -⟩, -⟩ := hv
  exact ⟨h1, h2⟩
theorem KR.cellB {g m cp k p : Nat} (h : KR wr L tb b rb va (.slice (some ⟨g, 0, none⟩) m cp) xs bl) (hx : bl[k]? = some p) : wr.cell? ⟨g, k, none⟩ = some (.pointer (some ⟨p, 0, none⟩)) ∧ g < wr.heap.size := by
  obtain ⟨g', cp', hv, h1, h2, -⟩ := h.bt hx
  simp only [Value.slice.injEq, Option.some.injEq, Addr.mk.injEq] at hv
  obtain ⟨⟨rfl, -⟩, -⟩ := hv
  exact ⟨h1, h2⟩
/-- The plain part. -/
structure KI (c : Cfg) (n : Nat) (x : List Int × List Acc) (xs : List LkC) (bl : List Nat) : Prop where
  lb : bl.length = xs.length
  ok : ∀ (i : Nat) (o : LkC), xs[i]? = some o → KOk c.lk n o.s
  wd : WdOk c x.1
  log : x.2.length ≤ n
  num : xs.length ≤ n
theorem KI.mono (h : KI c n x xs bl) {m : Nat} (hm : n ≤ m) : KI c m x xs bl := ⟨h.lb, fun i o e => (h.ok i o e).mono hm, h.wd, Nat.le_trans h.log hm, Nat.le_trans h.num hm⟩
theorem KI.turn (h : KI c n x xs bl) {x' : List Int × List Acc} (h1 : WdOk c x'.1) (h3 : x'.2.length ≤ x.2.length + 1) : KI c (n + 1) x' xs bl :=
  ⟨h.lb, fun i o e => (h.ok i o e).mono (by omega), h1, by have := h.log; omega, by have := h.num; omega⟩
theorem KI.set (h : KI c n x xs bl) {k : Nat} {o' : LkC} (hj : KOk c.lk n o'.s) : KI c n x (xs.set k o') bl := by
  refine ⟨by simp [h.lb], fun i o h1 => ?_, h.wd, h.log, by simp [h.num]⟩
  by_cases e : i = k
  · subst e
    rw [List.getElem?_set] at h1
    simp only [if_true] at h1
    split at h1
    · cases h1; exact hj
    · cases h1
  · rw [List.getElem?_set_ne (by omega)] at h1
    exact h.ok i o h1
theorem KI.new (h : KI c n x xs bl) {o : LkC} {p : Nat} (hj : KOk c.lk 0 o.s) : KI c (n + 1) x (xs ++ [o]) (bl ++ [p]) := by
  refine ⟨by simp [h.lb], fun i o2 h1 => ?_, h.wd, by have := h.log; omega, by simp [h.num]⟩
  rcases get_snoc h1 with ⟨e1, rfl⟩ | ⟨e1, h1⟩
  · exact hj.mono (Nat.zero_le _)
  · exact (h.ok i o2 h1).mono (by omega)
/-- All that the walk has at a loop's head. -/
def KM (w wr : World) (c : Cfg) (b mb rb rm ll tb n : Nat) (va vb : Value) : Prop :=
  ∃ (L : Nat → Prop) (x : List Int × List Acc) (xs : List LkC) (bl : List Nat), KMT w wr L c b mb rb rm ll x x xs (xs.map LkC.s) bl ∧ KR wr L tb b rb va vb xs bl ∧ KI c n x xs bl
theorem KM.quiet (h : KM w wr c b mb rb rm ll tb n va vb) (hk : Keep Nil wr w') : KM w w' c b mb rb rm ll tb n va vb := by
  obtain ⟨L, x, xs, bl, h1, h2, h3⟩ := h
  exact ⟨L, x, xs, bl, h1.quiet hk, h2.quiet hk, h3⟩
theorem KM.mono (h : KM w wr c b mb rb rm ll tb n va vb) {m : Nat} (hm : n ≤ m) : KM w wr c b mb rb rm ll tb m va vb := by
  obtain ⟨L, x, xs, bl, h1, h2, h3⟩ := h
  exact ⟨L, x, xs, bl, h1, h2, h3.mono hm⟩
theorem KM.own (h : KM w wr c b mb rb rm ll tb n va vb) : Keep Nil w wr := by
  obtain ⟨L, x, xs, bl, h1, h2, h3⟩ := h
  exact h1.own
theorem KM.box (h : KM w wr c b mb rb rm ll tb n va vb) : wr.cell? ⟨tb, 0, none⟩ = some (.pointer (some ⟨b, 0, none⟩)) ∧ wr.cell? ⟨tb, 1, none⟩ = some (.pointer (some ⟨rb, 0, none⟩)) ∧ tb < wr.heap.size := by
  obtain ⟨L, x, xs, bl, h1, h2, h3⟩ := h
  exact h2.c0
theorem KM.init {w w2 wr : World} (h : Two (StoreL c b mb) (RStoreF c rb rm ll) w Nil (ints c.init, []) (ints c.init, []) w2) (hok : c.ok) (hb : wr = w2.alloc (.cells #[ptrV b, ptrV rb] 96)) : KM w wr c b mb rb rm ll w2.heap.size 0 (.slice none 0 0) (.slice none 0 0) := by
  have h1 : KMT w w2 Nil c b mb rb rm ll (ints c.init, []) (ints c.init, []) [] [] [] := by
    obtain ⟨⟨A, B, h1, h2, h3, h4⟩, h5, h6⟩ := h
    exact ⟨⟨A, B, ⟨A, ObjsB.init h1⟩, ⟨B, ObjsAt.init h2⟩, h3, h4⟩, h5, h6⟩
  have h2 : KMT w wr (fun k => Nil k ∨ k = w2.heap.size) c b mb rb rm ll (ints c.init, []) (ints c.init, []) [] [] [] := by rw [hb]; exact g_own1 h1 _
  exact ⟨_, _, [], _, h2, ⟨by rw [hb]; exact heap_alloc_new w2 _, World.ownsRow_nil _ _ _ _, World.ownsRow_nil _ _ _ _, .inr rfl, fun k e => (by cases e), fun k e => (by cases e), fun k e => (by cases e), fun k e => (by cases e)⟩, ⟨rfl, fun i o h => by simp at h, WdOk.init hok, Nat.le_refl _, Nat.le_refl _⟩⟩
/-- Both rows have grown. -/
theorem KM.grown {w2 w3 w4 : World} {o : LkC} {p : Nat} {va' vb' : Value} (hT : KMT w w2 L c b mb rb rm ll x x (xs ++ [o]) (xs.map LkC.s ++ [o.s]) (bl ++ [p])) (hR : KR w2 L tb b rb va vb xs bl) (hI : KI c n x xs bl) (hj : KOk c.lk 0 o.s)
    (rA : w3.ownsRow 0 22 1 va' (xs.length + 1) (xs.map (fun y => ptrV y.l) ++ [ptrV o.l])) (k3 : Keep (fun k => va.ownBlock = some k) w2 w3) (s3 : ∀ k, va'.ownBlock = some k → va.ownBlock = some k ∨ w2.heap.size ≤ k)
    (rB : w4.ownsRow 0 108 1 vb' (bl.length + 1) (bl.map ptrV ++ [ptrV p])) (k4 : Keep (fun k => vb.ownBlock = some k) w3 w4) (s4 : ∀ k, vb'.ownBlock = some k → vb.ownBlock = some k ∨ w3.heap.size ≤ k) : KM w w4 c b mb rb rm ll tb (n + 1) va' vb' := by
  have kk : Keep L w2 w4 := (k3.mono (T := L) (fun k _ e => hR.la k e)).trans (k4.mono (T := L) (fun k _ e => hR.lb k e)) (fun _ _ h => h)
  have z3 := k3.size
  have z4 := k4.size
  have la : ∀ k, va'.ownBlock = some k → k < w3.heap.size := fun k e => (rA.lt k e).2
  have lb : ∀ k, vb'.ownBlock = some k → k < w4.heap.size := fun k e => (rB.lt k e).2
  have tl := lt_of_block hR.box
  have vlt : ∀ k, vb.ownBlock = some k → k < w2.heap.size := fun k e => (hR.rowB.lt k e).2
  have vlta : ∀ k, va.ownBlock = some k → k < w2.heap.size := fun k e => (hR.rowA.lt k e).2
  have hab : ∀ k, va'.ownBlock = some k → vb'.ownBlock ≠ some k := fun k e e' => by
    rcases s3 k e with h1 | h1
    · rcases s4 k e' with h2 | h2
      · exact (hR.ne k h1).1 h2
      · have := vlta k h1; omega
    · rcases s4 k e' with h2 | h2
      · have := vlt k h2; omega
      · have := la k e; omega
  refine ⟨fun k => L k ∨ va'.ownBlock = some k ∨ vb'.ownBlock = some k, x, xs ++ [o], bl ++ [p], ?_, ⟨?_, ?_, ?_, .inl hR.ltb, fun k e => .inr (.inl e), fun k e => .inr (.inr e), fun k e => ⟨hab k e, ?_⟩, fun k e => ?_⟩, hI.new hj⟩
  · rw [List.map_append]
    refine hT.loc kk (fun k e => ?_)
    rcases e with e | e | e
    · exact .inl e
    · rcases s3 k e with h | h
      · exact .inl (hR.la k h)
      · exact .inr ⟨h, by have := la k e; omega⟩
    · rcases s4 k e with h | h
      · exact .inl (hR.lb k h)
      · exact .inr ⟨by omega, lb k e⟩
  · exact k4.at (k3.at hR.box (fun e => (hR.ne _ e).2 rfl)) (fun e => hR.nb _ e rfl)
  · rw [List.length_append, List.map_append]
    refine row_keep rA k4 (fun k e e' => ?_)
    rcases s3 k e with h | h
    · exact (hR.ne k h).1 e'
    · have := vlt k e'; omega
  · rw [List.length_append, List.map_append]
    exact rB
  · rcases s3 k e with h | h
    · exact (hR.ne k h).2
    · omega
  · rcases s4 k e with h | h
    · exact hR.nb k h
    · omega
end
end Go.Proofs.YtmafdjhjmnghcaaGreat
