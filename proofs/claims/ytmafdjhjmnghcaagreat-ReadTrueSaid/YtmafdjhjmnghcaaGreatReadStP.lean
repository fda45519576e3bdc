/- read: what the stores of deeds are, as they are gathered. Plain. -/
import Derived.Test.YtmafdjhjmnghcaaGreatReadVl
import Derived.Test.YtmafdjhjmnghcaaGreatBase
set_option linter.unusedVariables false
set_option linter.unusedSimpArgs false
namespace Go.Lf
open Go.RowKit
/-- leapfroglaw25.Deed as data. -/
structure DeedV where
  kindF : Int
  entry : Int
  v : Int
def DeedV.cells (x : DeedV) : List Value := [.int .u8 x.kindF, .int .i64 x.entry, .int .u64 x.v]
def DeedV.wf (x : DeedV) : Prop := (Lit.int .u8 x.kindF).wf = true ∧ (Lit.int .i64 x.entry).wf = true ∧ (Lit.int .u64 x.v).wf = true
def deedCells (l : List DeedV) : List Value := l.flatMap DeedV.cells
def DeedV.toP (lk : Nat) (y : DeedV) : DeedP := ⟨y.kindF % 4, (y.entry % (lk : Int)).toNat, y.v⟩
/-- The deeds that count. -/
def eightP (lk : Nat) (l : List DeedV) : List DeedP := (l.take 8).map (DeedV.toP lk)
/-- All stores. -/
def storesP (lk : Nat) (born : Bool) (l : List DeedV) : List WSt := if born = true then bornP (eightP lk l) else deedsP (fun _ => 0) (eightP lk l)
def gf (gl : List Int) : Nat → Int := fun k => (gl[k]?).getD 0
theorem gf_set {gl : List Int} {e : Nat} {x : Int} (h : gl[e]? = some x) : gf (gl.set e (x + 1)) = upd (gf gl) e := by
  have hlt := (List.getElem?_eq_some_iff.1 h).1
  funext k
  unfold gf upd
  rw [List.getElem?_set]
  by_cases hk : e = k
  · subst hk
    rw [if_pos rfl, if_pos hlt, if_pos rfl]
    show x + 1 = (gl[e]?).getD 0 + 1
    rw [h]; rfl
  · rw [if_neg hk, if_neg (fun h => hk h.symm)]
theorem gf_rep (n : Nat) : gf (List.replicate n 0) = fun _ => 0 := by
  funext k
  unfold gf
  rw [List.getElem?_replicate]
  split <;> rfl
theorem gf_one (n : Nat) (h : 1 ≤ n) : gf ((List.replicate n 0).set 0 1) = upd (fun _ => 0) 0 := by
  have := gf_set (gl := List.replicate n 0) (e := 0) (x := 0) (by rw [List.getElem?_replicate, if_pos (by omega)])
  rw [gf_rep] at this
  exact this
/-- The cells of stores. -/
def stCells (T D : Nat) (l : List WSt) : List Value := l.flatMap fun st => [.int .i64 ((st.addr T D : Nat) : Int), .int .u64 st.val]
theorem stCells_app (T D : Nat) (l m : List WSt) : stCells T D (l ++ m) = stCells T D l ++ stCells T D m := by simp [stCells]
theorem stCells_len (T D : Nat) (l : List WSt) : (stCells T D l).length = l.length * 2 := by
  induction l with
  | nil => rfl
  | cons x l ih => simp only [stCells, List.flatMap_cons, List.length_append, List.length_cons, List.length_nil] at ih ⊢; rw [ih]; omega
/-- What has been gathered behind k deeds. -/
structure Gath (lk : Nat) (born : Bool) (l : List DeedV) (k : Nat) (gl : List Int) (done : List WSt) : Prop where
  len : gl.length = lk
  all : done ++ deedsP (gf gl) ((eightP lk l).drop k) = storesP lk born l
  g0 : ∀ x ∈ gl, 0 ≤ x ∧ x ≤ k + 1
  dl : done.length ≤ 3 + 6 * k
theorem eightP_at {lk : Nat} {l : List DeedV} {k : Nat} {y : DeedV} (h : l[k]? = some y) (hk : k < 8) : (eightP lk l)[k]? = some (y.toP lk) := by
  unfold eightP
  rw [List.getElem?_map, List.getElem?_take_of_lt hk, h]; rfl
section
variable {lk : Nat} {born : Bool} {l : List DeedV} {k : Nat} {gl : List Int} {done : List WSt} {y : DeedV}
theorem Gath.more (h : Gath lk born l k gl done) (hy : l[k]? = some y) (hk : k < 8) : done ++ deedsP (gf gl) (y.toP lk :: (eightP lk l).drop (k + 1)) = storesP lk born l := by
  have h1 := eightP_at (lk := lk) hy hk
  have h2 := (List.getElem?_eq_some_iff.1 h1).1
  have h3 := h.all
  rw [List.drop_eq_getElem_cons h2] at h3
  rw [List.getElem?_eq_getElem h2] at h1
  rw [Option.some.inj h1] at h3
  exact h3
theorem Gath.over (h : Gath lk born l k gl done) (hk : l.length ≤ k ∨ 8 ≤ k) : done = storesP lk born l := by
  have h3 := h.all
  rw [List.drop_eq_nil_of_le (by unfold eightP; rw [List.length_map, List.length_take]; omega)] at h3
  rw [← h3, deedsP, List.append_nil]
theorem Gath.v (h : Gath lk born l k gl done) (hy : l[k]? = some y) (hk : k < 8) (h0 : y.kindF % 4 = 0) : Gath lk born l (k + 1) gl (done ++ [.V y.v]) := by
  have h1 := h.more hy hk
  rw [deedsP, if_pos (show (y.toP lk).kind = 0 from h0)] at h1
  exact ⟨h.len, by rw [List.append_assoc]; exact h1, fun x hx => by have := h.g0 x hx; omega, by have := h.dl; simp; omega⟩
theorem Gath.last (h : Gath lk born l k gl done) (hy : l[k]? = some y) (hk : k < 8) (h3 : y.kindF % 4 = 3) {e : Nat} (he : e = (y.entry % (lk : Int)).toNat) {g : Int} (hg : gl[e]? = some g) : done ++ [.S (goneW e g), .D e (2 * g + 1), .S 2, .D e (2 * (g + 1))] = storesP lk born l := by
  have h1 := h.more hy hk
  have hgf : gf gl e = g := by unfold gf; rw [hg]; rfl
  rw [deedsP, if_neg (show ¬ (y.toP lk).kind = 0 from by show ¬ y.kindF % 4 = 0; omega), if_pos (show (y.toP lk).kind = 3 from h3)] at h1
  have e2 : (y.toP lk).entry = e := he.symm
  rw [e2, hgf] at h1
  exact h1
theorem Gath.six (h : Gath lk born l k gl done) (hy : l[k]? = some y) (hk : k < 8) (h0 : y.kindF % 4 ≠ 0) (h3 : y.kindF % 4 ≠ 3) {e : Nat} (he : e = (y.entry % (lk : Int)).toNat) {g : Int} (hg : gl[e]? = some g) :
    Gath lk born l (k + 1) (gl.set e (g + 1)) (done ++ [.A y.v, .S (swapW e g), .D e (2 * g + 1), .V y.v, .S 1, .D e (2 * (g + 1))]) := by
  have h1 := h.more hy hk
  have hgf : gf gl e = g := by unfold gf; rw [hg]; rfl
  rw [deedsP, if_neg (show ¬ (y.toP lk).kind = 0 from h0), if_neg (show ¬ (y.toP lk).kind = 3 from h3)] at h1
  have e2 : (y.toP lk).entry = e := he.symm
  rw [e2, hgf] at h1
  refine ⟨by rw [List.length_set]; exact h.len, by rw [gf_set hg, List.append_assoc]; exact h1, fun x hx => ?_, by have := h.dl; simp; omega⟩
  rcases List.mem_or_eq_of_mem_set hx with hx | rfl
  · have := h.g0 x hx; omega
  · have := h.g0 g (List.mem_of_getElem? hg); omega
theorem Gath.start0 (lk : Nat) (l : List DeedV) : Gath lk false l 0 (List.replicate lk 0) [] :=
  ⟨List.length_replicate, by rw [gf_rep]; rfl, fun x hx => by rw [List.eq_of_mem_replicate hx]; omega, by simp⟩
theorem Gath.start1 (l : List DeedV) (h : 1 ≤ lk) : Gath lk true l 0 ((List.replicate lk 0).set 0 1) [.D 0 1, .S 1, .D 0 2] :=
  ⟨by rw [List.length_set, List.length_replicate], by rw [gf_one lk h]; rfl, fun x hx => by
    rcases List.mem_or_eq_of_mem_set hx with hx | rfl
    · rw [List.eq_of_mem_replicate hx]; omega
    · omega, by simp⟩
end
theorem gone_val (g : Int) (k0 : 0 ≤ g) (k1 : g ≤ 1099511627775) (e : Int) (e0 : 0 ≤ e) (e1 : e < 16) : fValid 4 e g = true ∧ fValid 5 e g = true := by
  unfold fValid
  constructor <;> simp <;> omega
end Go.Lf
