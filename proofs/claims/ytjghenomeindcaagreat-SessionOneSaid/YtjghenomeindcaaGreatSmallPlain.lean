/- The small configuration of the statements. Plain. -/
import Derived.Test.YtjghenomeindcaaGreatLayPlain
set_option linter.unusedVariables false
set_option linter.unusedSimpArgs false
namespace Go.Lf
/-- The cuts that are taken: a cut more. -/
def pk1 (acc : List Int) (x : Int) : List Int := if acc.length < 4 ∧ 0 < x ∧ (acc.length = 0 ∨ gcut acc (acc.length - 1) < x) then acc ++ [x] else acc
def pk (l : List Int) : List Int := l.foldl pk1 []
theorem pk_take {l : List Int} {i : Nat} {x : Int} (h : l[i]? = some x) : pk (l.take (i + 1)) = pk1 (pk (l.take i)) x := by
  unfold pk
  rw [List.take_add_one, h, Option.toList_some, List.foldl_append]; rfl
theorem pk1_full {acc : List Int} {x : Int} (h : acc.length = 4) : pk1 acc x = acc := by unfold pk1; rw [if_neg (by omega)]
theorem pk_full {l : List Int} {i : Nat} (h : (pk (l.take i)).length = 4) : pk l = pk (l.take i) := by
  have e : pk l = (l.drop i).foldl pk1 (pk (l.take i)) := by
    unfold pk
    rw [← List.foldl_append, List.take_append_drop]
  rw [e]
  generalize pk (l.take i) = acc at h
  generalize l.drop i = m
  induction m generalizing acc with
  | nil => rfl
  | cons x m ih => rw [List.foldl_cons, pk1_full h, ih _ h]
def PkOk (l : List Int) : Prop := l.length ≤ 4 ∧ AscTo l l.length
theorem gcut_app_old {l : List Int} {x : Int} {i : Nat} (h : i < l.length) : gcut (l ++ [x]) i = gcut l i := by
  unfold gcut; rw [List.getElem?_append_left h]
theorem gcut_app_new (l : List Int) (x : Int) : gcut (l ++ [x]) l.length = x := by
  unfold gcut; simp
theorem pk1_ok {acc : List Int} (x : Int) (h : PkOk acc) : PkOk (pk1 acc x) := by
  unfold pk1
  split
  · rename_i hc
    refine ⟨by simp; omega, ?_⟩
    rw [List.length_append, List.length_singleton]
    intro i hi
    rcases Nat.lt_or_ge i acc.length with h1 | h1
    · have := h.2 i h1
      cases i with
      | zero => rw [prv_zero, gcut_app_old h1]; rw [prv_zero] at this; exact this
      | succ i => rw [prv_succ, gcut_app_old h1, gcut_app_old (by omega)]; rw [prv_succ] at this; exact this
    · obtain rfl : i = acc.length := by omega
      rw [gcut_app_new]
      rcases Nat.eq_zero_or_pos acc.length with h0 | h0
      · rw [h0, prv_zero]; exact hc.2.1
      · obtain ⟨j, hj⟩ : ∃ j, acc.length = j + 1 := ⟨acc.length - 1, by omega⟩
        rw [hj, prv_succ, gcut_app_old (by omega)]
        have := hc.2.2.resolve_left (by omega)
        rw [hj] at this
        exact this
  · exact h
theorem pk_ok (l : List Int) : PkOk (pk l) := by
  unfold pk
  suffices h : ∀ acc, PkOk acc → PkOk (l.foldl pk1 acc) from h [] ⟨by simp, AscTo.zero _⟩
  induction l with
  | nil => exact fun acc h => h
  | cons x l ih => exact fun acc h => ih _ (pk1_ok x h)
def smallD (k n : Int) (cuts : List Int) : Dom :=
  if k % 3 = 0 then ⟨1, 0, []⟩ else if k % 3 = 1 then ⟨2, 1 + n % 5, []⟩ else if (pk cuts).length = 0 then ⟨1, 0, []⟩ else ⟨3, 0, pk cuts⟩
theorem smallD_ok (k n : Int) (cuts : List Int) : (smallD k n cuts).ok := by
  unfold smallD
  split
  · exact .inl ⟨rfl, rfl, rfl⟩
  · split
    · exact .inr (.inl ⟨rfl, ⟨by show 1 ≤ 1 + n % 5; omega, by show 1 + n % 5 ≤ 64; omega⟩, rfl⟩)
    · split
      · exact .inl ⟨rfl, rfl, rfl⟩
      · have h := pk_ok cuts
        have := h.1
        exact .inr (.inr ⟨rfl, rfl, ⟨by show 1 ≤ (pk cuts).length; omega, by show (pk cuts).length ≤ 63; omega⟩, h.2⟩)
/-- The small configuration. -/
def smallC (th sl eng bk k n : Int) (cuts : List Int) (t1 t2 t3 t4 t5 t6 lk tr ba : Int) : Cfg :=
  ⟨1 + th % 6, (1 + sl % 5).toNat, 1 + eng % 3, if eng % 3 = 2 then (1 + bk % 4).toNat else 0, smallD k n cuts, [(t1 % 7).toNat, (t2 % 7).toNat, (t3 % 7).toNat, (t4 % 7).toNat, (t5 % 7).toNat, (t6 % 7).toNat], (1 + lk % 4).toNat, 1 + tr % 6, ba % 4⟩
theorem smallC_ok (th sl eng bk k n : Int) (cuts : List Int) (t1 t2 t3 t4 t5 t6 lk tr ba : Int) : (smallC th sl eng bk k n cuts t1 t2 t3 t4 t5 t6 lk tr ba).ok := by
  constructor
  · show 1 ≤ 1 + th % 6; omega
  · show 1 + th % 6 ≤ 64; omega
  · show 1 ≤ (1 + sl % 5).toNat; omega
  · show (1 + sl % 5).toNat ≤ 64; omega
  · show 1 + eng % 3 = 1 ∨ 1 + eng % 3 = 2 ∨ 1 + eng % 3 = 3; omega
  · intro h
    have h' : eng % 3 = 2 := by have h : 1 + eng % 3 = 3 := h; omega
    show 1 ≤ (if eng % 3 = 2 then (1 + bk % 4).toNat else 0) ∧ (if eng % 3 = 2 then (1 + bk % 4).toNat else 0) ≤ 16
    rw [if_pos h']; omega
  · intro h
    have h' : ¬ eng % 3 = 2 := by have h : ¬ 1 + eng % 3 = 3 := h; omega
    exact if_neg h'
  · exact smallD_ok _ _ _
  · rfl
  · show (t1 % 7).toNat + ((t2 % 7).toNat + ((t3 % 7).toNat + ((t4 % 7).toNat + ((t5 % 7).toNat + ((t6 % 7).toNat + 0))))) ≤ 1024; omega
  · show 1 ≤ (1 + lk % 4).toNat; omega
  · show (1 + lk % 4).toNat ≤ 16; omega
  · show 1 ≤ 1 + tr % 6; omega
  · show 1 + tr % 6 ≤ 255; omega
  · show 0 ≤ ba % 4; omega
  · show ba % 4 ≤ 64; omega
theorem smallC_sl (th sl eng bk k n : Int) (cuts : List Int) (t1 t2 t3 t4 t5 t6 lk tr ba : Int) : (smallC th sl eng bk k n cuts t1 t2 t3 t4 t5 t6 lk tr ba).sl ≤ 5 := by
  show (1 + sl % 5).toNat ≤ 5; omega
theorem smallC_lk (th sl eng bk k n : Int) (cuts : List Int) (t1 t2 t3 t4 t5 t6 lk tr ba : Int) : (smallC th sl eng bk k n cuts t1 t2 t3 t4 t5 t6 lk tr ba).lk ≤ 4 := by
  show (1 + lk % 4).toNat ≤ 4; omega
end Go.Lf
