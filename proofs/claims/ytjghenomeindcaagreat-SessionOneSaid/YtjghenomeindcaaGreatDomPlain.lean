/- Maps from keys to domain values and sets of values in plain terms. No program is named here. -/
import Derived.Test.YtjghenomeindcaaGreatBase
import Derived.Laws.Bits64
namespace Go.Lf
open Go.RowKit

/-! Sets of numbers as the bits of a number. -/
def bset (p : Nat → Bool) : Nat → Nat
  | 0 => 0
  | k + 1 => bset p k ||| (if p k then 2 ^ k else 0)

theorem testBit_bits (p : Nat → Bool) (k i : Nat) : (bset p k).testBit i = (decide (i < k) && p i) := by
  induction k with
  | zero => simp [bset]
  | succ k ih =>
    unfold bset
    rw [Nat.testBit_or, ih]
    by_cases hp : p k
    · rw [if_pos hp, Nat.testBit_two_pow]
      by_cases h : k = i
      · subst h; simp [hp]
      · have e : decide (i < k + 1) = decide (i < k) := by rw [decide_eq_decide]; omega
        simp [h, e]
    · rw [if_neg hp, Nat.zero_testBit, Bool.or_false]
      by_cases h : i = k
      · subst h; simp [hp]
      · have e : decide (i < k + 1) = decide (i < k) := by rw [decide_eq_decide]; omega
        rw [e]
theorem bits_lt (p : Nat → Bool) (k : Nat) : bset p k < 2 ^ k := by
  apply Nat.lt_pow_two_of_testBit
  intro i hi
  rw [testBit_bits, decide_eq_false (by omega), Bool.false_and]
theorem pow_le64 {k : Nat} (h : k ≤ 64) : 2 ^ k ≤ 18446744073709551616 := Nat.pow_le_pow_right (n := 2) (by decide) h
theorem pow_lt64 {k : Nat} (h : k < 64) : 2 ^ k < 18446744073709551616 := Nat.pow_lt_pow_right (a := 2) (by decide) h
theorem bits_64 (p : Nat → Bool) {k : Nat} (h : k ≤ 64) : bset p k < 18446744073709551616 := Nat.lt_of_lt_of_le (bits_lt p k) (pow_le64 h)

theorem toNat_ofInt64 {a : Nat} (h : a < 18446744073709551616) : (BitVec.ofInt 64 (a : Int)).toNat = a := by
  rw [BitVec.ofInt_natCast, BitVec.toNat_ofNat]; exact Nat.mod_eq_of_lt (by omega)
theorem bits_or_u64 {a b : Nat} (ha : a < 18446744073709551616) (hb : b < 18446744073709551616) : Go.bits .or .u64 (a : Int) (b : Int) = ((a ||| b : Nat) : Int) := by
  have hx : a ||| b < 2 ^ 64 := Nat.or_lt_two_pow (by omega) (by omega)
  show IntKind.u64.wrap ((BitVec.ofInt 64 (a : Int) ||| BitVec.ofInt 64 (b : Int)).toNat : Int) = _
  rw [BitVec.toNat_or, toNat_ofInt64 ha, toNat_ofInt64 hb, IntKind.wrap_u64]
  omega
theorem bits_and_u64 {a b : Nat} (ha : a < 18446744073709551616) (hb : b < 18446744073709551616) : Go.bits .and .u64 (a : Int) (b : Int) = ((a &&& b : Nat) : Int) := by
  have hx : a &&& b < 2 ^ 64 := Nat.and_lt_two_pow _ (by omega)
  show IntKind.u64.wrap ((BitVec.ofInt 64 (a : Int) &&& BitVec.ofInt 64 (b : Int)).toNat : Int) = _
  rw [BitVec.toNat_and, toNat_ofInt64 ha, toNat_ofInt64 hb, IntKind.wrap_u64]
  omega
theorem wrap_pow {v : Nat} (h : v < 64) : IntKind.u64.wrap (2 ^ v : Int) = ((2 ^ v : Nat) : Int) := by
  have h1 := pow_lt64 h
  rw [IntKind.wrap_u64, show (2 ^ v : Int) = ((2 ^ v : Nat) : Int) by simp]
  generalize 2 ^ v = x at h1 ⊢
  omega

/-- The members of a set below a number, in ascending order. -/
def mems (s v : Nat) : List Nat := (List.range v).filter (fun i => s.testBit i)
theorem mems_zero (s : Nat) : mems s 0 = [] := rfl
theorem mems_succ (s v : Nat) : mems s (v + 1) = if s.testBit v then mems s v ++ [v] else mems s v := by
  unfold mems
  rw [List.range_succ, List.filter_append]
  by_cases h : s.testBit v <;> simp [h]
theorem mem_mems {s v i : Nat} : i ∈ mems s v ↔ i < v ∧ s.testBit i = true := by simp [mems]
theorem mems_end {s v N : Nat} (h : s / 2 ^ v = 0) (hv : v ≤ N) : mems s v = mems s N := by
  obtain ⟨d, rfl⟩ : ∃ d, N = v + d := ⟨N - v, by omega⟩
  clear hv
  induction d with
  | zero => rfl
  | succ d ih =>
    rw [ih, show v + (d + 1) = (v + d) + 1 from rfl, mems_succ, if_neg]
    have hs : s < 2 ^ v := (Nat.div_eq_zero_iff.1 h).resolve_left (by have := Nat.two_pow_pos v; omega)
    rw [Nat.testBit_lt_two_pow (Nat.lt_of_lt_of_le hs (Nat.pow_le_pow_right (by decide) (by omega)))]
    decide
theorem mems_length (s v : Nat) : (mems s v).length ≤ v := by
  have := List.length_filter_le (fun i => s.testBit i) (List.range v)
  simpa [mems] using this
theorem mems_short {s k N : Nat} (hk : k < N) (hb : s.testBit k = true) : (mems s k).length < (mems s N).length := by
  obtain ⟨d, rfl⟩ : ∃ d, N = k + 1 + d := ⟨N - (k + 1), by omega⟩
  clear hk
  induction d with
  | zero => rw [Nat.add_zero, mems_succ, if_pos hb]; simp
  | succ d ih =>
    rw [← Nat.add_assoc, mems_succ]
    split
    · simp; omega
    · exact ih
theorem mems_sorted (s v : Nat) : (mems s v).Pairwise (· < ·) := List.Pairwise.filter _ List.pairwise_lt_range
theorem shift_succ (s v : Nat) : s / 2 ^ v / 2 = s / 2 ^ (v + 1) := by rw [Nat.div_div_eq_div_mul, Nat.pow_succ]
theorem shift_lt {s v : Nat} (hs : s < 18446744073709551616) (h : s / 2 ^ v ≠ 0) : v < 64 := by
  rcases Nat.lt_or_ge v 64 with h' | h'
  · exact h'
  · exfalso
    apply h
    apply Nat.div_eq_of_lt
    have := Nat.pow_le_pow_right (n := 2) (by decide) h'
    omega
theorem shift_bit (s v : Nat) : s.testBit v = decide (s / 2 ^ v % 2 = 1) := by
  rw [Nat.testBit, Nat.shiftRight_eq_div_pow, Nat.one_and_eq_mod_two]
  have : s / 2 ^ v % 2 = 0 ∨ s / 2 ^ v % 2 = 1 := by omega
  rcases this with h | h <;> simp [h]

/-- The set of the first values of a list. -/
def setN : List Int → Nat
  | [] => 0
  | v :: l => 2 ^ v.toNat ||| setN l
def setTo (l : List Int) (k : Nat) : Nat := setN (l.take k)
theorem setN_append (l m : List Int) : setN (l ++ m) = setN l ||| setN m := by
  induction l with
  | nil => simp [setN]
  | cons v l ih => rw [List.cons_append, setN, ih, setN, Nat.or_assoc]
theorem setTo_succ {l : List Int} {k : Nat} {v : Int} (h : l[k]? = some v) : setTo l (k + 1) = setTo l k ||| 2 ^ v.toNat := by
  obtain ⟨hk, rfl⟩ := List.getElem?_eq_some_iff.1 h
  unfold setTo
  rw [List.take_succ_eq_append_getElem hk, setN_append]
  simp [setN]
theorem setTo_all (l : List Int) : setTo l l.length = setN l := by simp [setTo]
theorem testBit_setN (l : List Int) (i : Nat) : (setN l).testBit i = true ↔ ∃ v ∈ l, v.toNat = i := by
  induction l with
  | nil => simp [setN]
  | cons v l ih =>
    rw [setN, Nat.testBit_or, Nat.testBit_two_pow, Bool.or_eq_true, ih]
    simp
theorem setN_lt {l : List Int} (h : ∀ v ∈ l, 0 ≤ v ∧ v < 64) : setN l < 18446744073709551616 := by
  show setN l < 2 ^ 64
  apply Nat.lt_pow_two_of_testBit
  intro i hi
  rw [Bool.eq_false_iff]
  intro hb
  obtain ⟨v, hv, rfl⟩ := (testBit_setN l i).1 hb
  have := h v hv
  omega
theorem setTo_lt {l : List Int} {k : Nat} (h : ∀ j v, j < k → l[j]? = some v → 0 ≤ v ∧ v < 64) : setTo l k < 18446744073709551616 := by
  apply setN_lt
  intro v hv
  obtain ⟨j, hj⟩ := List.getElem?_of_mem hv
  rw [List.getElem?_take] at hj
  split at hj
  · exact h j v (by assumption) hj
  · cases hj
def ints (l : List Nat) : List Int := l.map Int.ofNat
theorem setN_mems {s : Nat} (hs : s < 18446744073709551616) : setN (ints (mems s 64)) = s := by
  apply Nat.eq_of_testBit_eq
  intro i
  rw [Bool.eq_iff_iff, testBit_setN]
  constructor
  · rintro ⟨v, hv, rfl⟩
    simp only [ints, List.mem_map, mem_mems] at hv
    obtain ⟨j, ⟨-, hj⟩, rfl⟩ := hv
    exact hj
  · intro h
    refine ⟨(i : Int), ?_, by simp⟩
    simp only [ints, List.mem_map, mem_mems]
    refine ⟨i, ⟨?_, h⟩, rfl⟩
    rcases Nat.lt_or_ge i 64 with h' | h'
    · exact h'
    · rw [Nat.testBit_lt_two_pow (Nat.lt_of_lt_of_le hs (Nat.pow_le_pow_right (n := 2) (by decide) h'))] at h
      cases h
theorem nodup_le : ∀ {l m : List Nat}, l.Nodup → (∀ x ∈ l, x ∈ m) → l.length ≤ m.length := by
  intro l
  induction l with
  | nil => intro m _ _; simp
  | cons x l ih =>
    intro m hn hs
    rw [List.nodup_cons] at hn
    have hx : x ∈ m := hs x (List.mem_cons_self ..)
    have h1 := ih (m := m.erase x) hn.2 (fun y hy => by
      have hne : y ≠ x := fun e => hn.1 (by rw [← e]; exact hy)
      exact (List.mem_erase_of_ne hne).2 (hs y (List.mem_cons_of_mem _ hy)))
    rw [List.length_erase_of_mem hx] at h1
    have := List.length_pos_of_mem hx
    simp
    omega
theorem mems_setN_length (l : List Int) : (mems (setN l) 64).length ≤ l.length := by
  have h1 : (mems (setN l) 64).length ≤ (l.map Int.toNat).length := by
    apply nodup_le
    · exact (mems_sorted _ _).imp (fun h => Nat.ne_of_lt h)
    · intro x hx
      obtain ⟨-, hb⟩ := mem_mems.1 hx
      obtain ⟨v, hv, rfl⟩ := (testBit_setN l x).1 hb
      exact List.mem_map_of_mem hv
  simpa using h1
theorem mems_setN_mem {l : List Int} {v : Int} (h : ∀ v ∈ l, 0 ≤ v ∧ v < 64) (hv : v ∈ l) : v.toNat ∈ mems (setN l) 64 :=
  mem_mems.2 ⟨by have := h v hv; omega, (testBit_setN l _).2 ⟨v, hv, rfl⟩⟩
theorem mems_lt {s v i x : Nat} (h : (mems s v)[i]? = some x) : x < v := (mem_mems.1 (List.mem_of_getElem? h)).1
theorem mems_asc {s v i x y : Nat} (h : (mems s v)[i]? = some x) (h' : (mems s v)[i + 1]? = some y) : x < y := by
  obtain ⟨h1, rfl⟩ := List.getElem?_eq_some_iff.1 h
  obtain ⟨h2, rfl⟩ := List.getElem?_eq_some_iff.1 h'
  exact List.pairwise_iff_getElem.1 (mems_sorted s v) i (i + 1) h1 h2 (by omega)

def i64s (l : List Int) : List Value := l.map (Value.int .i64)
def nums (l : List Nat) : List Value := i64s (ints l)
theorem i64s_at {l : List Int} {i : Nat} {x : Int} (h : l[i]? = some x) : (i64s l)[i]? = some (.int .i64 x) := by simp [i64s, h]
theorem nums_at {l : List Nat} {i : Nat} {x : Nat} (h : l[i]? = some x) : (nums l)[i]? = some (.int .i64 x) := by simp [nums, i64s, ints, h]
theorem nums_one (l : List Nat) : ∀ v ∈ nums l, v.oneCell' = true := by
  intro v hv
  simp only [nums, i64s, ints, List.mem_map] at hv
  obtain ⟨x, -, rfl⟩ := hv
  rfl
theorem length_nums (l : List Nat) : (nums l).length = l.length := by simp [nums, i64s, ints]
theorem nums_snoc (l : List Nat) (x : Nat) : nums (l ++ [x]) = nums l ++ [.int .i64 x] := by simp [nums, i64s, ints]
end Go.Lf
