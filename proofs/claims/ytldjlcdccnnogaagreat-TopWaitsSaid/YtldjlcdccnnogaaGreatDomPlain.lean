/- Maps from keys to domain values and sets of values in plain terms. No program is named here. -/
import Derived.Test.YtldjlcdccnnogaaGreatBase
import Derived.Laws.Bits64
namespace Go.Lf
open Go.RowKit

/-! Sets of numbers as the bits of a number. -/
def bset (p : Nat → Bool) : Nat → Nat
  | 0 => 0
  | k + 1 => bset p k ||| (if p k then 2 ^ k else 0)

theorem testBit_bits (p : Nat → Bool) (k i : Nat) : (bset p k).testBit i = (decide (i < k) && p i) := by
  induction k with
  | zero => simp [bset]
  | succ k ih =>
    unfold bset
    rw [Nat.testBit_or, ih]
    by_cases hp : p k
    · rw [if_pos hp, Nat.testBit_two_pow]
      by_cases h : k = i
      · subst h; simp [hp]
      · have e : decide (i < k + 1) = decide (i < k) := by rw [decide_eq_decide]; omega
        simp [h, e]
    · rw [if_neg hp, Nat.zero_testBit, Bool.or_false]
      by_cases h : i = k
      · subst h; simp [hp]
      · have e : decide (i < k + 1) = decide (i < k) := by rw [decide_eq_decide]; omega
        rw [e]
theorem bits_lt (p : Nat → Bool) (k : Nat) : bset p k < 2 ^ k := by
  apply Nat.lt_pow_two_of_testBit
  intro i hi
  rw [testBit_bits, decide_eq_false (by omega), Bool.false_and]
theorem pow_le64 {k : Nat} (h : k ≤ 64) : 2 ^ k ≤ 18446744073709551616 := Nat.pow_le_pow_right (n := 2) (by decide) h
theorem pow_lt64 {k : Nat} (h : k < 64) : 2 ^ k < 18446744073709551616 := Nat.pow_lt_pow_right (a := 2) (by decide) h
theorem bits_64 (p : Nat → Bool) {k : Nat} (h : k ≤ 64) : bset p k < 18446744073709551616 := Nat.lt_of_lt_of_le (bits_lt p k) (pow_le64 h)

theorem toNat_ofInt64 {a : Nat} (h : a < 18446744073709551616) : (BitVec.ofInt 64 (a : Int)).toNat = a := by
  rw [BitVec.ofInt_natCast, BitVec.toNat_ofNat]; exact Nat.mod_eq_of_lt (by omega)
theorem bits_or_u64 {a b : Nat} (ha : a < 18446744073709551616) (hb : b < 18446744073709551616) : Go.bits .or .u64 (a : Int) (b : Int) = ((a ||| b : Nat) : Int) := by
  have hx : a ||| b < 2 ^ 64 := Nat.or_lt_two_pow (by omega) (by omega)
  show IntKind.u64.wrap ((BitVec.ofInt 64 (a : Int) ||| BitVec.ofInt 64 (b : Int)).toNat : Int) = _
  rw [BitVec.toNat_or, toNat_ofInt64 ha, toNat_ofInt64 hb, IntKind.wrap_u64]
  omega
theorem bits_and_u64 {a b : Nat} (ha : a < 18446744073709551616) (hb : b < 18446744073709551616) : Go.bits .and .u64 (a : Int) (b : Int) = ((a &&& b : Nat) : Int) := by
  have hx : a &&& b < 2 ^ 64 := Nat.and_lt_two_pow _ (by omega)
  show IntKind.u64.wrap ((BitVec.ofInt 64 (a : Int) &&& BitVec.ofInt 64 (b : Int)).toNat : Int) = _
  rw [BitVec.toNat_and, toNat_ofInt64 ha, toNat_ofInt64 hb, IntKind.wrap_u64]
  omega
theorem wrap_pow {v : Nat} (h : v < 64) : IntKind.u64.wrap (2 ^ v : Int) = ((2 ^ v : Nat) : Int) := by
  have h1 := pow_lt64 h
  rw [IntKind.wrap_u64, show (2 ^ v : Int) = ((2 ^ v : Nat) : Int) by simp]
  generalize 2 ^ v = x at h1 ⊢
  omega

/-- The members of a set below a number, in ascending order. -/
def mems (s v : Nat) : List Nat := (List.range v).filter (fun i => s.testBit i)
theorem mems_zero (s : Nat) : mems s 0 = [] := rfl
theorem mems_succ (s v : Nat) : mems s (v + 1) = if s.testBit v then mems s v ++ [v] else mems s v := by
  unfold mems
  rw [List.range_succ, List.filter_append]
  by_cases h : s.testBit v <;> simp [h]
theorem mem_mems {s v i : Nat} : i ∈ mems s v ↔ i < v ∧ s.testBit i = true := by simp [mems]
theorem mems_end {s v N : Nat} (h : s / 2 ^ v = 0) (hv : v ≤ N) : mems s v = mems s N := by
  obtain ⟨d, rfl⟩ : ∃ d, N = v + d := ⟨N - v, by omega⟩
  clear hv
  induction d with
  | zero => rfl
  | succ d ih =>
    rw [ih, show v + (d + 1) = (v + d) + 1 from rfl, mems_succ, if_neg]
    have hs : s < 2 ^ v := (Nat.div_eq_zero_iff.1 h).resolve_left (by have := Nat.two_pow_pos v; omega)
    rw [Nat.testBit_lt_two_pow (Nat.lt_of_lt_of_le hs (Nat.pow_le_pow_right (by decide) (by omega)))]
    decide
theorem mems_length (s v : Nat) : (mems s v).length ≤ v := by
  have := List.length_filter_le (fun i => s.testBit i) (List.range v)
  simpa [mems] using this
theorem mems_short {s k N : Nat} (hk : k < N) (hb : s.testBit k = true) : (mems s k).length < (mems s N).length := by
  obtain ⟨d, rfl⟩ : ∃ d, N = k + 1 + d := ⟨N - (k + 1), by omega⟩
  clear hk
  induction d with
  | zero => rw [Nat.add_zero, mems_succ, if_pos hb]; simp
  | succ d ih =>
    rw [← Nat.add_assoc, mems_succ]
    split
    · simp; omega
    · exact ih
theorem mems_sorted (s v : Nat) : (mems s v).Pairwise (· < ·) := List.Pairwise.filter _ List.pairwise_lt_range
theorem shift_succ (s v : Nat) : s / 2 ^ v / 2 = s / 2 ^ (v + 1) := by rw [Nat.div_div_eq_div_mul, Nat.pow_succ]
theorem shift_lt {s v : Nat} (hs : s < 18446744073709551616) (h : s / 2 ^ v ≠ 0) : v < 64 := by
  rcases Nat.lt_or_ge v 64 with h' | h'
  · exact h'
  · exfalso
    apply h
    apply Nat.div_eq_of_lt
    have := Nat.pow_le_pow_right (n := 2) (by decide) h'
    omega
theorem shift_bit (s v : Nat) : s.testBit v = decide (s / 2 ^ v % 2 = 1) := by
  rw [Nat.testBit, Nat.shiftRight_eq_div_pow, Nat.one_and_eq_mod_two]
  have : s / 2 ^ v % 2 = 0 ∨ s / 2 ^ v % 2 = 1 := by omega
  rcases this with h | h <;> simp [h]

/-- The set of the first values of a list. -/
def setN : List Int → Nat
  | [] => 0
  | v :: l => 2 ^ v.toNat ||| setN l
def setTo (l : List Int) (k : Nat) : Nat := setN (l.take k)
theorem setN_append (l m : List Int) : setN (l ++ m) = setN l ||| setN m := by
  induction l with
  | nil => simp [setN]
  | cons v l ih => rw [List.cons_append, setN, ih, setN, Nat.or_assoc]
theorem setTo_succ {l : List Int} {k : Nat} {v : Int} (h : l[k]? = some v) : setTo l (k + 1) = setTo l k ||| 2 ^ v.toNat := by
  obtain ⟨hk, rfl⟩ := List.getElem?_eq_some_iff.1 h
  unfold setTo
  rw [List.take_succ_eq_append_getElem hk, setN_append]
  simp [setN]
theorem setTo_all (l : List Int) : setTo l l.length = setN l := by simp [setTo]
theorem testBit_setN (l : List Int) (i : Nat) : (setN l).testBit i = true ↔ ∃ v ∈ l, v.toNat = i := by
  induction l with
  | nil => simp [setN]
  | cons v l ih =>
    rw [setN, Nat.testBit_or, Nat.testBit_two_pow, Bool.or_eq_true, ih]
    simp
theorem setN_lt {l : List Int} (h : ∀ v ∈ l, 0 ≤ v ∧ v < 64) : setN l < 18446744073709551616 := by
  show setN l < 2 ^ 64
  apply Nat.lt_pow_two_of_testBit
  intro i hi
  rw [Bool.eq_false_iff]
  intro hb
  obtain ⟨v, hv, rfl⟩ := (testBit_setN l i).1 hb
  have := h v hv
  omega
theorem setTo_lt {l : List Int} {k : Nat} (h : ∀ j v, j < k → l[j]? = some v → 0 ≤ v ∧ v < 64) : setTo l k < 18446744073709551616 := by
  apply setN_lt
  intro v hv
  obtain ⟨j, hj⟩ := List.getElem?_of_mem hv
  rw [List.getElem?_take] at hj
  split at hj
  · exact h j v (by assumption) hj
  · cases hj
def ints (l : List Nat) : List Int := l.map Int.ofNat
theorem setN_mems {s : Nat} (hs : s < 18446744073709551616) : setN (ints (mems s 64)) = s := by
  apply Nat.eq_of_testBit_eq
  intro i
  rw [Bool.eq_iff_iff, testBit_setN]
  constructor
  · rintro ⟨v, hv, rfl⟩
    simp only [ints, List.mem_map, mem_mems] at hv
    obtain ⟨j, ⟨-, hj⟩, rfl⟩ := hv
    exact hj
  · intro h
    refine ⟨(i : Int), ?_, by simp⟩
    simp only [ints, List.mem_map, mem_mems]
    refine ⟨i, ⟨?_, h⟩, rfl⟩
    rcases Nat.lt_or_ge i 64 with h' | h'
    · exact h'
    · rw [Nat.testBit_lt_two_pow (Nat.lt_of_lt_of_le hs (Nat.pow_le_pow_right (n := 2) (by decide) h'))] at h
      cases h
theorem nodup_le : ∀ {l m : List Nat}, l.Nodup → (∀ x ∈ l, x ∈ m) → l.length ≤ m.length := by
  intro l
  induction l with
  | nil => intro m _ _; simp
  | cons x l ih =>
    intro m hn hs
    rw [List.nodup_cons] at hn
    have hx : x ∈ m := hs x (List.mem_cons_self ..)
    have h1 := ih (m := m.erase x) hn.2 (fun y hy => by
      have hne : y ≠ x := fun e => hn.1 (by rw [← e]; exact hy)
      exact (List.mem_erase_of_ne hne).2 (hs y (List.mem_cons_of_mem _ hy)))
    rw [List.length_erase_of_mem hx] at h1
    have := List.length_pos_of_mem hx
    simp
    omega
theorem mems_setN_length (l : List Int) : (mems (setN l) 64).length ≤ l.length := by
  have h1 : (mems (setN l) 64).length ≤ (l.map Int.toNat).length := by
    apply nodup_le
    · exact (mems_sorted _ _).imp (fun h => Nat.ne_of_lt h)
    · intro x hx
      obtain ⟨-, hb⟩ := mem_mems.1 hx
      obtain ⟨v, hv, rfl⟩ := (testBit_setN l x).1 hb
      exact List.mem_map_of_mem hv
  simpa using h1
theorem mems_setN_mem {l : List Int} {v : Int} (h : ∀ v ∈ l, 0 ≤ v ∧ v < 64) (hv : v ∈ l) : v.toNat ∈ mems (setN l) 64 :=
  mem_mems.2 ⟨by have := h v hv; omega, (testBit_setN l _).2 ⟨v, hv, rfl⟩⟩
theorem mems_lt {s v i x : Nat} (h : (mems s v)[i]? = some x) : x < v := (mem_mems.1 (List.mem_of_getElem? h)).1
theorem mems_asc {s v i x y : Nat} (h : (mems s v)[i]? = some x) (h' : (mems s v)[i + 1]? = some y) : x < y := by
  obtain ⟨h1, rfl⟩ := List.getElem?_eq_some_iff.1 h
  obtain ⟨h2, rfl⟩ := List.getElem?_eq_some_iff.1 h'
  exact List.pairwise_iff_getElem.1 (mems_sorted s v) i (i + 1) h1 h2 (by omega)

def i64s (l : List Int) : List Value := l.map (Value.int .i64)
def nums (l : List Nat) : List Value := i64s (ints l)
theorem i64s_at {l : List Int} {i : Nat} {x : Int} (h : l[i]? = some x) : (i64s l)[i]? = some (.int .i64 x) := by simp [i64s, h]
theorem nums_at {l : List Nat} {i : Nat} {x : Nat} (h : l[i]? = some x) : (nums l)[i]? = some (.int .i64 x) := by simp [nums, i64s, ints, h]
theorem nums_one (l : List Nat) : ∀ v ∈ nums l, v.oneCell' = true := by
  intro v hv
  simp only [nums, i64s, ints, List.mem_map] at hv
  obtain ⟨x, -, rfl⟩ := hv
  rfl
theorem length_nums (l : List Nat) : (nums l).length = l.length := by simp [nums, i64s, ints]
theorem nums_snoc (l : List Nat) (x : Nat) : nums (l ++ [x]) = nums l ++ [.int .i64 x] := by simp [nums, i64s, ints]
end Go.Lf

/-! Maps from keys to domain values in plain terms: valid maps, the value of a key, the least key of a value. No program is named here. -/
namespace Go.Lf
open Go.RowKit

/-- A map: its kind, its number, its cuts. -/
structure Dom where
  k : Int
  n : Int
  cuts : List Int

def gcut (c : List Int) (i : Nat) : Int := (c[i]?).getD 0
def prv (c : List Int) (i : Nat) : Int := if i = 0 then 0 else gcut c (i - 1)
def AscTo (c : List Int) (k : Nat) : Prop := ∀ i, i < k → prv c i < gcut c i
theorem gcut_at {c : List Int} {i : Nat} (h : i < c.length) : c[i]? = some (gcut c i) := by
  unfold gcut; rw [List.getElem?_eq_getElem h]; rfl
theorem prv_zero (c : List Int) : prv c 0 = 0 := rfl
theorem prv_succ (c : List Int) (i : Nat) : prv c (i + 1) = gcut c i := by simp [prv]
theorem AscTo.zero (c : List Int) : AscTo c 0 := fun i h => absurd h (by omega)
theorem AscTo.succ {c : List Int} {k : Nat} (h : AscTo c k) (h' : prv c k < gcut c k) : AscTo c (k + 1) := fun i hi => by
  rcases Nat.lt_or_ge i k with h1 | h1
  · exact h i h1
  · obtain rfl : i = k := by omega
    exact h'
theorem AscTo.mono {c : List Int} {k : Nat} (h : AscTo c k) {j : Nat} (hj : j ≤ k) : AscTo c j := fun i hi => h i (by omega)
theorem AscTo.low {c : List Int} {k : Nat} (h : AscTo c k) : ∀ {i : Nat}, i < k → (i : Int) < gcut c i := by
  intro i
  induction i with
  | zero => intro hi; have := h 0 hi; rw [prv_zero] at this; simpa using this
  | succ i ih => intro hi; have := h (i + 1) hi; rw [prv_succ] at this; have := ih (by omega); omega
theorem AscTo.lt {c : List Int} {k : Nat} (h : AscTo c k) {i : Nat} : ∀ {j : Nat}, i < j → j < k → gcut c i < gcut c j := by
  intro j
  induction j with
  | zero => intro h1; omega
  | succ j ih =>
    intro h1 h2
    have h3 := h (j + 1) h2
    rw [prv_succ] at h3
    rcases Nat.lt_or_ge i j with h4 | h4
    · have := ih h4 (by omega); omega
    · obtain rfl : i = j := by omega
      exact h3

/-- A valid map. -/
def Dom.ok (d : Dom) : Prop :=
  (d.k = 1 ∧ d.n = 0 ∧ d.cuts = []) ∨ (d.k = 2 ∧ (1 ≤ d.n ∧ d.n ≤ 64) ∧ d.cuts = []) ∨ (d.k = 3 ∧ d.n = 0 ∧ (1 ≤ d.cuts.length ∧ d.cuts.length ≤ 63) ∧ AscTo d.cuts d.cuts.length)

/-- The number of the values. -/
def Dom.cnt (d : Dom) : Nat := if d.k = 2 then d.n.toNat else if d.k = 3 then d.cuts.length + 1 else 1
/-- How many of the first cuts are at most a key. -/
def cntLe (c : List Int) (key : Int) : Nat → Nat
  | 0 => 0
  | i + 1 => if gcut c i ≤ key then cntLe c key i + 1 else cntLe c key i
theorem cntLe_le (c : List Int) (key : Int) (k : Nat) : cntLe c key k ≤ k := by
  induction k with
  | zero => exact Nat.le_refl _
  | succ k ih => unfold cntLe; split <;> omega
/-- The value of a key. -/
def Dom.of (d : Dom) (key : Int) : Nat := if d.k = 2 then (key % d.n).toNat else if d.k = 3 then cntLe d.cuts key d.cuts.length else 0
def topU : Int := 18446744073709551615
/-- The least key of a value, from a key on. -/
def Dom.least (d : Dom) (v : Nat) (a : Int) : Option Int :=
  if d.k = 2 then (if topU - a < ((v : Int) + d.n - a % d.n) % d.n then none else some (a + ((v : Int) + d.n - a % d.n) % d.n))
  else if d.k = 3 then (if v < d.cuts.length ∧ gcut d.cuts v ≤ a then none else some (if a < prv d.cuts v then prv d.cuts v else a))
  else some a
/-- A value is in the image of a range. -/
def Dom.inImg (d : Dom) (lo hi : Int) (v : Nat) : Bool := match d.least v lo with
  | some x => decide (x ≤ hi)
  | none => false
def Dom.img (d : Dom) (lo hi : Int) : Nat := bset (d.inImg lo hi) d.cnt
def Dom.all (d : Dom) : Nat := bset (fun _ => true) d.cnt

theorem Dom.cnt_pos {d : Dom} (h : d.ok) : 1 ≤ d.cnt ∧ d.cnt ≤ 64 := by
  unfold Dom.cnt
  rcases h with ⟨h, -, -⟩ | ⟨h, h1, -⟩ | ⟨h, -, h1, -⟩
  · simp [h]
  · simp [h]; omega
  · simp [h]; omega

/-- In ascending cuts, the number of those that are at most a key says which. -/
theorem cntLe_spec {c : List Int} {key : Int} : ∀ {k : Nat}, AscTo c k → ∀ i, i < k → (gcut c i ≤ key ↔ i < cntLe c key k) := by
  intro k
  induction k with
  | zero => intro _ i h; omega
  | succ k ih =>
    intro h i hi
    have ha := h.mono (Nat.le_succ k)
    have hle := cntLe_le c key k
    unfold cntLe
    by_cases hk : gcut c k ≤ key
    · rw [if_pos hk]
      have hall : cntLe c key k = k := by
        rcases Nat.eq_zero_or_pos k with h0 | h0
        · subst h0; rfl
        · have h1 := (ih ha (k - 1) (by omega)).1 (by have := h.lt (i := k - 1) (j := k) (by omega) (by omega); omega)
          omega
      rw [hall]
      constructor
      · intro _; exact hi
      · intro _
        rcases Nat.lt_or_ge i k with h1 | h1
        · have := h.lt h1 (Nat.lt_succ_self k); omega
        · obtain rfl : i = k := by omega
          exact hk
    · rw [if_neg hk]
      rcases Nat.lt_or_ge i k with h1 | h1
      · exact ih ha i h1
      · obtain rfl : i = k := by omega
        constructor
        · intro h2; exact absurd h2 hk
        · intro h2; omega

theorem Dom.of_lt {d : Dom} (h : d.ok) (key : Int) : d.of key < d.cnt := by
  unfold Dom.of Dom.cnt
  rcases h with ⟨h, -, -⟩ | ⟨h, h1, -⟩ | ⟨h, -, h1, -⟩
  · simp [h]
  · simp only [h, if_true]
    have := Int.emod_lt_of_pos key (show 0 < d.n by omega)
    have := Int.emod_nonneg key (show d.n ≠ 0 by omega)
    omega
  · have := cntLe_le d.cuts key d.cuts.length
    simp [h]; omega

/-- A value's keys: at k = 3, those between two cuts. -/
theorem of_three {d : Dom} (hk : d.k = 3) (ha : AscTo d.cuts d.cuts.length) {v : Nat} {key : Int} (h0 : 0 ≤ key) (hv : v ≤ d.cuts.length) :
    d.of key = v ↔ prv d.cuts v ≤ key ∧ (v < d.cuts.length → key < gcut d.cuts v) := by
  have hle := cntLe_le d.cuts key d.cuts.length
  have e : d.of key = cntLe d.cuts key d.cuts.length := by unfold Dom.of; simp [hk]
  rw [e]
  have sp := cntLe_spec (key := key) ha
  constructor
  · intro hc
    subst hc
    refine ⟨?_, fun hlt => ?_⟩
    · cases hq : cntLe d.cuts key d.cuts.length with
      | zero => rw [prv_zero]; exact h0
      | succ m => rw [prv_succ]; exact (sp m (by omega)).2 (by omega)
    · have := (not_congr (sp _ hlt)).2 (Nat.lt_irrefl _)
      omega
  · rintro ⟨h1, h2⟩
    rcases Nat.lt_trichotomy (cntLe d.cuts key d.cuts.length) v with h | h | h
    · have h3 := (not_congr (sp (cntLe d.cuts key d.cuts.length) (by omega))).2 (Nat.lt_irrefl _)
      cases v with
      | zero => omega
      | succ m =>
        rw [prv_succ] at h1
        have h4 := (sp m (by omega)).1 h1
        omega
    · exact h
    · have h3 := (sp v (by omega)).2 h
      have := h2 (by omega)
      omega

theorem emod_add_sub {a n v : Int} (h0 : 0 ≤ v) (h1 : v < n) : (a + (v + n - a % n) % n) % n = v := by
  rw [Int.add_emod_emod, show a + (v + n - a % n) = v + (a - a % n) + n from by omega, Int.add_emod_right]
  have h2 : a - a % n = n * (a / n) := by have := Int.emod_add_mul_ediv a n; omega
  rw [h2, Int.add_mul_emod_self_left, Int.emod_eq_of_lt h0 h1]
theorem emod_unique {a n x y : Int} (hx0 : 0 ≤ x) (hx : x < n) (hy0 : 0 ≤ y) (hy : y < n) (h : (a + x) % n = (a + y) % n) : x = y := by
  have h1 := Int.emod_emod_of_dvd (x - y) (Int.dvd_refl n)
  have h2 : (x - y) % n = 0 := by
    have h3 := Int.emod_eq_emod_iff_emod_sub_eq_zero.1 h
    rwa [show a + x - (a + y) = x - y from by omega] at h3
  obtain ⟨q, hq⟩ := Int.dvd_of_emod_eq_zero h2
  have h4 : q = 0 := by
    rcases Int.lt_trichotomy q 0 with h5 | h5 | h5
    · have : n * q ≤ n * (-1) := Int.mul_le_mul_of_nonneg_left (by omega) (by omega)
      omega
    · exact h5
    · have : n * 1 ≤ n * q := Int.mul_le_mul_of_nonneg_left (by omega) (by omega)
      omega
  subst h4
  omega

/-- THE STAGE'S THEOREM in plain terms: what a least key is. -/
theorem Dom.least_some {d : Dom} (h : d.ok) {v : Nat} (hv : v < d.cnt) {a x : Int} (ha : 0 ≤ a) (ha' : a ≤ topU) (hc : ∀ y ∈ d.cuts, y ≤ topU) (hx : d.least v a = some x) :
    a ≤ x ∧ x ≤ topU ∧ d.of x = v ∧ ∀ y, a ≤ y → y < x → d.of y ≠ v := by
  unfold Dom.least at hx
  rcases h with ⟨hk, -, -⟩ | ⟨hk, hn, -⟩ | ⟨hk, -, hl, hasc⟩
  · simp [hk] at hx
    subst hx
    have e : d.cnt = 1 := by simp [Dom.cnt, hk]
    refine ⟨Int.le_refl _, ha', by have : v = 0 := by omega
                                   subst this; simp [Dom.of, hk], fun y h1 h2 => by omega⟩
  · have e : d.cnt = d.n.toNat := by simp [Dom.cnt, hk]
    have hv' : (v : Int) < d.n := by omega
    have h1 := emod_add_sub (a := a) (n := d.n) (v := (v : Int)) (by omega) hv'
    have h2 := Int.emod_nonneg ((v : Int) + d.n - a % d.n) (show d.n ≠ 0 by omega)
    have h3 := Int.emod_lt_of_pos ((v : Int) + d.n - a % d.n) (show 0 < d.n by omega)
    rw [if_pos hk] at hx
    generalize ((v : Int) + d.n - a % d.n) % d.n = b at *
    split at hx
    · cases hx
    · obtain rfl := Option.some.inj hx
      have hof : ∀ y, d.of y = v → y % d.n = v := by
        intro y hy
        simp only [Dom.of, hk, if_true] at hy
        have := Int.emod_nonneg y (show d.n ≠ 0 by omega)
        omega
      refine ⟨by omega, by omega, by simp only [Dom.of, hk, if_true]; rw [h1]; simp, fun y hy1 hy2 hy3 => ?_⟩
      have h4 := hof y hy3
      have := emod_unique (a := a) (n := d.n) (x := y - a) (y := b) (by omega) (by omega) h2 h3 (by rw [h1, show a + (y - a) = y from by omega, h4])
      omega
  · have e : d.cnt = d.cuts.length + 1 := by simp [Dom.cnt, hk]
    rw [if_neg (by omega), if_pos hk] at hx
    have hp : prv d.cuts v ≤ topU := by
      cases v with
      | zero => rw [prv_zero]; unfold topU; omega
      | succ m => rw [prv_succ]; exact hc _ (List.mem_of_getElem? (gcut_at (by omega)))
    split at hx
    · cases hx
    · rename_i hnn
      have hasc' := hasc
      obtain rfl := Option.some.inj hx
      have hlt : v < d.cuts.length → a < gcut d.cuts v := fun h1 => by
        have : ¬ gcut d.cuts v ≤ a := fun h2 => hnn ⟨h1, h2⟩
        omega
      have hlt2 : v < d.cuts.length → prv d.cuts v < gcut d.cuts v := fun h1 => hasc v h1
      refine ⟨by split <;> omega, by split <;> omega, ?_, fun y h1 h2 h3 => ?_⟩
      · rw [of_three hk hasc (by split <;> omega) (by omega)]
        split
        · exact ⟨Int.le_refl _, hlt2⟩
        · exact ⟨by omega, hlt⟩
      · rw [of_three hk hasc (by omega) (by omega)] at h3
        split at h2 <;> omega
theorem Dom.least_none {d : Dom} (h : d.ok) {v : Nat} (hv : v < d.cnt) {a : Int} (ha : 0 ≤ a) (hx : d.least v a = none) {y : Int} (hy : a ≤ y) (hy' : y ≤ topU) : d.of y ≠ v := by
  unfold Dom.least at hx
  rcases h with ⟨hk, -, -⟩ | ⟨hk, hn, -⟩ | ⟨hk, -, hl, hasc⟩
  · simp [hk] at hx
  · have e : d.cnt = d.n.toNat := by simp [Dom.cnt, hk]
    have hv' : (v : Int) < d.n := by omega
    have h1 := emod_add_sub (a := a) (n := d.n) (v := (v : Int)) (by omega) hv'
    have h2 := Int.emod_nonneg ((v : Int) + d.n - a % d.n) (show d.n ≠ 0 by omega)
    have h3 := Int.emod_lt_of_pos ((v : Int) + d.n - a % d.n) (show 0 < d.n by omega)
    rw [if_pos hk] at hx
    generalize ((v : Int) + d.n - a % d.n) % d.n = b at *
    split at hx
    · intro h4
      simp only [Dom.of, hk, if_true] at h4
      have h6 := Int.emod_nonneg y (show d.n ≠ 0 by omega)
      have := emod_unique (a := a) (n := d.n) (x := (y - a) % d.n) (y := b) (Int.emod_nonneg _ (by omega)) (Int.emod_lt_of_pos _ (by omega)) h2 h3 (by rw [h1, Int.add_emod_emod, show a + (y - a) = y from by omega]; omega)
      have h5 : (y - a) % d.n ≤ y - a := by
        have h7 := Int.emod_add_mul_ediv (y - a) d.n
        have h8 : 0 ≤ d.n * ((y - a) / d.n) := Int.mul_nonneg (by omega) (Int.ediv_nonneg (by omega) (by omega))
        omega
      omega
    · cases hx
  · have e : d.cnt = d.cuts.length + 1 := by simp [Dom.cnt, hk]
    rw [if_neg (by omega), if_pos hk] at hx
    split at hx
    · rename_i hc
      intro h3
      rw [of_three hk hasc (by omega) (by omega)] at h3
      have := h3.2 hc.1
      omega
    · cases hx
/-- A value is in the image exactly if a key of the range has it. -/
theorem Dom.inImg_iff {d : Dom} (h : d.ok) (hc : ∀ y ∈ d.cuts, y ≤ topU) {v : Nat} (hv : v < d.cnt) {lo hi : Int} (h0 : 0 ≤ lo) (h1 : lo ≤ topU) (h2 : hi ≤ topU) :
    d.inImg lo hi v = true ↔ ∃ y, lo ≤ y ∧ y ≤ hi ∧ d.of y = v := by
  unfold Dom.inImg
  cases hl : d.least v lo with
  | none =>
    simp only [Bool.false_eq_true, false_iff]
    rintro ⟨y, hy1, hy2, hy3⟩
    exact d.least_none h hv h0 hl hy1 (by omega) hy3
  | some x =>
    obtain ⟨g1, g2, g3, g4⟩ := d.least_some h hv h0 h1 hc hl
    simp only [decide_eq_true_eq]
    constructor
    · intro hx; exact ⟨x, g1, hx, g3⟩
    · rintro ⟨y, hy1, hy2, hy3⟩
      rcases Int.lt_or_le y x with h5 | h5
      · exact absurd hy3 (g4 y hy1 h5)
      · omega
theorem Dom.img_bit {d : Dom} (h : d.ok) (hc : ∀ y ∈ d.cuts, y ≤ topU) {v : Nat} {lo hi : Int} (h0 : 0 ≤ lo) (h1 : lo ≤ topU) (h2 : hi ≤ topU) :
    (d.img lo hi).testBit v = true ↔ ∃ y, lo ≤ y ∧ y ≤ hi ∧ d.of y = v := by
  unfold Dom.img
  rw [testBit_bits]
  by_cases hv : v < d.cnt
  · rw [decide_eq_true hv, Bool.true_and]; exact d.inImg_iff h hc hv h0 h1 h2
  · rw [decide_eq_false hv, Bool.false_and]
    simp only [Bool.false_eq_true, false_iff]
    rintro ⟨y, -, -, rfl⟩
    exact hv (d.of_lt h y)
/-- Two ranges that touch. -/
theorem Dom.img_parts {d : Dom} (h : d.ok) (hc : ∀ y ∈ d.cuts, y ≤ topU) {lo at' hi : Int} (h0 : 0 ≤ lo) (h1 : lo ≤ at') (h2 : at' < hi) (h3 : hi ≤ topU) : d.img lo at' ||| d.img (at' + 1) hi = d.img lo hi := by
  apply Nat.eq_of_testBit_eq
  intro v
  rw [Nat.testBit_or, Bool.eq_iff_iff, Bool.or_eq_true, d.img_bit h hc h0 (by omega) (by omega), d.img_bit h hc (by omega) (by omega) h3, d.img_bit h hc h0 (by omega) h3]
  constructor
  · rintro (⟨y, a, b, c⟩ | ⟨y, a, b, c⟩)
    · exact ⟨y, a, by omega, c⟩
    · exact ⟨y, by omega, b, c⟩
  · rintro ⟨y, a, b, c⟩
    rcases Int.lt_or_le at' y with h5 | h5
    · exact .inr ⟨y, by omega, b, c⟩
    · exact .inl ⟨y, a, h5, c⟩
/-- Every value has a key. -/
theorem Dom.img_all {d : Dom} (h : d.ok) (hc : ∀ y ∈ d.cuts, y ≤ topU) : d.img 0 topU = d.all := by
  apply Nat.eq_of_testBit_eq
  intro v
  rw [Bool.eq_iff_iff, d.img_bit h hc (Int.le_refl _) (by unfold topU; omega) (Int.le_refl _)]
  unfold Dom.all
  rw [testBit_bits, Bool.and_true, decide_eq_true_eq]
  constructor
  · rintro ⟨y, -, -, rfl⟩; exact d.of_lt h y
  · intro hv
    rcases h with ⟨hk, -, -⟩ | ⟨hk, hn, -⟩ | ⟨hk, -, hl, hasc⟩
    · have e : d.cnt = 1 := by simp [Dom.cnt, hk]
      exact ⟨0, Int.le_refl _, by unfold topU; omega, by have : v = 0 := by omega
                                                         subst this; simp [Dom.of, hk]⟩
    · have e : d.cnt = d.n.toNat := by simp [Dom.cnt, hk]
      refine ⟨(v : Int), by omega, by unfold topU; omega, ?_⟩
      simp only [Dom.of, hk, if_true]
      rw [Int.emod_eq_of_lt (by omega) (by omega)]; simp
    · have e : d.cnt = d.cuts.length + 1 := by simp [Dom.cnt, hk]
      have hp : 0 ≤ prv d.cuts v ∧ prv d.cuts v ≤ topU := by
        cases v with
        | zero => rw [prv_zero]; unfold topU; omega
        | succ m =>
          rw [prv_succ]
          have := hasc.low (i := m) (by omega)
          exact ⟨by omega, hc _ (List.mem_of_getElem? (gcut_at (by omega)))⟩
      refine ⟨prv d.cuts v, hp.1, hp.2, ?_⟩
      rw [of_three hk hasc hp.1 (by omega)]
      exact ⟨Int.le_refl _, fun h5 => hasc v h5⟩
end Go.Lf
namespace Go.Lf
open Go.RowKit
open Classical in
/-- What Check returns. -/
noncomputable def Dom.err (d : Dom) : Int := if d.ok then 0 else 2
theorem Dom.err_ok {d : Dom} (h : d.ok) : d.err = 0 := by unfold Dom.err; rw [if_pos h]
theorem Dom.err_bad {d : Dom} (h : ¬ d.ok) : d.err = 2 := by unfold Dom.err; rw [if_neg h]
theorem Dom.bad1 {k n : Int} {c : List Int} (h : k = 1 ∧ (n ≠ 0 ∨ c.length ≠ 0)) : ¬ (Dom.mk k n c).ok := by
  rintro (⟨a, b, d⟩ | ⟨a, -⟩ | ⟨a, -⟩)
  · simp only at a b d; subst d; simp at h; omega
  · simp only at a; omega
  · simp only at a; omega
theorem Dom.bad2 {k n : Int} {c : List Int} (h : k = 2 ∧ (n < 1 ∨ 64 < n ∨ c.length ≠ 0)) : ¬ (Dom.mk k n c).ok := by
  rintro (⟨a, -⟩ | ⟨a, b, d⟩ | ⟨a, -⟩)
  · simp only at a; omega
  · simp only at a b d; subst d; simp at h; omega
  · simp only at a; omega
theorem Dom.bad3 {k n : Int} {c : List Int} (h : k = 3 ∧ (n ≠ 0 ∨ c.length < 1 ∨ 63 < c.length ∨ ¬ AscTo c c.length)) : ¬ (Dom.mk k n c).ok := by
  rintro (⟨a, -⟩ | ⟨a, -⟩ | ⟨a, b, d, e⟩)
  · simp only at a; omega
  · simp only at a; omega
  · simp only at a b d e
    obtain ⟨-, h | h | h | h⟩ := h
    · exact h b
    · omega
    · omega
    · exact h e
theorem Dom.bad4 {k n : Int} {c : List Int} (h : k ≠ 1 ∧ k ≠ 2 ∧ k ≠ 3) : ¬ (Dom.mk k n c).ok := by
  rintro (⟨a, -⟩ | ⟨a, -⟩ | ⟨a, -⟩) <;> simp only at a <;> omega
theorem Dom.bad_asc {c : List Int} {i : Nat} (hi : i < c.length) (h : gcut c i ≤ prv c i) : ¬ AscTo c c.length := fun h' => by have := h' i hi; omega
end Go.Lf
namespace Go.Lf
open Go.RowKit
/-- At kinds 1 and 2 the least key is near. -/
theorem Dom.least_near {d : Dom} (h : d.ok) (hk : d.k ≠ 3) (v : Nat) (x : Int) :
    (∀ y, d.least v x = some y → y < x + d.cnt) ∧ (d.least v x = none → topU < x + d.cnt) := by
  unfold Dom.least
  rcases h with ⟨h, -, -⟩ | ⟨h, hn, -⟩ | ⟨h, -⟩
  · have e : d.cnt = 1 := by simp [Dom.cnt, h]
    simp [h]
    omega
  · have e : d.cnt = d.n.toNat := by simp [Dom.cnt, h]
    have h2 := Int.emod_nonneg ((v : Int) + d.n - x % d.n) (show d.n ≠ 0 by omega)
    have h3 := Int.emod_lt_of_pos ((v : Int) + d.n - x % d.n) (show 0 < d.n by omega)
    rw [if_pos h]
    generalize ((v : Int) + d.n - x % d.n) % d.n = b at *
    constructor
    · intro y hy
      split at hy
      · cases hy
      · obtain rfl := Option.some.inj hy
        omega
    · intro hy
      split at hy
      · omega
      · cases hy
  · exact absurd h hk

open Classical in
noncomputable def Dom.cntE (d : Dom) : Int := if d.ok then d.cnt else 0
open Classical in
noncomputable def Dom.ofE (d : Dom) (key : Int) : Int := if d.ok then d.of key else 0
open Classical in
noncomputable def Dom.allE (d : Dom) : Int := if d.ok then d.all else 0
open Classical in
noncomputable def Dom.imgE (d : Dom) (lo hi : Int) : Int := if d.ok ∧ lo ≤ hi then d.img lo hi else 0
open Classical in
noncomputable def Dom.imgX (d : Dom) (lo hi : Int) : Int := if d.ok then (if hi < lo then 13 else 0) else 2
open Classical in
noncomputable def Dom.leastE (d : Dom) (v x : Int) : Option Int := if d.ok ∧ 0 ≤ v ∧ v < d.cnt then d.least v.toNat x else none
open Classical in
noncomputable def Dom.leastX (d : Dom) (v : Int) : Int := if d.ok then (if v < 0 ∨ (d.cnt : Int) ≤ v then 3 else 0) else 2
end Go.Lf
