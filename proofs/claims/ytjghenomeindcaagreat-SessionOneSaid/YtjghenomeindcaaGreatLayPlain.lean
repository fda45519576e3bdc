/- layout: what a configuration's places are. Plain. -/
import Derived.Test.YtjghenomeindcaaGreatDomMap
set_option linter.unusedVariables false
set_option linter.unusedSimpArgs false
namespace Go.Lf
structure Cfg where
  th : Int
  sl : Nat
  eng : Int
  bk : Nat
  d : Dom
  tw : List Nat
  lk : Nat
  tr : Int
  ba : Int
structure Cfg.ok (c : Cfg) : Prop where
  th1 : 1 ≤ c.th
  th2 : c.th ≤ 64
  sl1 : 1 ≤ c.sl
  sl2 : c.sl ≤ 64
  eng : c.eng = 1 ∨ c.eng = 2 ∨ c.eng = 3
  bk3 : c.eng = 3 → 1 ≤ c.bk ∧ c.bk ≤ 16
  bk0 : c.eng ≠ 3 → c.bk = 0
  d : c.d.ok
  tw6 : c.tw.length = 6
  tw : c.tw.sum ≤ 1024
  lk1 : 1 ≤ c.lk
  lk2 : c.lk ≤ 16
  tr1 : 1 ≤ c.tr
  tr2 : c.tr ≤ 255
  ba1 : 0 ≤ c.ba
  ba2 : c.ba ≤ 64
/-- The heights of the towers: n of each height, from a height on. -/
def hts : Nat → List Nat → List Nat
  | _, [] => []
  | h, n :: l => List.replicate n h ++ hts (h + 1) l
theorem hts_append (h : Nat) (l m : List Nat) : hts h (l ++ m) = hts h l ++ hts (h + l.length) m := by
  induction l generalizing h with
  | nil => simp [hts]
  | cons n l ih => simp only [List.cons_append, hts, ih, List.length_cons, List.append_assoc]; rw [show h + 1 + l.length = h + (l.length + 1) by omega]
theorem hts_len (h : Nat) (l : List Nat) : (hts h l).length = l.sum := by
  induction l generalizing h with
  | nil => rfl
  | cons n l ih => simp [hts, ih]
theorem hts_take {l : List Nat} {i n : Nat} (hi : l[i]? = some n) : hts 1 (l.take (i + 1)) = hts 1 (l.take i) ++ List.replicate n (i + 1) := by
  obtain ⟨hlt, -⟩ := List.getElem?_eq_some_iff.1 hi
  rw [List.take_add_one, hi, Option.toList_some, hts_append]
  simp only [hts, List.append_nil, List.length_take]
  rw [Nat.min_eq_left (by omega), Nat.add_comm 1 i]
theorem hts_mem {h : Nat} {l : List Nat} {x : Nat} (hx : x ∈ hts h l) : h ≤ x ∧ x < h + l.length := by
  induction l generalizing h with
  | nil => cases hx
  | cons n l ih =>
    rw [hts, List.mem_append] at hx
    rcases hx with hx | hx
    · have := (List.mem_replicate.1 hx).2
      simp; omega
    · have := ih hx
      simp at this ⊢; omega
/-- The first words of the towers, from a place on. -/
def tows : Nat → List Nat → List Nat
  | _, [] => []
  | at', h :: l => at' :: tows (at' + (5 + h)) l
/-- The words that towers take. -/
def towW (l : List Nat) : Nat := (l.map (5 + ·)).sum
theorem tows_append (a : Nat) (l m : List Nat) : tows a (l ++ m) = tows a l ++ tows (a + towW l) m := by
  induction l generalizing a with
  | nil => simp [tows, towW]
  | cons n l ih => simp only [List.cons_append, tows, ih, towW, List.map_cons, List.sum_cons]; rw [show a + (5 + n) + (l.map (5 + ·)).sum = a + (5 + n + (l.map (5 + ·)).sum) by omega]
theorem tows_len (a : Nat) (l : List Nat) : (tows a l).length = l.length := by
  induction l generalizing a with
  | nil => rfl
  | cons n l ih => simp [tows, ih]
theorem towW_append (l m : List Nat) : towW (l ++ m) = towW l + towW m := by simp [towW]
theorem towW_one (h : Nat) : towW [h] = 5 + h := by simp [towW]
theorem tows_take {a : Nat} {l : List Nat} {i h : Nat} (hi : l[i]? = some h) : tows a (l.take (i + 1)) = tows a (l.take i) ++ [a + towW (l.take i)] := by
  rw [List.take_add_one, hi, Option.toList_some, tows_append]; rfl
theorem towW_take {l : List Nat} {i h : Nat} (hi : l[i]? = some h) : towW (l.take (i + 1)) = towW (l.take i) + (5 + h) := by
  rw [List.take_add_one, hi, Option.toList_some, towW_append, towW_one]
theorem towW_le {l : List Nat} {m : Nat} (h : ∀ x ∈ l, x ≤ m) : towW l ≤ l.length * (5 + m) := by
  induction l with
  | nil => simp [towW]
  | cons n l ih =>
    have h1 := ih (fun x hx => h x (List.mem_cons_of_mem _ hx))
    have h2 := h n (List.mem_cons_self ..)
    have e : towW (n :: l) = 5 + n + towW l := rfl
    rw [e, List.length_cons, Nat.add_mul]; omega
section
variable (c : Cfg)
def Cfg.hs : List Nat := hts 1 c.tw
def Cfg.nT : Nat := c.hs.length
def Cfg.engW : Nat := if c.eng = 1 then c.sl else if c.eng = 2 then 2 * c.sl else 4 * c.bk
def Cfg.engine : Nat := c.sl
def Cfg.master : Nat := c.engine + c.engW
def Cfg.locks : Nat := c.master + 1
def Cfg.descs : Nat := c.locks + c.lk * 3
def Cfg.pools : Nat := c.descs + c.lk
def Cfg.links : Nat := c.pools + 6
def Cfg.heads : Nat := c.links + c.nT
def Cfg.towers : Nat := c.heads + c.d.cnt * 7
def Cfg.words : Nat := c.towers + towW c.hs
end
theorem Cfg.nT_sum (c : Cfg) : c.nT = c.tw.sum := hts_len 1 c.tw
theorem Cfg.ok.nT {c : Cfg} (h : c.ok) : c.nT ≤ 1024 := by rw [c.nT_sum]; exact h.tw
theorem Cfg.ok.hs {c : Cfg} (h : c.ok) : ∀ x ∈ c.hs, 1 ≤ x ∧ x ≤ 6 := fun x hx => by
  have := hts_mem hx
  have := h.tw6
  omega
theorem Cfg.ok.engW {c : Cfg} (h : c.ok) : c.engW ≤ 128 := by
  have := h.sl2
  unfold Cfg.engW
  split
  · omega
  · split
    · omega
    · rename_i h1 h2
      have := (h.bk3 (by have := h.eng; omega)).2
      omega
theorem Cfg.ok.tow {c : Cfg} (h : c.ok) : towW c.hs ≤ 11264 := by
  have h1 := towW_le (m := 6) (fun x hx => (h.hs x hx).2)
  have h2 := h.nT
  unfold Cfg.nT at h2
  omega
/-- The words of a new store: the word at a place. -/
def Cfg.initAt (c : Cfg) (a : Nat) : Nat :=
  if c.pools ≤ a ∧ a < c.links then (match c.hs.findIdx? (· = a - c.pools + 1) with | some i => i + 1 | none => 0)
  else if c.links ≤ a ∧ a < c.heads then (if c.hs[a - c.links + 1]? = c.hs[a - c.links]? then a - c.links + 2 else 0)
  else 0
end Go.Lf
