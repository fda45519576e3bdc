/- layout: what a configuration's places are. Plain. -/
import Derived.Test.YtjghenomeindcaaGreatDomPlain
set_option linter.unusedVariables false
set_option linter.unusedSimpArgs false
namespace Go.Lf
structure Cfg where
  th : Int
  sl : Nat
  eng : Int
  bk : Nat
  d : Dom
  tw : List Nat
  lk : Nat
  tr : Int
  ba : Int
structure Cfg.ok (c : Cfg) : Prop where
  th1 : 1 ≤ c.th
  th2 : c.th ≤ 64
  sl1 : 1 ≤ c.sl
  sl2 : c.sl ≤ 64
  eng : c.eng = 1 ∨ c.eng = 2 ∨ c.eng = 3
  bk3 : c.eng = 3 → 1 ≤ c.bk ∧ c.bk ≤ 16
  bk0 : c.eng ≠ 3 → c.bk = 0
  d : c.d.ok
  tw6 : c.tw.length = 6
  tw : c.tw.sum ≤ 1024
  lk1 : 1 ≤ c.lk
  lk2 : c.lk ≤ 16
  tr1 : 1 ≤ c.tr
  tr2 : c.tr ≤ 255
  ba1 : 0 ≤ c.ba
  ba2 : c.ba ≤ 64
/-- The heights of the towers: n of each height, from a height on. -/
def hts : Nat → List Nat → List Nat
  | _, [] => []
  | h, n :: l => List.replicate n h ++ hts (h + 1) l
theorem hts_append (h : Nat) (l m : List Nat) : hts h (l ++ m) = hts h l ++ hts (h + l.length) m := by
  induction l generalizing h with
  | nil => simp [hts]
  | cons n l ih => simp only [List.cons_append, hts, ih, List.length_cons, List.append_assoc]; rw [show h + 1 + l.length = h + (l.length + 1) by omega]
theorem hts_len (h : Nat) (l : List Nat) : (hts h l).length = l.sum := by
  induction l generalizing h with
  | nil => rfl
  | cons n l ih => simp [hts, ih]
theorem hts_take {l : List Nat} {i n : Nat} (hi : l[i]? = some n) : hts 1 (l.take (i + 1)) = hts 1 (l.take i) ++ List.replicate n (i + 1) := by
  obtain ⟨hlt, -⟩ := List.getElem?_eq_some_iff.1 hi
  rw [List.take_add_one, hi, Option.toList_some, hts_append]
  simp only [hts, List.append_nil, List.length_take]
  rw [Nat.min_eq_left (by omega), Nat.add_comm 1 i]
theorem hts_mem {h : Nat} {l : List Nat} {x : Nat} (hx : x ∈ hts h l) : h ≤ x ∧ x < h + l.length := by
  induction l generalizing h with
  | nil => cases hx
  | cons n l ih =>
    rw [hts, List.mem_append] at hx
    rcases hx with hx | hx
    · have := (List.mem_replicate.1 hx).2
      simp; omega
    · have := ih hx
      simp at this ⊢; omega
/-- The first words of the towers, from a place on. -/
def tows : Nat → List Nat → List Nat
  | _, [] => []
  | at', h :: l => at' :: tows (at' + (5 + h)) l
/-- The words that towers take. -/
def towW (l : List Nat) : Nat := (l.map (5 + ·)).sum
theorem tows_append (a : Nat) (l m : List Nat) : tows a (l ++ m) = tows a l ++ tows (a + towW l) m := by
  induction l generalizing a with
  | nil => simp [tows, towW]
  | cons n l ih => simp only [List.cons_append, tows, ih, towW, List.map_cons, List.sum_cons]; rw [show a + (5 + n) + (l.map (5 + ·)).sum = a + (5 + n + (l.map (5 + ·)).sum) by omega]
theorem tows_len (a : Nat) (l : List Nat) : (tows a l).length = l.length := by
  induction l generalizing a with
  | nil => rfl
  | cons n l ih => simp [tows, ih]
theorem towW_append (l m : List Nat) : towW (l ++ m) = towW l + towW m := by simp [towW]
theorem towW_one (h : Nat) : towW [h] = 5 + h := by simp [towW]
theorem tows_take {a : Nat} {l : List Nat} {i h : Nat} (hi : l[i]? = some h) : tows a (l.take (i + 1)) = tows a (l.take i) ++ [a + towW (l.take i)] := by
  rw [List.take_add_one, hi, Option.toList_some, tows_append]; rfl
theorem towW_take {l : List Nat} {i h : Nat} (hi : l[i]? = some h) : towW (l.take (i + 1)) = towW (l.take i) + (5 + h) := by
  rw [List.take_add_one, hi, Option.toList_some, towW_append, towW_one]
theorem towW_le {l : List Nat} {m : Nat} (h : ∀ x ∈ l, x ≤ m) : towW l ≤ l.length * (5 + m) := by
  induction l with
  | nil => simp [towW]
  | cons n l ih =>
    have h1 := ih (fun x hx => h x (List.mem_cons_of_mem _ hx))
    have h2 := h n (List.mem_cons_self ..)
    have e : towW (n :: l) = 5 + n + towW l := rfl
    rw [e, List.length_cons, Nat.add_mul]; omega
section
variable (c : Cfg)
def Cfg.hs : List Nat := hts 1 c.tw
def Cfg.nT : Nat := c.hs.length
def Cfg.engW : Nat := if c.eng = 1 then c.sl else if c.eng = 2 then 2 * c.sl else 4 * c.bk
def Cfg.engine : Nat := c.sl
def Cfg.master : Nat := c.engine + c.engW
def Cfg.locks : Nat := c.master + 1
def Cfg.descs : Nat := c.locks + c.lk * 3
def Cfg.pools : Nat := c.descs + c.lk
def Cfg.links : Nat := c.pools + 6
def Cfg.heads : Nat := c.links + c.nT
def Cfg.towers : Nat := c.heads + c.d.cnt * 7
def Cfg.words : Nat := c.towers + towW c.hs
end
theorem Cfg.nT_sum (c : Cfg) : c.nT = c.tw.sum := hts_len 1 c.tw
theorem Cfg.ok.nT {c : Cfg} (h : c.ok) : c.nT ≤ 1024 := by rw [c.nT_sum]; exact h.tw
theorem Cfg.ok.hs {c : Cfg} (h : c.ok) : ∀ x ∈ c.hs, 1 ≤ x ∧ x ≤ 6 := fun x hx => by
  have := hts_mem hx
  have := h.tw6
  omega
theorem Cfg.ok.engW {c : Cfg} (h : c.ok) : c.engW ≤ 128 := by
  have := h.sl2
  unfold Cfg.engW
  split
  · omega
  · split
    · omega
    · rename_i h1 h2
      have := (h.bk3 (by have := h.eng; omega)).2
      omega
theorem Cfg.ok.tow {c : Cfg} (h : c.ok) : towW c.hs ≤ 11264 := by
  have h1 := towW_le (m := 6) (fun x hx => (h.hs x hx).2)
  have h2 := h.nT
  unfold Cfg.nT at h2
  omega
/-- The words of a new store: the word at a place. -/
def Cfg.initAt (c : Cfg) (a : Nat) : Nat :=
  if c.pools ≤ a ∧ a < c.links then (match c.hs.findIdx? (· = a - c.pools + 1) with | some i => i + 1 | none => 0)
  else if c.links ≤ a ∧ a < c.heads then (if c.hs[a - c.links + 1]? = c.hs[a - c.links]? then a - c.links + 2 else 0)
  else 0
end Go.Lf

/-! layout: the words of a new store, as the program and as the reference make them. Plain. -/
set_option linter.unusedVariables false
set_option linter.unusedSimpArgs false
namespace Go.Lf
theorem hts_sorted (h : Nat) (l : List Nat) : (hts h l).Pairwise (· ≤ ·) := by
  induction l generalizing h with
  | nil => exact List.Pairwise.nil
  | cons n l ih =>
    rw [hts, List.pairwise_append]
    refine ⟨List.pairwise_replicate.2 (.inr (Nat.le_refl _)), ih _, fun a ha b hb => ?_⟩
    have := (List.mem_replicate.1 ha).2
    have := hts_mem hb
    omega
/-- The number of the first tower of a height from an index on, 0: none. -/
def nx (h : Nat) : Nat → List Nat → Nat
  | _, [] => 0
  | m, x :: l => if x = h then m + 1 else nx h (m + 1) l
theorem nx_mem {h : Nat} {l : List Nat} (hm : h ∈ l) (m : Nat) (r : List Nat) : nx h m (l ++ r) = nx h m l := by
  induction l generalizing m with
  | nil => cases hm
  | cons x l ih =>
    simp only [List.cons_append, nx]
    by_cases e : x = h
    · rw [if_pos e, if_pos e]
    · rw [if_neg e, if_neg e, ih (by rcases List.mem_cons.1 hm with hm | hm; exact absurd hm.symm e; exact hm)]
theorem nx_not {h : Nat} {l : List Nat} (hm : h ∉ l) (m : Nat) (r : List Nat) : nx h m (l ++ r) = nx h (m + l.length) r := by
  induction l generalizing m with
  | nil => rfl
  | cons x l ih =>
    have h1 : x ≠ h := fun e => hm (e ▸ List.mem_cons_self ..)
    simp only [List.cons_append, nx, if_neg h1, List.length_cons]
    rw [ih (fun h2 => hm (List.mem_cons_of_mem _ h2)), show m + 1 + l.length = m + (l.length + 1) by omega]
theorem nx_zero {h : Nat} {l : List Nat} (hm : h ∉ l) (m : Nat) : nx h m l = 0 := by
  have := nx_not hm m []
  rw [List.append_nil] at this
  exact this
/-- What is in a list of a length at places that are given by a function. -/
def fill (n : Nat) (f : Nat → Nat) : List Nat := (List.range n).map f
theorem fill_len (n : Nat) (f : Nat → Nat) : (fill n f).length = n := by simp [fill]
theorem fill_at {n i : Nat} (f : Nat → Nat) (h : i < n) : (fill n f)[i]? = some (f i) := by simp [fill, h]
theorem fill_ext {n : Nat} {f g : Nat → Nat} (h : ∀ i, i < n → f i = g i) : fill n f = fill n g := by
  unfold fill
  exact List.map_congr_left fun i hi => h i (List.mem_range.1 hi)
theorem fill_set {n : Nat} {f : Nat → Nat} (i v : Nat) : (fill n f).set i v = fill n (fun j => if j = i then v else f j) := by
  apply List.ext_getElem?
  intro j
  rw [List.getElem?_set]
  by_cases hj : j < n
  · rw [fill_at _ hj]
    by_cases e : i = j
    · subst e
      rw [if_pos rfl, if_pos (by rw [fill_len]; exact hj), fill_at _ hj, if_pos rfl]
    · rw [if_neg e, fill_at _ hj, if_neg (fun h => e h.symm)]
  · have h1 : (fill n fun j => if j = i then v else f j)[j]? = none := List.getElem?_eq_none (by rw [fill_len]; omega)
    have h2 : (fill n f)[j]? = none := List.getElem?_eq_none (by rw [fill_len]; omega)
    rw [h1, h2]
    split
    · rw [fill_len]; rw [if_neg (by omega)]
    · rfl
section
variable (c : Cfg)
/-- As the program makes them: towers from the first on. -/
def Cfg.initP : Nat → List Nat
  | 0 => fill c.words (fun _ => 0)
  | i + 1 => if 0 < i ∧ c.hs[i - 1]? = c.hs[i]? then (Cfg.initP i).set (c.links + i - 1) (i + 1) else (Cfg.initP i).set (c.pools + ((c.hs[i]?).getD 0) - 1) (i + 1)
/-- As the reference makes them: k towers from the last on. -/
def Cfg.initR : Nat → List Nat
  | 0 => fill c.words (fun _ => 0)
  | k + 1 => let i := c.nT - 1 - k; let p := c.pools + ((c.hs[i]?).getD 0) - 1
    ((Cfg.initR k).set (c.links + i) (((Cfg.initR k)[p]?).getD 0)).set p (i + 1)
/-- With the towers of a part of the heights: l holds the heights of the towers from the index m on. -/
def Cfg.fin (m : Nat) (l : List Nat) (a : Nat) : Nat :=
  if c.pools ≤ a ∧ a < c.links then nx (a - c.pools + 1) m l
  else if c.links ≤ a ∧ a < c.heads then (if a - c.links < m then 0 else match l[a - c.links - m]? with | some h => nx h (a - c.links + 1) (l.drop (a - c.links - m + 1)) | none => 0)
  else 0
/-- The words of a new store. -/
def Cfg.init : List Nat := fill c.words (c.fin 0 c.hs)
end
theorem Cfg.le1 (c : Cfg) : c.links = c.pools + 6 := rfl
theorem Cfg.le2 (c : Cfg) : c.heads = c.links + c.nT := rfl
theorem Cfg.le3 (c : Cfg) : c.heads ≤ c.words := by unfold Cfg.words Cfg.towers; omega
theorem Cfg.fin_nil (c : Cfg) (m a : Nat) : c.fin m [] a = 0 := by
  unfold Cfg.fin
  split
  · rfl
  · split
    · split <;> simp
    · rfl
theorem Cfg.initP_eq (c : Cfg) (h : c.ok) : ∀ i, i ≤ c.nT → c.initP i = fill c.words (c.fin 0 (c.hs.take i))
  | 0, _ => by
    rw [Cfg.initP]
    exact fill_ext fun j _ => by rw [List.take_zero, c.fin_nil]
  | i + 1, hi => by
    have ih := Cfg.initP_eq c h i (by omega)
    have hlt : i < c.hs.length := by unfold Cfg.nT at hi; omega
    have hx : c.hs[i]? = some c.hs[i] := List.getElem?_eq_getElem hlt
    obtain ⟨x1, x6⟩ := h.hs c.hs[i] (List.getElem_mem hlt)
    have htk : c.hs.take (i + 1) = c.hs.take i ++ [c.hs[i]] := by rw [List.take_add_one, hx]; rfl
    have hsort := hts_sorted 1 c.tw
    have hle : ∀ j k (hj : j < c.hs.length) (hk : k < c.hs.length), j ≤ k → c.hs[j] ≤ c.hs[k] := fun j k hj hk hjk => by
      rcases Nat.lt_or_eq_of_le hjk with h1 | h1
      · exact List.pairwise_iff_getElem.1 hsort j k hj hk h1
      · subst h1; exact Nat.le_refl _
    have e1 := c.le1
    have e2 := c.le2
    have e3 := c.le3
    have hn : c.nT = c.hs.length := rfl
    rw [Cfg.initP, ih]
    by_cases hc : 0 < i ∧ c.hs[i - 1]? = c.hs[i]?
    · rw [if_pos hc, fill_set]
      obtain ⟨hp, hq⟩ := hc
      have hx1 : c.hs[i - 1] = c.hs[i] := by
        rw [List.getElem?_eq_getElem (by omega), hx] at hq
        exact Option.some.inj hq
      have hin : c.hs[i] ∈ c.hs.take i := List.mem_take_iff_getElem.2 ⟨i - 1, by omega, hx1⟩
      refine fill_ext fun a ha => ?_
      rw [htk]
      unfold Cfg.fin
      by_cases p1 : c.pools ≤ a ∧ a < c.links
      · rw [if_neg (show ¬ a = c.links + i - 1 by omega), if_pos p1, if_pos p1]
        by_cases e : c.hs[i] = a - c.pools + 1
        · rw [nx_mem (e ▸ hin)]
        · by_cases hm : a - c.pools + 1 ∈ c.hs.take i
          · rw [nx_mem hm]
          · rw [nx_not hm, nx_zero hm]; simp [nx, e]
      · rw [if_neg p1, if_neg p1]
        by_cases p2 : c.links ≤ a ∧ a < c.heads
        · rw [if_pos p2, if_pos p2, if_neg (Nat.not_lt_zero _), if_neg (Nat.not_lt_zero _)]
          simp only [Nat.sub_zero]
          obtain ⟨j, hj⟩ : ∃ j, a = c.links + j := ⟨a - c.links, by omega⟩
          subst hj
          rw [show c.links + j - c.links = j by omega]
          by_cases hji : j < i
          · have hjl : j < c.hs.length := by omega
            have hg : (c.hs.take i)[j]? = some c.hs[j] := by rw [List.getElem?_take_of_lt hji, List.getElem?_eq_getElem hjl]
            rw [List.getElem?_append_left (by rw [List.length_take]; omega), hg]
            simp only
            rw [List.drop_append_of_le_length (by rw [List.length_take]; omega)]
            by_cases e : c.links + j = c.links + i - 1
            · obtain rfl : j = i - 1 := by omega
              rw [if_pos e, List.drop_eq_nil_of_le (by rw [List.length_take]; omega), List.nil_append, nx, if_pos hx1.symm]
              omega
            · rw [if_neg e]
              by_cases hm : c.hs[j] ∈ (c.hs.take i).drop (j + 1)
              · rw [nx_mem hm]
              · rw [nx_not hm, nx_zero hm, nx, if_neg ?_]
                · rfl
                · intro he
                  apply hm
                  have h1 := hle j (j + 1) hjl (by omega) (by omega)
                  have h2 := hle (j + 1) i (by omega) hlt (by omega)
                  have h3 : c.hs[j + 1] = c.hs[j] := by omega
                  refine List.mem_iff_getElem?.2 ⟨0, ?_⟩
                  rw [List.getElem?_drop, Nat.add_zero, List.getElem?_take_of_lt (by omega), List.getElem?_eq_getElem (by omega), h3]
          · rw [if_neg (show ¬ c.links + j = c.links + i - 1 by omega), List.getElem?_eq_none (show (c.hs.take i).length ≤ j by rw [List.length_take]; omega)]
            by_cases hji' : j = i
            · subst hji'
              rw [List.getElem?_append_right (by rw [List.length_take]; omega), List.length_take, Nat.min_eq_left (by omega), Nat.sub_self]
              simp only [List.getElem?_cons_zero]
              rw [List.drop_eq_nil_of_le (by simp; omega)]
              rfl
            · rw [List.getElem?_eq_none (by simp; omega)]
        · rw [if_neg (show ¬ a = c.links + i - 1 by omega), if_neg p2, if_neg p2]
    · rw [if_neg hc, hx, Option.getD_some, fill_set]
      have hnin : c.hs[i] ∉ c.hs.take i := fun hm => by
        obtain ⟨j, hj, hje⟩ := List.mem_take_iff_getElem.1 hm
        apply hc
        refine ⟨by omega, ?_⟩
        have h1 := hle j (i - 1) (by omega) (by omega) (by omega)
        have h2 := hle (i - 1) i (by omega) hlt (by omega)
        rw [List.getElem?_eq_getElem (by omega), hx]
        congr 1
        omega
      refine fill_ext fun a ha => ?_
      rw [htk]
      unfold Cfg.fin
      by_cases p1 : c.pools ≤ a ∧ a < c.links
      · rw [if_pos p1, if_pos p1]
        by_cases e : c.hs[i] = a - c.pools + 1
        · rw [if_pos (show a = c.pools + c.hs[i] - 1 by omega), ← e, nx_not hnin]
          simp [nx]
          omega
        · rw [if_neg (show ¬ a = c.pools + c.hs[i] - 1 by omega)]
          by_cases hm : a - c.pools + 1 ∈ c.hs.take i
          · rw [nx_mem hm]
          · rw [nx_not hm, nx_zero hm]; simp [nx, e]
      · rw [if_neg (show ¬ a = c.pools + c.hs[i] - 1 by omega), if_neg p1, if_neg p1]
        by_cases p2 : c.links ≤ a ∧ a < c.heads
        · rw [if_pos p2, if_pos p2, if_neg (Nat.not_lt_zero _), if_neg (Nat.not_lt_zero _)]
          simp only [Nat.sub_zero]
          obtain ⟨j, hj⟩ : ∃ j, a = c.links + j := ⟨a - c.links, by omega⟩
          subst hj
          rw [show c.links + j - c.links = j by omega]
          by_cases hji : j < i
          · have hjl : j < c.hs.length := by omega
            have hg : (c.hs.take i)[j]? = some c.hs[j] := by rw [List.getElem?_take_of_lt hji, List.getElem?_eq_getElem hjl]
            rw [List.getElem?_append_left (by rw [List.length_take]; omega), hg]
            simp only
            rw [List.drop_append_of_le_length (by rw [List.length_take]; omega)]
            by_cases hm : c.hs[j] ∈ (c.hs.take i).drop (j + 1)
            · rw [nx_mem hm]
            · rw [nx_not hm, nx_zero hm, nx, if_neg ?_]
              · rfl
              · intro he
                apply hnin
                rw [he]
                exact List.mem_take_iff_getElem.2 ⟨j, by omega, rfl⟩
          · rw [List.getElem?_eq_none (show (c.hs.take i).length ≤ j by rw [List.length_take]; omega)]
            by_cases hji' : j = i
            · subst hji'
              rw [List.getElem?_append_right (by rw [List.length_take]; omega), List.length_take, Nat.min_eq_left (by omega), Nat.sub_self]
              simp only [List.getElem?_cons_zero]
              rw [List.drop_eq_nil_of_le (by simp; omega)]
              rfl
            · rw [List.getElem?_eq_none (by simp; omega)]
        · rw [if_neg p2, if_neg p2]
theorem Cfg.initP_all (c : Cfg) (h : c.ok) : c.initP c.nT = c.init := by
  rw [c.initP_eq h _ (Nat.le_refl _), show c.hs.take c.nT = c.hs from List.take_of_length_le (Nat.le_refl _)]; rfl
theorem Cfg.initR_eq (c : Cfg) (h : c.ok) : ∀ k, k ≤ c.nT → c.initR k = fill c.words (c.fin (c.nT - k) (c.hs.drop (c.nT - k)))
  | 0, _ => by
    rw [Cfg.initR, Nat.sub_zero, show c.hs.drop c.nT = [] from List.drop_eq_nil_of_le (Nat.le_refl _)]
    exact fill_ext fun j _ => by rw [c.fin_nil]
  | k + 1, hk => by
    have ih := Cfg.initR_eq c h k (by omega)
    obtain ⟨m, hm⟩ : ∃ m, c.nT = m + 1 + k := ⟨c.nT - 1 - k, by omega⟩
    have hn : c.nT = c.hs.length := rfl
    have e1 := c.le1
    have e2 := c.le2
    have e3 := c.le3
    have hlt : m < c.hs.length := by omega
    have hx : c.hs[m]? = some c.hs[m] := List.getElem?_eq_getElem hlt
    obtain ⟨x1, x6⟩ := h.hs c.hs[m] (List.getElem_mem hlt)
    have hd : c.hs.drop m = c.hs[m] :: c.hs.drop (m + 1) := List.drop_eq_getElem_cons hlt
    rw [Cfg.initR]
    rw [ih, show c.nT - 1 - k = m by omega, show c.nT - k = m + 1 by omega, show c.nT - (k + 1) = m by omega, hx, Option.getD_some, fill_at _ (by omega), Option.getD_some, fill_set, fill_set]
    have hp : c.fin (m + 1) (c.hs.drop (m + 1)) (c.pools + c.hs[m] - 1) = nx c.hs[m] (m + 1) (c.hs.drop (m + 1)) := by
      unfold Cfg.fin
      rw [if_pos (by omega), show c.pools + c.hs[m] - 1 - c.pools + 1 = c.hs[m] by omega]
    rw [hp]
    refine fill_ext fun a ha => ?_
    rw [hd]
    by_cases p1 : c.pools ≤ a ∧ a < c.links
    · by_cases e : a = c.pools + c.hs[m] - 1
      · rw [if_pos e]
        unfold Cfg.fin
        rw [if_pos p1, nx, if_pos (by omega)]
      · rw [if_neg e, if_neg (show ¬ a = c.links + m by omega)]
        unfold Cfg.fin
        rw [if_pos p1, if_pos p1, nx, if_neg (by omega)]
    · rw [if_neg (show ¬ a = c.pools + c.hs[m] - 1 by omega)]
      by_cases p2 : c.links ≤ a ∧ a < c.heads
      · obtain ⟨j, hj⟩ : ∃ j, a = c.links + j := ⟨a - c.links, by omega⟩
        subst hj
        unfold Cfg.fin
        rw [if_neg p1, if_neg p1, if_pos p2, if_pos p2, show c.links + j - c.links = j by omega]
        by_cases e : j = m
        · subst e
          rw [if_pos rfl, if_neg (Nat.lt_irrefl _), Nat.sub_self]
          rfl
        · rw [if_neg (show ¬ c.links + j = c.links + m by omega)]
          by_cases q : j < m
          · rw [if_pos q, if_pos (by omega)]
          · rw [if_neg q, if_neg (by omega)]
            obtain ⟨r, hr⟩ : ∃ r, j - m = r + 1 := ⟨j - m - 1, by omega⟩
            rw [hr, show j - (m + 1) = r by omega, List.getElem?_cons_succ]
            rfl
      · rw [if_neg (show ¬ a = c.links + m by omega)]
        unfold Cfg.fin
        rw [if_neg p1, if_neg p1, if_neg p2, if_neg p2]
theorem Cfg.initR_all (c : Cfg) (h : c.ok) : c.initR c.nT = c.init := by
  rw [c.initR_eq h _ (Nat.le_refl _), Nat.sub_self]; rfl
theorem Cfg.init_len (c : Cfg) : c.init.length = c.words := fill_len _ _
end Go.Lf

/-! The small configuration of the statements. Plain. -/
set_option linter.unusedVariables false
set_option linter.unusedSimpArgs false
namespace Go.Lf
/-- The cuts that are taken: a cut more. -/
def pk1 (acc : List Int) (x : Int) : List Int := if acc.length < 4 ∧ 0 < x ∧ (acc.length = 0 ∨ gcut acc (acc.length - 1) < x) then acc ++ [x] else acc
def pk (l : List Int) : List Int := l.foldl pk1 []
theorem pk_take {l : List Int} {i : Nat} {x : Int} (h : l[i]? = some x) : pk (l.take (i + 1)) = pk1 (pk (l.take i)) x := by
  unfold pk
  rw [List.take_add_one, h, Option.toList_some, List.foldl_append]; rfl
theorem pk1_full {acc : List Int} {x : Int} (h : acc.length = 4) : pk1 acc x = acc := by unfold pk1; rw [if_neg (by omega)]
theorem pk_full {l : List Int} {i : Nat} (h : (pk (l.take i)).length = 4) : pk l = pk (l.take i) := by
  have e : pk l = (l.drop i).foldl pk1 (pk (l.take i)) := by
    unfold pk
    rw [← List.foldl_append, List.take_append_drop]
  rw [e]
  generalize pk (l.take i) = acc at h
  generalize l.drop i = m
  induction m generalizing acc with
  | nil => rfl
  | cons x m ih => rw [List.foldl_cons, pk1_full h, ih _ h]
def PkOk (l : List Int) : Prop := l.length ≤ 4 ∧ AscTo l l.length
theorem gcut_app_old {l : List Int} {x : Int} {i : Nat} (h : i < l.length) : gcut (l ++ [x]) i = gcut l i := by
  unfold gcut; rw [List.getElem?_append_left h]
theorem gcut_app_new (l : List Int) (x : Int) : gcut (l ++ [x]) l.length = x := by
  unfold gcut; simp
theorem pk1_ok {acc : List Int} (x : Int) (h : PkOk acc) : PkOk (pk1 acc x) := by
  unfold pk1
  split
  · rename_i hc
    refine ⟨by simp; omega, ?_⟩
    rw [List.length_append, List.length_singleton]
    intro i hi
    rcases Nat.lt_or_ge i acc.length with h1 | h1
    · have := h.2 i h1
      cases i with
      | zero => rw [prv_zero, gcut_app_old h1]; rw [prv_zero] at this; exact this
      | succ i => rw [prv_succ, gcut_app_old h1, gcut_app_old (by omega)]; rw [prv_succ] at this; exact this
    · obtain rfl : i = acc.length := by omega
      rw [gcut_app_new]
      rcases Nat.eq_zero_or_pos acc.length with h0 | h0
      · rw [h0, prv_zero]; exact hc.2.1
      · obtain ⟨j, hj⟩ : ∃ j, acc.length = j + 1 := ⟨acc.length - 1, by omega⟩
        rw [hj, prv_succ, gcut_app_old (by omega)]
        have := hc.2.2.resolve_left (by omega)
        rw [hj] at this
        exact this
  · exact h
theorem pk_ok (l : List Int) : PkOk (pk l) := by
  unfold pk
  suffices h : ∀ acc, PkOk acc → PkOk (l.foldl pk1 acc) from h [] ⟨by simp, AscTo.zero _⟩
  induction l with
  | nil => exact fun acc h => h
  | cons x l ih => exact fun acc h => ih _ (pk1_ok x h)
def smallD (k n : Int) (cuts : List Int) : Dom :=
  if k % 3 = 0 then ⟨1, 0, []⟩ else if k % 3 = 1 then ⟨2, 1 + n % 5, []⟩ else if (pk cuts).length = 0 then ⟨1, 0, []⟩ else ⟨3, 0, pk cuts⟩
theorem smallD_ok (k n : Int) (cuts : List Int) : (smallD k n cuts).ok := by
  unfold smallD
  split
  · exact .inl ⟨rfl, rfl, rfl⟩
  · split
    · exact .inr (.inl ⟨rfl, ⟨by show 1 ≤ 1 + n % 5; omega, by show 1 + n % 5 ≤ 64; omega⟩, rfl⟩)
    · split
      · exact .inl ⟨rfl, rfl, rfl⟩
      · have h := pk_ok cuts
        have := h.1
        exact .inr (.inr ⟨rfl, rfl, ⟨by show 1 ≤ (pk cuts).length; omega, by show (pk cuts).length ≤ 63; omega⟩, h.2⟩)
/-- The small configuration. -/
def smallC (th sl eng bk k n : Int) (cuts : List Int) (t1 t2 t3 t4 t5 t6 lk tr ba : Int) : Cfg :=
  ⟨1 + th % 6, (1 + sl % 5).toNat, 1 + eng % 3, if eng % 3 = 2 then (1 + bk % 4).toNat else 0, smallD k n cuts, [(t1 % 7).toNat, (t2 % 7).toNat, (t3 % 7).toNat, (t4 % 7).toNat, (t5 % 7).toNat, (t6 % 7).toNat], (1 + lk % 4).toNat, 1 + tr % 6, ba % 4⟩
theorem smallC_ok (th sl eng bk k n : Int) (cuts : List Int) (t1 t2 t3 t4 t5 t6 lk tr ba : Int) : (smallC th sl eng bk k n cuts t1 t2 t3 t4 t5 t6 lk tr ba).ok := by
  constructor
  · show 1 ≤ 1 + th % 6; omega
  · show 1 + th % 6 ≤ 64; omega
  · show 1 ≤ (1 + sl % 5).toNat; omega
  · show (1 + sl % 5).toNat ≤ 64; omega
  · show 1 + eng % 3 = 1 ∨ 1 + eng % 3 = 2 ∨ 1 + eng % 3 = 3; omega
  · intro h
    have h' : eng % 3 = 2 := by have h : 1 + eng % 3 = 3 := h; omega
    show 1 ≤ (if eng % 3 = 2 then (1 + bk % 4).toNat else 0) ∧ (if eng % 3 = 2 then (1 + bk % 4).toNat else 0) ≤ 16
    rw [if_pos h']; omega
  · intro h
    have h' : ¬ eng % 3 = 2 := by have h : ¬ 1 + eng % 3 = 3 := h; omega
    exact if_neg h'
  · exact smallD_ok _ _ _
  · rfl
  · show (t1 % 7).toNat + ((t2 % 7).toNat + ((t3 % 7).toNat + ((t4 % 7).toNat + ((t5 % 7).toNat + ((t6 % 7).toNat + 0))))) ≤ 1024; omega
  · show 1 ≤ (1 + lk % 4).toNat; omega
  · show (1 + lk % 4).toNat ≤ 16; omega
  · show 1 ≤ 1 + tr % 6; omega
  · show 1 + tr % 6 ≤ 255; omega
  · show 0 ≤ ba % 4; omega
  · show ba % 4 ≤ 64; omega
theorem smallC_sl (th sl eng bk k n : Int) (cuts : List Int) (t1 t2 t3 t4 t5 t6 lk tr ba : Int) : (smallC th sl eng bk k n cuts t1 t2 t3 t4 t5 t6 lk tr ba).sl ≤ 5 := by
  show (1 + sl % 5).toNat ≤ 5; omega
theorem smallC_lk (th sl eng bk k n : Int) (cuts : List Int) (t1 t2 t3 t4 t5 t6 lk tr ba : Int) : (smallC th sl eng bk k n cuts t1 t2 t3 t4 t5 t6 lk tr ba).lk ≤ 4 := by
  show (1 + lk % 4).toNat ≤ 4; omega
end Go.Lf
