/- layout: the words of a new store, as the program and as the reference make them. Plain. -/
import Derived.Test.YtjghenomeindcaaGreatLayPlain
set_option linter.unusedVariables false
set_option linter.unusedSimpArgs false
namespace Go.Lf
theorem hts_sorted (h : Nat) (l : List Nat) : (hts h l).Pairwise (· ≤ ·) := by
  induction l generalizing h with
  | nil => exact List.Pairwise.nil
  | cons n l ih =>
    rw [hts, List.pairwise_append]
    refine ⟨List.pairwise_replicate.2 (.inr (Nat.le_refl _)), ih _, fun a ha b hb => ?_⟩
    have := (List.mem_replicate.1 ha).2
    have := hts_mem hb
    omega
/-- The number of the first tower of a height from an index on, 0: none. -/
def nx (h : Nat) : Nat → List Nat → Nat
  | _, [] => 0
  | m, x :: l => if x = h then m + 1 else nx h (m + 1) l
theorem nx_mem {h : Nat} {l : List Nat} (hm : h ∈ l) (m : Nat) (r : List Nat) : nx h m (l ++ r) = nx h m l := by
  induction l generalizing m with
  | nil => cases hm
  | cons x l ih =>
    simp only [List.cons_append, nx]
    by_cases e : x = h
    · rw [if_pos e, if_pos e]
    · rw [if_neg e, if_neg e, ih (by rcases List.mem_cons.1 hm with hm | hm; exact absurd hm.symm e; exact hm)]
theorem nx_not {h : Nat} {l : List Nat} (hm : h ∉ l) (m : Nat) (r : List Nat) : nx h m (l ++ r) = nx h (m + l.length) r := by
  induction l generalizing m with
  | nil => rfl
  | cons x l ih =>
    have h1 : x ≠ h := fun e => hm (e ▸ List.mem_cons_self ..)
    simp only [List.cons_append, nx, if_neg h1, List.length_cons]
    rw [ih (fun h2 => hm (List.mem_cons_of_mem _ h2)), show m + 1 + l.length = m + (l.length + 1) by omega]
theorem nx_zero {h : Nat} {l : List Nat} (hm : h ∉ l) (m : Nat) : nx h m l = 0 := by
  have := nx_not hm m []
  rw [List.append_nil] at this
  exact this
/-- What is in a list of a length at places that are given by a function. -/
def fill (n : Nat) (f : Nat → Nat) : List Nat := (List.range n).map f
theorem fill_len (n : Nat) (f : Nat → Nat) : (fill n f).length = n := by simp [fill]
theorem fill_at {n i : Nat} (f : Nat → Nat) (h : i < n) : (fill n f)[i]? = some (f i) := by simp [fill, h]
theorem fill_ext {n : Nat} {f g : Nat → Nat} (h : ∀ i, i < n → f i = g i) : fill n f = fill n g := by
  unfold fill
  exact List.map_congr_left fun i hi => h i (List.mem_range.1 hi)
theorem fill_set {n : Nat} {f : Nat → Nat} (i v : Nat) : (fill n f).set i v = fill n (fun j => if j = i then v else f j) := by
  apply List.ext_getElem?
  intro j
  rw [List.getElem?_set]
  by_cases hj : j < n
  · rw [fill_at _ hj]
    by_cases e : i = j
    · subst e
      rw [if_pos rfl, if_pos (by rw [fill_len]; exact hj), fill_at _ hj, if_pos rfl]
    · rw [if_neg e, fill_at _ hj, if_neg (fun h => e h.symm)]
  · have h1 : (fill n fun j => if j = i then v else f j)[j]? = none := List.getElem?_eq_none (by rw [fill_len]; omega)
    have h2 : (fill n f)[j]? = none := List.getElem?_eq_none (by rw [fill_len]; omega)
    rw [h1, h2]
    split
    · rw [fill_len]; rw [if_neg (by omega)]
    · rfl
section
variable (c : Cfg)
/-- As the program makes them: towers from the first on. -/
def Cfg.initP : Nat → List Nat
  | 0 => fill c.words (fun _ => 0)
  | i + 1 => if 0 < i ∧ c.hs[i - 1]? = c.hs[i]? then (Cfg.initP i).set (c.links + i - 1) (i + 1) else (Cfg.initP i).set (c.pools + ((c.hs[i]?).getD 0) - 1) (i + 1)
/-- As the reference makes them: k towers from the last on. -/
def Cfg.initR : Nat → List Nat
  | 0 => fill c.words (fun _ => 0)
  | k + 1 => let i := c.nT - 1 - k; let p := c.pools + ((c.hs[i]?).getD 0) - 1
    ((Cfg.initR k).set (c.links + i) (((Cfg.initR k)[p]?).getD 0)).set p (i + 1)
/-- With the towers of a part of the heights: l holds the heights of the towers from the index m on. -/
def Cfg.fin (m : Nat) (l : List Nat) (a : Nat) : Nat :=
  if c.pools ≤ a ∧ a < c.links then nx (a - c.pools + 1) m l
  else if c.links ≤ a ∧ a < c.heads then (if a - c.links < m then 0 else match l[a - c.links - m]? with | some h => nx h (a - c.links + 1) (l.drop (a - c.links - m + 1)) | none => 0)
  else 0
/-- The words of a new store. -/
def Cfg.init : List Nat := fill c.words (c.fin 0 c.hs)
end
theorem Cfg.le1 (c : Cfg) : c.links = c.pools + 6 := rfl
theorem Cfg.le2 (c : Cfg) : c.heads = c.links + c.nT := rfl
theorem Cfg.le3 (c : Cfg) : c.heads ≤ c.words := by unfold Cfg.words Cfg.towers; omega
theorem Cfg.fin_nil (c : Cfg) (m a : Nat) : c.fin m [] a = 0 := by
  unfold Cfg.fin
  split
  · rfl
  · split
    · split <;> simp
    · rfl
theorem Cfg.initP_eq (c : Cfg) (h : c.ok) : ∀ i, i ≤ c.nT → c.initP i = fill c.words (c.fin 0 (c.hs.take i))
  | 0, _ => by
    rw [Cfg.initP]
    exact fill_ext fun j _ => by rw [List.take_zero, c.fin_nil]
  | i + 1, hi => by
    have ih := Cfg.initP_eq c h i (by omega)
    have hlt : i < c.hs.length := by unfold Cfg.nT at hi; omega
    have hx : c.hs[i]? = some c.hs[i] := List.getElem?_eq_getElem hlt
    obtain ⟨x1, x6⟩ := h.hs c.hs[i] (List.getElem_mem hlt)
    have htk : c.hs.take (i + 1) = c.hs.take i ++ [c.hs[i]] := by rw [List.take_add_one, hx]; rfl
    have hsort := hts_sorted 1 c.tw
    have hle : ∀ j k (hj : j < c.hs.length) (hk : k < c.hs.length), j ≤ k → c.hs[j] ≤ c.hs[k] := fun j k hj hk hjk => by
      rcases Nat.lt_or_eq_of_le hjk with h1 | h1
      · exact List.pairwise_iff_getElem.1 hsort j k hj hk h1
      · subst h1; exact Nat.le_refl _
    have e1 := c.le1
    have e2 := c.le2
    have e3 := c.le3
    have hn : c.nT = c.hs.length := rfl
    rw [Cfg.initP, ih]
    by_cases hc : 0 < i ∧ c.hs[i - 1]? = c.hs[i]?
    · rw [if_pos hc, fill_set]
      obtain ⟨hp, hq⟩ := hc
      have hx1 : c.hs[i - 1] = c.hs[i] := by
        rw [List.getElem?_eq_getElem (by omega), hx] at hq
        exact Option.some.inj hq
      have hin : c.hs[i] ∈ c.hs.take i := List.mem_take_iff_getElem.2 ⟨i - 1, by omega, hx1⟩
      refine fill_ext fun a ha => ?_
      rw [htk]
      unfold Cfg.fin
      by_cases p1 : c.pools ≤ a ∧ a < c.links
      · rw [if_neg (show ¬ a = c.links + i - 1 by omega), if_pos p1, if_pos p1]
        by_cases e : c.hs[i] = a - c.pools + 1
        · rw [nx_mem (e ▸ hin)]
        · by_cases hm : a - c.pools + 1 ∈ c.hs.take i
          · rw [nx_mem hm]
          · rw [nx_not hm, nx_zero hm]; simp [nx, e]
      · rw [if_neg p1, if_neg p1]
        by_cases p2 : c.links ≤ a ∧ a < c.heads
        · rw [if_pos p2, if_pos p2, if_neg (Nat.not_lt_zero _), if_neg (Nat.not_lt_zero _)]
          simp only [Nat.sub_zero]
          obtain ⟨j, hj⟩ : ∃ j, a = c.links + j := ⟨a - c.links, by omega⟩
          subst hj
          rw [show c.links + j - c.links = j by omega]
          by_cases hji : j < i
          · have hjl : j < c.hs.length := by omega
            have hg : (c.hs.take i)[j]? = some c.hs[j] := by rw [List.getElem?_take_of_lt hji, List.getElem?_eq_getElem hjl]
            rw [List.getElem?_append_left (by rw [List.length_take]; omega), hg]
            simp only
            rw [List.drop_append_of_le_length (by rw [List.length_take]; omega)]
            by_cases e : c.links + j = c.links + i - 1
            · obtain rfl : j = i - 1 := by omega
              rw [if_pos e, List.drop_eq_nil_of_le (by rw [List.length_take]; omega), List.nil_append, nx, if_pos hx1.symm]
              omega
            · rw [if_neg e]
              by_cases hm : c.hs[j] ∈ (c.hs.take i).drop (j + 1)
              · rw [nx_mem hm]
              · rw [nx_not hm, nx_zero hm, nx, if_neg ?_]
                · rfl
                · intro he
                  apply hm
                  have h1 := hle j (j + 1) hjl (by omega) (by omega)
                  have h2 := hle (j + 1) i (by omega) hlt (by omega)
                  have h3 : c.hs[j + 1] = c.hs[j] := by omega
                  refine List.mem_iff_getElem?.2 ⟨0, ?_⟩
                  rw [List.getElem?_drop, Nat.add_zero, List.getElem?_take_of_lt (by omega), List.getElem?_eq_getElem (by omega), h3]
          · rw [if_neg (show ¬ c.links + j = c.links + i - 1 by omega), List.getElem?_eq_none (show (c.hs.take i).length ≤ j by rw [List.length_take]; omega)]
            by_cases hji' : j = i
            · subst hji'
              rw [List.getElem?_append_right (by rw [List.length_take]; omega), List.length_take, Nat.min_eq_left (by omega), Nat.sub_self]
              simp only [List.getElem?_cons_zero]
              rw [List.drop_eq_nil_of_le (by simp; omega)]
              rfl
            · rw [List.getElem?_eq_none (by simp; omega)]
        · rw [if_neg (show ¬ a = c.links + i - 1 by omega), if_neg p2, if_neg p2]
    · rw [if_neg hc, hx, Option.getD_some, fill_set]
      have hnin : c.hs[i] ∉ c.hs.take i := fun hm => by
        obtain ⟨j, hj, hje⟩ := List.mem_take_iff_getElem.1 hm
        apply hc
        refine ⟨by omega, ?_⟩
        have h1 := hle j (i - 1) (by omega) (by omega) (by omega)
        have h2 := hle (i - 1) i (by omega) hlt (by omega)
        rw [List.getElem?_eq_getElem (by omega), hx]
        congr 1
        omega
      refine fill_ext fun a ha => ?_
      rw [htk]
      unfold Cfg.fin
      by_cases p1 : c.pools ≤ a ∧ a < c.links
      · rw [if_pos p1, if_pos p1]
        by_cases e : c.hs[i] = a - c.pools + 1
        · rw [if_pos (show a = c.pools + c.hs[i] - 1 by omega), ← e, nx_not hnin]
          simp [nx]
          omega
        · rw [if_neg (show ¬ a = c.pools + c.hs[i] - 1 by omega)]
          by_cases hm : a - c.pools + 1 ∈ c.hs.take i
          · rw [nx_mem hm]
          · rw [nx_not hm, nx_zero hm]; simp [nx, e]
      · rw [if_neg (show ¬ a = c.pools + c.hs[i] - 1 by omega), if_neg p1, if_neg p1]
        by_cases p2 : c.links ≤ a ∧ a < c.heads
        · rw [if_pos p2, if_pos p2, if_neg (Nat.not_lt_zero _), if_neg (Nat.not_lt_zero _)]
          simp only [Nat.sub_zero]
          obtain ⟨j, hj⟩ : ∃ j, a = c.links + j := ⟨a - c.links, by omega⟩
          subst hj
          rw [show c.links + j - c.links = j by omega]
          by_cases hji : j < i
          · have hjl : j < c.hs.length := by omega
            have hg : (c.hs.take i)[j]? = some c.hs[j] := by rw [List.getElem?_take_of_lt hji, List.getElem?_eq_getElem hjl]
            rw [List.getElem?_append_left (by rw [List.length_take]; omega), hg]
            simp only
            rw [List.drop_append_of_le_length (by rw [List.length_take]; omega)]
            by_cases hm : c.hs[j] ∈ (c.hs.take i).drop (j + 1)
            · rw [nx_mem hm]
            · rw [nx_not hm, nx_zero hm, nx, if_neg ?_]
              · rfl
              · intro he
                apply hnin
                rw [he]
                exact List.mem_take_iff_getElem.2 ⟨j, by omega, rfl⟩
          · rw [List.getElem?_eq_none (show (c.hs.take i).length ≤ j by rw [List.length_take]; omega)]
            by_cases hji' : j = i
            · subst hji'
              rw [List.getElem?_append_right (by rw [List.length_take]; omega), List.length_take, Nat.min_eq_left (by omega), Nat.sub_self]
              simp only [List.getElem?_cons_zero]
              rw [List.drop_eq_nil_of_le (by simp; omega)]
              rfl
            · rw [List.getElem?_eq_none (by simp; omega)]
        · rw [if_neg p2, if_neg p2]
theorem Cfg.initP_all (c : Cfg) (h : c.ok) : c.initP c.nT = c.init := by
  rw [c.initP_eq h _ (Nat.le_refl _), show c.hs.take c.nT = c.hs from List.take_of_length_le (Nat.le_refl _)]; rfl
theorem Cfg.initR_eq (c : Cfg) (h : c.ok) : ∀ k, k ≤ c.nT → c.initR k = fill c.words (c.fin (c.nT - k) (c.hs.drop (c.nT - k)))
  | 0, _ => by
    rw [Cfg.initR, Nat.sub_zero, show c.hs.drop c.nT = [] from List.drop_eq_nil_of_le (Nat.le_refl _)]
    exact fill_ext fun j _ => by rw [c.fin_nil]
  | k + 1, hk => by
    have ih := Cfg.initR_eq c h k (by omega)
    obtain ⟨m, hm⟩ : ∃ m, c.nT = m + 1 + k := ⟨c.nT - 1 - k, by omega⟩
    have hn : c.nT = c.hs.length := rfl
    have e1 := c.le1
    have e2 := c.le2
    have e3 := c.le3
    have hlt : m < c.hs.length := by omega
    have hx : c.hs[m]? = some c.hs[m] := List.getElem?_eq_getElem hlt
    obtain ⟨x1, x6⟩ := h.hs c.hs[m] (List.getElem_mem hlt)
    have hd : c.hs.drop m = c.hs[m] :: c.hs.drop (m + 1) := List.drop_eq_getElem_cons hlt
    rw [Cfg.initR]
    rw [ih, show c.nT - 1 - k = m by omega, show c.nT - k = m + 1 by omega, show c.nT - (k + 1) = m by omega, hx, Option.getD_some, fill_at _ (by omega), Option.getD_some, fill_set, fill_set]
    have hp : c.fin (m + 1) (c.hs.drop (m + 1)) (c.pools + c.hs[m] - 1) = nx c.hs[m] (m + 1) (c.hs.drop (m + 1)) := by
      unfold Cfg.fin
      rw [if_pos (by omega), show c.pools + c.hs[m] - 1 - c.pools + 1 = c.hs[m] by omega]
    rw [hp]
    refine fill_ext fun a ha => ?_
    rw [hd]
    by_cases p1 : c.pools ≤ a ∧ a < c.links
    · by_cases e : a = c.pools + c.hs[m] - 1
      · rw [if_pos e]
        unfold Cfg.fin
        rw [if_pos p1, nx, if_pos (by omega)]
      · rw [if_neg e, if_neg (show ¬ a = c.links + m by omega)]
        unfold Cfg.fin
        rw [if_pos p1, if_pos p1, nx, if_neg (by omega)]
    · rw [if_neg (show ¬ a = c.pools + c.hs[m] - 1 by omega)]
      by_cases p2 : c.links ≤ a ∧ a < c.heads
      · obtain ⟨j, hj⟩ : ∃ j, a = c.links + j := ⟨a - c.links, by omega⟩
        subst hj
        unfold Cfg.fin
        rw [if_neg p1, if_neg p1, if_pos p2, if_pos p2, show c.links + j - c.links = j by omega]
        by_cases e : j = m
        · subst e
          rw [if_pos rfl, if_neg (Nat.lt_irrefl _), Nat.sub_self]
          rfl
        · rw [if_neg (show ¬ c.links + j = c.links + m by omega)]
          by_cases q : j < m
          · rw [if_pos q, if_pos (by omega)]
          · rw [if_neg q, if_neg (by omega)]
            obtain ⟨r, hr⟩ : ∃ r, j - m = r + 1 := ⟨j - m - 1, by omega⟩
            rw [hr, show j - (m + 1) = r by omega, List.getElem?_cons_succ]
            rfl
      · rw [if_neg (show ¬ a = c.links + m by omega)]
        unfold Cfg.fin
        rw [if_neg p1, if_neg p1, if_neg p2, if_neg p2]
theorem Cfg.initR_all (c : Cfg) (h : c.ok) : c.initR c.nT = c.init := by
  rw [c.initR_eq h _ (Nat.le_refl _), Nat.sub_self]; rfl
theorem Cfg.init_len (c : Cfg) : c.init.length = c.words := fill_len _ _
end Go.Lf
