/- leapfrogref09: what each word is, as plain data. No program is named here. -/
import Derived.Test.YtjghenomeindcaaGreatLayPlain
import Derived.Test.YtjghenomeindcaaGreatStoreParts
import Derived.Test.YtjghenomeindcaaGreatDomRef
import Derived.Test.YtjghenomeindcaaGreatStore
import Derived.Deep.DeepCutAuto
set_option linter.unusedVariables false
set_option linter.unusedSimpArgs false
namespace Go.Lf
/-- What a word is. -/
structure RPl where
  kd : Int
  ix : Int
  wd : Int
def grpL (kd first per : Int) (n : Nat) : List RPl := (List.range n).map fun i : Nat => ⟨kd, first + (i : Int) / per, (i : Int) % per⟩
theorem grpL_len (kd first per : Int) (n : Nat) : (grpL kd first per n).length = n := by simp [grpL]
theorem grpL_succ (kd first per : Int) (n : Nat) : grpL kd first per (n + 1) = grpL kd first per n ++ [⟨kd, first + (n : Int) / per, (n : Int) % per⟩] := by
  unfold grpL
  rw [List.range_succ, List.map_append]
  rfl
theorem grpL_at (kd first per : Int) (n i : Nat) (h : i < n) : (grpL kd first per n)[i]? = some ⟨kd, first + (i : Int) / per, (i : Int) % per⟩ := by
  unfold grpL
  rw [List.getElem?_map, List.getElem?_range h]
  rfl
theorem grpL_kd {kd first per : Int} {n i : Nat} {p : RPl} (h : (grpL kd first per n)[i]? = some p) : p.kd = kd := by
  unfold grpL at h
  rw [List.getElem?_map] at h
  cases hr : (List.range n)[i]? with
  | none => rw [hr] at h; cases h
  | some j => rw [hr] at h; cases h; rfl
/-- The words of towers, the first of them being tower t. -/
def towR : Nat → List Nat → List RPl
  | _, [] => []
  | t, h :: l => grpL 9 (t : Int) ((5 + h : Nat) : Int) (5 + h) ++ towR (t + 1) l
theorem towR_len (t : Nat) (l : List Nat) : (towR t l).length = towW l := by
  induction l generalizing t with
  | nil => rfl
  | cons h l ih => unfold towR; rw [List.length_append, grpL_len, ih]; simp [towW]
theorem towR_append (t : Nat) (l m : List Nat) : towR t (l ++ m) = towR t l ++ towR (t + l.length) m := by
  induction l generalizing t with
  | nil => rfl
  | cons h l ih =>
    simp only [List.cons_append, towR, List.append_assoc, List.length_cons, ih]
    rw [show t + 1 + l.length = t + (l.length + 1) by omega]
theorem towR_take {l : List Nat} {i h : Nat} (hi : l[i]? = some h) : towR 1 (l.take (i + 1)) = towR 1 (l.take i) ++ grpL 9 ((i : Int) + 1) ((5 + h : Nat) : Int) (5 + h) := by
  have hl : i < l.length := (List.getElem?_eq_some_iff.1 hi).1
  rw [List.take_add_one, hi, Option.toList_some, towR_append, List.length_take, Nat.min_eq_left (by omega)]
  simp only [towR, List.append_nil]
  rw [show ((1 + i : Nat) : Int) = (i : Int) + 1 by omega]
/-- A word of a tower: which one. -/
theorem towR_at {l : List Nat} {t i : Nat} {p : RPl} (h : (towR t l)[i]? = some p) : ∃ (k x j : Nat), l[k]? = some x ∧ j < 5 + x ∧ i = towW (l.take k) + j ∧ p = ⟨9, ((t + k : Nat) : Int), (j : Int)⟩ := by
  induction l generalizing t i with
  | nil => simp [towR] at h
  | cons y l ih =>
    unfold towR at h
    by_cases hi : i < 5 + y
    · rw [List.getElem?_append_left (by rw [grpL_len]; exact hi), grpL_at _ _ _ _ _ hi] at h
      cases h
      refine ⟨0, y, i, rfl, hi, by simp [towW], ?_⟩
      have h1 : (i : Int) / ((5 + y : Nat) : Int) = 0 := Int.ediv_eq_zero_of_lt (by omega) (by omega)
      have h2 : (i : Int) % ((5 + y : Nat) : Int) = i := Int.emod_eq_of_lt (by omega) (by omega)
      rw [h1, h2]
      simp
    · rw [List.getElem?_append_right (by rw [grpL_len]; omega), grpL_len] at h
      obtain ⟨k, x, j, h1, h2, h3, h4⟩ := ih h
      refine ⟨k + 1, x, j, h1, h2, ?_, ?_⟩
      · simp [towW] at h3 ⊢
        omega
      · rw [h4]
        simp
        omega
theorem towR_get {l : List Nat} (t : Nat) {k x : Nat} (h : l[k]? = some x) {j : Nat} (hj : j < 5 + x) : (towR t l)[towW (l.take k) + j]? = some ⟨9, ((t + k : Nat) : Int), (j : Int)⟩ := by
  induction l generalizing t k with
  | nil => cases h
  | cons y l ih =>
    unfold towR
    cases k with
    | zero =>
      cases h
      have h1 : (j : Int) / ((5 + x : Nat) : Int) = 0 := Int.ediv_eq_zero_of_lt (by omega) (by omega)
      have h2 : (j : Int) % ((5 + x : Nat) : Int) = j := Int.emod_eq_of_lt (by omega) (by omega)
      rw [List.getElem?_append_left (by rw [grpL_len]; simp [towW]; omega)]
      simp only [List.take_zero, towW, List.map_nil, List.sum_nil, Nat.zero_add]
      rw [grpL_at _ _ _ _ _ hj, h1, h2]
      simp
    | succ k =>
      rw [List.getElem?_cons_succ] at h
      rw [List.getElem?_append_right (by rw [grpL_len]; simp [towW]; omega), grpL_len]
      have := ih (t + 1) h
      rw [show towW ((y :: l).take (k + 1)) + j - (5 + y) = towW (l.take k) + j by simp [towW]; omega, this]
      simp
      omega
/-- What comes ahead of the towers. -/
def whatA (c : Cfg) : List RPl :=
  grpL 1 0 1 c.sl ++ grpL 2 0 c.engW c.engW ++ grpL 3 0 1 1 ++ grpL 4 0 3 (3 * c.lk) ++ grpL 5 0 1 c.lk ++ grpL 6 0 1 6 ++ grpL 7 1 1 c.nT ++ grpL 8 0 7 (c.d.cnt * 7)
def whatR (c : Cfg) : List RPl := whatA c ++ towR 1 c.hs
theorem whatA_len (c : Cfg) : (whatA c).length = c.towers := by
  simp only [whatA, List.length_append, grpL_len, Cfg.towers, Cfg.heads, Cfg.links, Cfg.pools, Cfg.descs, Cfg.locks, Cfg.master, Cfg.engine]
  omega
theorem whatR_len (c : Cfg) : (whatR c).length = c.words := by rw [whatR, List.length_append, whatA_len, towR_len]; rfl
theorem whatA_kd {c : Cfg} {i : Nat} {p : RPl} (h : (whatA c)[i]? = some p) : p.kd ≠ 9 := by
  have hm := List.mem_of_getElem? h
  simp only [whatA, List.mem_append] at hm
  have hk : ∀ (kd first per : Int) (n : Nat), p ∈ grpL kd first per n → p.kd = kd := fun kd first per n hp => by
    obtain ⟨j, hj⟩ := List.getElem?_of_mem hp
    exact grpL_kd hj
  rcases hm with ((((((hm | hm) | hm) | hm) | hm) | hm) | hm) | hm <;> (rw [hk _ _ _ _ hm]; decide)
/-- The address of a word of a tower. -/
def Cfg.tAt (c : Cfg) (k : Nat) : Nat := c.towers + towW (c.hs.take k)
theorem whatR_tower {c : Cfg} {k x j : Nat} (h : c.hs[k]? = some x) (hj : j < 5 + x) : (whatR c)[c.tAt k + j]? = some ⟨9, (k : Int) + 1, (j : Int)⟩ := by
  unfold whatR Cfg.tAt
  rw [List.getElem?_append_right (by rw [whatA_len]; omega), whatA_len, show c.towers + towW (c.hs.take k) + j - c.towers = towW (c.hs.take k) + j by omega, towR_get 1 h hj]
  rw [show ((1 + k : Nat) : Int) = (k : Int) + 1 by omega]
theorem whatR_only {c : Cfg} {i : Nat} {t w : Int} (h : (whatR c)[i]? = some ⟨9, t, w⟩) : ∃ (k x j : Nat), c.hs[k]? = some x ∧ j < 5 + x ∧ i = c.tAt k + j ∧ t = (k : Int) + 1 ∧ w = j := by
  unfold whatR at h
  by_cases hi : i < (whatA c).length
  · rw [List.getElem?_append_left hi] at h
    exact absurd rfl (whatA_kd h)
  · rw [List.getElem?_append_right (by omega)] at h
    obtain ⟨k, x, j, h1, h2, h3, h4⟩ := towR_at h
    rw [whatA_len] at h3 hi
    simp only [RPl.mk.injEq] at h4
    exact ⟨k, x, j, h1, h2, by unfold Cfg.tAt; omega, by omega, h4.2.2⟩
/-- The first word that is so. -/
theorem whatR_first {c : Cfg} {k x j : Nat} (h : c.hs[k]? = some x) (hj : j < 5 + x) {i : Nat} (hi : i < c.tAt k + j) : (whatR c)[i]? ≠ some ⟨9, (k : Int) + 1, (j : Int)⟩ := by
  intro hw
  obtain ⟨k', x', j', h1, h2, h3, h4, h5⟩ := whatR_only hw
  obtain rfl : k' = k := by omega
  omega
theorem whatR_none {c : Cfg} {t w : Int} (h : t < 1 ∨ (c.nT : Int) < t) (i : Nat) : (whatR c)[i]? ≠ some ⟨9, t, w⟩ := by
  intro hw
  obtain ⟨k', x', j', h1, h2, h3, h4, h5⟩ := whatR_only hw
  have : k' < c.nT := (List.getElem?_eq_some_iff.1 h1).1
  omega
end Go.Lf

/-! leapfrogref09: the layout, word by word: a group of words. -/
set_option linter.unusedVariables false
set_option linter.unusedSimpArgs false
namespace Go.Lf
open Go.RowKit
def RPl.cells (x : RPl) : List Value := [.int .u8 x.kd, .int .i64 x.ix, .int .i64 x.wd]
def rplCells (l : List RPl) : List Value := l.flatMap RPl.cells
theorem rplCells_snoc (l : List RPl) (x : RPl) : rplCells (l ++ [x]) = rplCells l ++ x.cells := by simp [rplCells]
def rlCells (pre : List Value) (v : Value) : Array Value := (pre ++ [v]).toArray
theorem rlCells_last {pre : List Value} (h : pre.length = 27) (v : Value) : (rlCells pre v)[27]? = some v := by
  unfold rlCells
  simp [List.getElem?_append, h]
theorem rlCells_set {pre : List Value} (h : pre.length = 27) (v u : Value) : (rlCells pre v).setIfInBounds 27 u = rlCells pre u := by
  unfold rlCells
  simp [List.set_append, h]
end Go.Lf
namespace Go.Proofs.YtjghenomeindcaaGreat
open Go.RowKit Go.Lf
theorem infoPl : (Tryz.prog.info? 250).map (fun i => (i.zero, i.size, i.bytes)) = some (some (.agg #[.int .u8 0, .int .i64 0, .int .i64 0]), 3, 24) := by kernel_rfl
structure RGrp (w : World) (l : Nat) (pre : List Value) (a : Option Addr) (cp : Nat) (wh : List RPl) : Prop where
  head : w.heap[l]? = some (.cells (rlCells pre (.slice a wh.length cp)) 123 (0, 0))
  row : w.ownsRow 0 250 3 (.slice a wh.length cp) wh.length (rplCells wh)
  ne : (Value.slice a wh.length cp).ownBlock ≠ some l
def RGrpTo (w : World) (l : Nat) (pre : List Value) (a : Option Addr) (cp : Nat) (wh wh' : List RPl) (w' : World) : Prop :=
  ∃ a' cp', RGrp w' l pre a' cp' wh' ∧ Keep (fun k => k = l ∨ (Value.slice a wh.length cp).ownBlock = some k) w w' ∧ RowStep w (.slice a wh.length cp) (.slice a' wh'.length cp')
section
variable {w w' : World} {l cp : Nat} {pre : List Value} {a : Option Addr} {wh : List RPl}
theorem RGrp.keep (h : RGrp w l pre a cp wh) {S : Nat → Prop} (hk : Keep S w w') (h1 : ¬ S l) (h2 : ∀ k, (Value.slice a wh.length cp).ownBlock = some k → ¬ S k) : RGrp w' l pre a cp wh :=
  ⟨hk.at h.head h1, row_keep h.row hk h2, h.ne⟩
theorem RGrp.quiet (h : RGrp w l pre a cp wh) (hk : Keep Nil w w') : RGrp w' l pre a cp wh := h.keep hk (fun h => h) (fun _ _ h => h)
set_option maxRecDepth 100000 in
set_option maxHeartbeats 4000000 in
theorem rgroup_ok (h : RGrp w l pre a cp wh) (hp : pre.length = 27) (n : Nat) (kd first per : Int) (hper : 0 < per) (hn : n ≤ 100000) (hw : wh.length ≤ 100000) (f0 : 0 ≤ first) (f1 : first ≤ 100000) (nn : Int) (hnn : nn = n) :
    Calls Tryz.prog 75 #[.pointer (some ⟨l, 0, none⟩), .int .i64 nn, .int .u8 kd, .int .i64 first, .int .i64 per] w fun e w' => e = .returned (.int .i64 wh.length) ∧ RGrpTo w l pre a cp wh (wh ++ grpL kd first per n) w' := by
  subst hnn
  have c27 : w.cell? ⟨l, 27, none⟩ = some (.slice a wh.length cp) := by rw [cell_of h.head, rlCells_last hp]
  have H := hid h
  have HP := hid hp
  have HB := hid (And.intro hn hw)
  have HF := hid (And.intro f0 f1)
  clear h hp hn hw f0 f1
  go_enter Tryz.func75, Tryz.ntmps75
  go_wp2
  clear c27
  go_loopw [12] (fun i wz => ∃ (k : Nat) (a' : Option Addr) (cp' : Nat), k ≤ n ∧ i = .int .i64 k ∧ RGrp wz l pre a' cp' (wh ++ grpL kd first per k) ∧ Keep (fun q => q = l ∨ (Value.slice a wh.length cp).ownBlock = some q) w wz ∧ RowStep w (.slice a wh.length cp) (.slice a' (wh ++ grpL kd first per k).length cp')) (fun i _ => n - (intOf i).toNat)
  case atStart => exact ⟨0, a, cp, Nat.zero_le _, rfl, by simpa [grpL] using H.out, Keep.refl _ _, by rw [show wh ++ grpL kd first per 0 = wh by simp [grpL]]; exact fun k e => .inl e⟩
  case round =>
    obtain ⟨k, a', cp', hk, rfl, hg, hkw, hst⟩ := hrel
    by_cases hlt : k < n
    · obtain ⟨W, hW⟩ : ∃ W, W = wh ++ grpL kd first per k := ⟨_, rfl⟩
      have hWl : W.length = wh.length + k := by rw [hW, List.length_append, grpL_len]
      have hW2 : wh ++ grpL kd first per (k + 1) = W ++ [⟨kd, first + (k : Int) / per, (k : Int) % per⟩] := by rw [grpL_succ, ← List.append_assoc, ← hW]
      rw [← hW] at hg hst
      have HG := hid hg
      have HKW := hid hkw
      have HST := hid hst
      have HW2 := hid hW2
      have HWL := hid hWl
      have HLT := hid hlt
      have c27 : wr.cell? ⟨l, 27, none⟩ = some (.slice a' W.length cp') := by rw [cell_of hg.head, rlCells_last HP.out]
      have z27 : wr.frozen? ⟨l, 27, none⟩ = false := free_of hg.head 27
      have dk : decide ((k : Int) < (n : Int)) = true := decide_eq_true (by omega)
      have ek : decide (k < n) = true := decide_eq_true hlt
      have k0 : (0 : Int) ≤ (k : Int) := by omega
      have hq0 : 0 ≤ (k : Int) / per := Int.ediv_nonneg (by omega) (by omega)
      have hq1 : (k : Int) / per ≤ (k : Int) := Int.ediv_le_self _ (by omega)
      have hq2 : 0 ≤ (k : Int) % per := Int.emod_nonneg _ (by omega)
      have wk : IntKind.i64.wrap ((k : Int) + 1) = (k : Int) + 1 := by rw [IntKind.wrap_i64]; have := HB.out; omega
      have dp : (per == 0) = false := beq_eq_false_iff_ne.2 (by omega)
      have np : ¬ (per = 0) := by omega
      have t1 : Int.tdiv (k : Int) per = (k : Int) / per := Int.tdiv_eq_ediv_of_nonneg (by omega)
      have t2 : Int.tmod (k : Int) per = (k : Int) % per := Int.tmod_eq_emod_of_nonneg (by omega)
      have w1 : IntKind.i64.wrap ((k : Int) / per) = (k : Int) / per := by rw [IntKind.wrap_i64]; have := HB.out; omega
      have w2 : IntKind.i64.wrap (first + (k : Int) / per) = first + (k : Int) / per := by rw [IntKind.wrap_i64]; have := HB.out; have := HF.out; omega
      clear hg hkw hst hW hW2 hWl hlt hk
      have hlz : l < wr.heap.size := lt_of_block HG.out.head
      go_wp2
      go_region_law (refine step_app _ rfl (.tmp 27) (.tmp 38) 121 rfl 250 _ 3 24 Tryz.underlying121 infoPl rfl (by decide) (.slice a' W.length cp') W.length (rplCells W) (by simp [Act.eval]) ((row_drew HG.out.row).alloc _) _ 1 [.int .u8 kd, .int .i64 (first + (k : Int) / per), .int .i64 ((k : Int) % per)] (by simp [Act.eval]) (rd_new _ _ _ _ _ _) (by simp [Value.oneCell']) (by have := HB.out; have := HWL.out; have := HLT.out; omega) (by have := HB.out; have := HWL.out; have := HLT.out; unfold maxLen; omega) ?_; intro a2 c2 w5 ho hgr hs; have hb1 : w5.heap[l]? = some (.cells (rlCells pre (.slice a' W.length cp')) 123 (0, 0)) := (hgr.block l (by simp; omega) (fun e => HG.out.ne e.symm)).trans (alloc_old HG.out.head _); have hf1 : w5.frozen? ⟨l, 27, none⟩ = false := free_of hb1 27; have hc1 : w5.cell? ⟨l, 27, none⟩ = some (.slice a' W.length cp') := (by rw [cell_of hb1, rlCells_last HP.out]); have HO := hid ho; have HGR := hid hgr; have HHS := hid hs; have HB1 := hid hb1; clear ho hgr hs hb1)
      all_goals
        have HKB := hid (show Keep (fun q => q = l ∨ (Value.slice a' W.length cp').ownBlock = some q) wr (w5.setCell ⟨l, 27, none⟩ (.slice a2 (W.length + 1) c2)) from Keep.setCell (((((Keep.refl (fun q => q = l ∨ (Value.slice a' W.length cp').ownBlock = some q) wr).alloc _).drew).grown HGR.out (fun q e => .inl (.inr e)))) (.inl (.inl rfl)) _)
        have HNE := hid (show (Value.slice a2 (W.length + 1) c2).ownBlock ≠ some l from fun e => (HHS.out l e).elim HG.out.ne (fun e => by simp at e; omega))
        have HG2 := hid (show RGrp (w5.setCell ⟨l, 27, none⟩ (.slice a2 (W.length + 1) c2)) l pre a2 c2 (W ++ [⟨kd, first + (k : Int) / per, (k : Int) % per⟩]) from ⟨by rw [set_same HB1.out, rlCells_set HP.out, List.length_append, List.length_singleton], by rw [rplCells_snoc, List.length_append, List.length_singleton]; exact ownsRow_setCell_other HO.out HNE.out _, by rw [List.length_append, List.length_singleton]; exact HNE.out⟩)
        have HST2 := hid (show RowStep w (.slice a wh.length cp) (.slice a2 (W.length + 1) c2) from fun q e => by
          have hz : w.heap.size ≤ wr.heap.size := HKW.out.size
          rcases HHS.out q e with h | h
          · exact HST.out q h
          · exact .inr (by simp at h; omega))
        go_wp2
        go_roundw
        case rel => exact ⟨k + 1, a2, c2, by have := HLT.out; omega, by go_num, by rw [HW2.out]; exact HG2.out, HKW.out.trans HKB.out (fun q hq e => by
          rcases e with e | e
          · exact .inl e
          · rcases HST.out q e with h | h
            · exact .inr h
            · omega), by rw [HW2.out, List.length_append, List.length_singleton]; exact HST2.out⟩
        case measure => have := HLT.out; simp [intOf]; omega
    · obtain rfl : k = n := by omega
      have HG := hid hg
      have HKW := hid hkw
      have HST := hid hst
      clear hg hkw hst
      go_wp2
      go_ret
      exact ⟨rfl, a', cp', HG.out, HKW.out, HST.out⟩
end
end Go.Proofs.YtjghenomeindcaaGreat

/-! leapfrogref09: Check. -/
set_option linter.unusedVariables false
set_option linter.unusedSimpArgs false
namespace Go.Proofs.YtjghenomeindcaaGreat
open Go.RowKit Go.Lf
section
variable {w : World}
set_option maxRecDepth 100000 in
set_option maxHeartbeats 8000000 in
theorem rlcheck_ok (c : Cfg) (hc : c.ok) (t1 t2 t3 t4 t5 t6 : Nat) (htw : c.tw = [t1, t2, t3, t4, t5, t6]) (a : Option Addr) (cp : Nat) (hrd : Rd w 1 (.slice a c.d.cuts.length cp) c.d.cuts.length (u64s c.d.cuts)) : Calls Tryz.prog 73 #[cfgV c t1 t2 t3 t4 t5 t6 a cp] w fun e w' => e = .returned (.int .i64 0) ∧ Keep Nil w w' := by
  have hsum := hc.tw
  rw [htw] at hsum
  simp only [List.sum_cons, List.sum_nil] at hsum
  have HC := hid hc
  have HRD := hid hrd
  have HD := hid (Dom.err_ok hc.d)
  have hb := hc.eng
  clear hrd hc
  have l1 : decide ((t1 : Int) < 0) = false := decide_eq_false (by omega)
  have l2 : decide ((t2 : Int) < 0) = false := decide_eq_false (by omega)
  have l3 : decide ((t3 : Int) < 0) = false := decide_eq_false (by omega)
  have l4 : decide ((t4 : Int) < 0) = false := decide_eq_false (by omega)
  have l5 : decide ((t5 : Int) < 0) = false := decide_eq_false (by omega)
  have l6 : decide ((t6 : Int) < 0) = false := decide_eq_false (by omega)
  have g1 : decide (1024 < (t1 : Int)) = false := decide_eq_false (by omega)
  have g2 : decide (1024 - (t1 : Int) < (t2 : Int)) = false := decide_eq_false (by omega)
  have g3 : decide (1024 - ((t1 : Int) + t2) < (t3 : Int)) = false := decide_eq_false (by omega)
  have g4 : decide (1024 - ((t1 : Int) + t2 + t3) < (t4 : Int)) = false := decide_eq_false (by omega)
  have g5 : decide (1024 - ((t1 : Int) + t2 + t3 + t4) < (t5 : Int)) = false := decide_eq_false (by omega)
  have g6 : decide (1024 - ((t1 : Int) + t2 + t3 + t4 + t5) < (t6 : Int)) = false := decide_eq_false (by omega)
  have x1 : decide (c.th < 1) = false := decide_eq_false (by have := HC.out.th1; omega)
  have x2 : decide (64 < c.th) = false := decide_eq_false (by have := HC.out.th2; omega)
  have x3 : decide ((c.sl : Int) < 1) = false := decide_eq_false (by have := HC.out.sl1; omega)
  have x4 : decide (64 < (c.sl : Int)) = false := decide_eq_false (by have := HC.out.sl2; omega)
  have x5 : decide ((c.lk : Int) < 1) = false := decide_eq_false (by have := HC.out.lk1; omega)
  have x6 : decide (16 < (c.lk : Int)) = false := decide_eq_false (by have := HC.out.lk2; omega)
  have x7 : decide (c.tr < 1) = false := decide_eq_false (by have := HC.out.tr1; omega)
  have x8 : decide (255 < c.tr) = false := decide_eq_false (by have := HC.out.tr2; omega)
  have x9 : decide (c.ba < 0) = false := decide_eq_false (by have := HC.out.ba1; omega)
  have x10 : decide (64 < c.ba) = false := decide_eq_false (by have := HC.out.ba2; omega)
  have HM := hid (show c.d.cuts.length ≤ 1000000 by
    rcases HC.out.d with ⟨_, _, h⟩ | ⟨_, _, h⟩ | ⟨_, _, h, _⟩
    · rw [h]; decide
    · rw [h]; decide
    · omega)
  have HLO := hid (show ∀ y ∈ c.d.cuts, 0 ≤ y from fun y hy => by
    rcases HC.out.d with ⟨_, _, h⟩ | ⟨_, _, h⟩ | ⟨_, _, _, h⟩
    · rw [h] at hy; cases hy
    · rw [h] at hy; cases hy
    · obtain ⟨i, hi⟩ := List.getElem?_of_mem hy
      have hlt := (List.getElem?_eq_some_iff.1 hi).1
      rw [gcut_at hlt] at hi
      cases hi
      have := h.low hlt
      omega)
  unfold cfgV
  rcases hb with hb | hb | hb
  · have e0 : ((c.bk : Int) != 0) = false := by have := HC.out.bk0 (by omega); rw [this]; rfl
    rw [hb]
    clear hb
    go_enter Tryz.func73, Tryz.ntmps73
    go_wp2_with fail
    refine (drcheck_any c.d (rd_keep HRD.out ((Keep.refl Nil w).alloc _) (fun _ _ h => h)) HM.out HLO.out).mono ?_
    rw [HD.out]
    rintro e w2 ⟨rfl, hk⟩
    have hb2 := hk.at (heap_alloc_new w _) (fun h => h)
    obtain ⟨c0, c1, c2, c3, c4, c5, c6, c7, c8, c9, c10, c11, c12, c13, c14, c15⟩ := bx16 hb2
    have HK := hid (((Keep.refl Nil w).alloc _).trans hk (fun _ _ h => h))
    clear hk hb2
    go_wp2
    go_rounds 7
    go_ret
    exact ⟨rfl, HK.out⟩
  · have e0 : ((c.bk : Int) != 0) = false := by have := HC.out.bk0 (by omega); rw [this]; rfl
    rw [hb]
    clear hb
    go_enter Tryz.func73, Tryz.ntmps73
    go_wp2_with fail
    refine (drcheck_any c.d (rd_keep HRD.out ((Keep.refl Nil w).alloc _) (fun _ _ h => h)) HM.out HLO.out).mono ?_
    rw [HD.out]
    rintro e w2 ⟨rfl, hk⟩
    have hb2 := hk.at (heap_alloc_new w _) (fun h => h)
    obtain ⟨c0, c1, c2, c3, c4, c5, c6, c7, c8, c9, c10, c11, c12, c13, c14, c15⟩ := bx16 hb2
    have HK := hid (((Keep.refl Nil w).alloc _).trans hk (fun _ _ h => h))
    clear hk hb2
    go_wp2
    go_rounds 7
    go_ret
    exact ⟨rfl, HK.out⟩
  · have hbk := HC.out.bk3 hb
    have e1 : decide ((c.bk : Int) < 1) = false := decide_eq_false (by omega)
    have e2 : decide (16 < (c.bk : Int)) = false := decide_eq_false (by omega)
    clear hbk
    rw [hb]
    clear hb
    go_enter Tryz.func73, Tryz.ntmps73
    go_wp2_with fail
    refine (drcheck_any c.d (rd_keep HRD.out ((Keep.refl Nil w).alloc _) (fun _ _ h => h)) HM.out HLO.out).mono ?_
    rw [HD.out]
    rintro e w2 ⟨rfl, hk⟩
    have hb2 := hk.at (heap_alloc_new w _) (fun h => h)
    obtain ⟨c0, c1, c2, c3, c4, c5, c6, c7, c8, c9, c10, c11, c12, c13, c14, c15⟩ := bx16 hb2
    have HK := hid (((Keep.refl Nil w).alloc _).trans hk (fun _ _ h => h))
    clear hk hb2
    go_wp2
    go_rounds 7
    go_ret
    exact ⟨rfl, HK.out⟩
end
end Go.Proofs.YtjghenomeindcaaGreat

/-! leapfrogref09: the layout while its words are laid. -/
set_option linter.unusedVariables false
set_option linter.unusedSimpArgs false
namespace Go.Lf
open Go.RowKit
def lup (p : Nat → Int) (j : Nat) (v : Int) : Nat → Int := fun i => if i = j then v else p i
def rpr (cf : List Value) (hv : Value) (p : Nat → Int) : List Value := cf ++ (List.range 10).map (fun i => Value.int .i64 (p i)) ++ [hv]
theorem rpr_len {cf : List Value} (h : cf.length = 16) (hv : Value) (p : Nat → Int) : (rpr cf hv p).length = 27 := by simp [rpr, h]
theorem rpr_at {cf : List Value} (h : cf.length = 16) (hv : Value) (p : Nat → Int) {j : Nat} (hj : j < 10) : (rpr cf hv p)[16 + j]? = some (.int .i64 (p j)) := by
  unfold rpr
  rw [List.append_assoc, List.getElem?_append_right (by omega), h, show 16 + j - 16 = j by omega, List.getElem?_append_left (by simp; omega), List.getElem?_map, List.getElem?_range hj]
  rfl
theorem rpr_hv {cf : List Value} (h : cf.length = 16) (hv : Value) (p : Nat → Int) : (rpr cf hv p)[26]? = some hv := by
  unfold rpr
  rw [List.getElem?_append_right (by simp [h])]
  simp [h]
theorem rpr_set {cf : List Value} (h : cf.length = 16) (hv : Value) (p : Nat → Int) {j : Nat} (hj : j < 10) (v : Int) : (rpr cf hv p).set (16 + j) (.int .i64 v) = rpr cf hv (lup p j v) := by
  apply List.ext_getElem?
  intro i
  rw [List.getElem?_set]
  by_cases e : 16 + j = i
  · subst e
    rw [if_pos rfl, if_pos (by rw [rpr_len h]; omega), rpr_at h _ _ hj]
    simp [lup]
  · rw [if_neg e]
    by_cases h1 : i < 16
    · unfold rpr
      rw [List.append_assoc, List.append_assoc, List.getElem?_append_left (by omega), List.getElem?_append_left (by omega)]
    · by_cases h2 : i < 26
      · obtain ⟨k, rfl⟩ : ∃ k, i = 16 + k := ⟨i - 16, by omega⟩
        rw [rpr_at h _ _ (by omega), rpr_at h _ _ (by omega)]
        unfold lup
        rw [if_neg (by omega)]
      · by_cases h3 : i = 26
        · subst h3; rw [rpr_hv h, rpr_hv h]
        · rw [List.getElem?_eq_none (by rw [rpr_len h]; omega), List.getElem?_eq_none (by rw [rpr_len h]; omega)]
theorem rlCells_put {pre : List Value} (h : pre.length = 27) (v u : Value) {i : Nat} (hi : i < 27) : (rlCells pre v).setIfInBounds i u = rlCells (pre.set i u) v := by
  unfold rlCells
  rw [List.setIfInBounds_toArray, List.set_append, if_pos (by omega)]
theorem rlCells_at {pre : List Value} (v : Value) {i : Nat} {u : Value} (hi : pre[i]? = some u) : (rlCells pre v)[i]? = some u := by
  unfold rlCells
  have := (List.getElem?_eq_some_iff.1 hi).1
  simp [List.getElem?_append, this, hi]
  exact (List.getElem?_eq_some_iff.1 hi).2

def gsP (c : Cfg) : Nat → List RPl
  | 0 => grpL 1 0 1 c.sl
  | 1 => grpL 2 0 c.engW c.engW
  | 2 => grpL 3 0 1 1
  | 3 => grpL 4 0 3 (3 * c.lk)
  | 4 => grpL 5 0 1 c.lk
  | 5 => grpL 6 0 1 6
  | 6 => grpL 7 1 1 c.nT
  | 7 => grpL 8 0 7 (c.d.cnt * 7)
  | _ => []
def whP (c : Cfg) : Nat → List RPl
  | 0 => []
  | j + 1 => whP c j ++ gsP c j
def posP (c : Cfg) : Nat → Nat
  | 0 => 0
  | 1 => c.engine
  | 2 => c.master
  | 3 => c.locks
  | 4 => c.descs
  | 5 => c.pools
  | 6 => c.links
  | 7 => c.heads
  | 8 => c.towers
  | _ => c.words
theorem whP_len (c : Cfg) {j : Nat} (hj : j ≤ 8) : (whP c j).length = posP c j := by
  have h1 : c.engine = c.sl := rfl
  have h2 : c.master = c.engine + c.engW := rfl
  have h3 : c.locks = c.master + 1 := rfl
  have h4 : c.descs = c.locks + c.lk * 3 := rfl
  have h5 : c.pools = c.descs + c.lk := rfl
  have h6 : c.links = c.pools + 6 := rfl
  have h7 : c.heads = c.links + c.nT := rfl
  have h8 : c.towers = c.heads + c.d.cnt * 7 := rfl
  have : j = 0 ∨ j = 1 ∨ j = 2 ∨ j = 3 ∨ j = 4 ∨ j = 5 ∨ j = 6 ∨ j = 7 ∨ j = 8 := by omega
  rcases this with rfl | rfl | rfl | rfl | rfl | rfl | rfl | rfl | rfl <;> simp only [whP, gsP, posP, List.length_append, grpL_len, List.length_nil] <;> omega
theorem whP_all (c : Cfg) : whP c 8 = whatA c := rfl
def pP (c : Cfg) (j : Nat) : Nat → Int := fun i => if i < j then ((posP c i : Nat) : Int) else 0
theorem pP_lup (c : Cfg) (j : Nat) : lup (pP c j) j ((posP c j : Nat) : Int) = pP c (j + 1) := by
  funext i
  unfold lup pP
  by_cases e : i = j
  · subst e; rw [if_pos rfl, if_pos (by omega)]
  · rw [if_neg e]
    by_cases h : i < j
    · rw [if_pos h, if_pos (by omega)]
    · rw [if_neg h, if_neg (by omega)]
theorem pP_zero (c : Cfg) : pP c 0 = fun _ => 0 := by
  funext i
  unfold pP
  rw [if_neg (by omega)]
end Go.Lf
namespace Go.Proofs.YtjghenomeindcaaGreat
open Go.RowKit Go.Lf
theorem rl_words {c : Cfg} (h : c.ok) : c.words ≤ 65536 := by
  obtain ⟨a1, a2, a3, a4, a5, a6, a7, a8, a9⟩ := plc_lt c
  have h1 := h.sl2
  have h2 := h.engW
  have h3 := h.lk2
  have h4 := h.nT
  have h5 := (Dom.cnt_pos h.d).2
  have h6 := h.tow
  omega
/-! Contracts. -/
theorem pos_le (c : Cfg) {j : Nat} (hj : j ≤ 8) : posP c j ≤ c.words := by
  have h1 : c.engine = c.sl := rfl
  have h2 : c.master = c.engine + c.engW := rfl
  have h3 : c.locks = c.master + 1 := rfl
  have h4 : c.descs = c.locks + c.lk * 3 := rfl
  have h5 : c.pools = c.descs + c.lk := rfl
  have h6 : c.links = c.pools + 6 := rfl
  have h7 : c.heads = c.links + c.nT := rfl
  have h8 : c.towers = c.heads + c.d.cnt * 7 := rfl
  have h9 : c.words = c.towers + towW c.hs := rfl
  have : j = 0 ∨ j = 1 ∨ j = 2 ∨ j = 3 ∨ j = 4 ∨ j = 5 ∨ j = 6 ∨ j = 7 ∨ j = 8 := by omega
  rcases this with rfl | rfl | rfl | rfl | rfl | rfl | rfl | rfl | rfl <;> simp only [posP] <;> omega
theorem cuts_nn {d : Dom} (h : d.ok) : ∀ y ∈ d.cuts, 0 ≤ y := fun y hy => by
  rcases h with ⟨_, _, h⟩ | ⟨_, _, h⟩ | ⟨_, _, _, h⟩
  · rw [h] at hy; cases hy
  · rw [h] at hy; cases hy
  · obtain ⟨i, hi⟩ := List.getElem?_of_mem hy
    have hlt := (List.getElem?_eq_some_iff.1 hi).1
    rw [gcut_at hlt] at hi
    cases hi
    have := h.low hlt
    omega
theorem engW_pos {c : Cfg} (h : c.ok) : 0 < c.engW := by
  have h1 := h.sl1
  have h2 := h.bk3
  unfold Cfg.engW
  rcases h.eng with e | e | e
  · rw [if_pos e]; omega
  · rw [if_neg (by omega), if_pos e]; omega
  · rw [if_neg (by omega), if_neg (by omega)]; have := (h2 e).1; omega
/-- The words laid so far, since a world. -/
def RN (w0 : World) (l : Nat) (cf : List Value) (hv : Value) (p : Nat → Int) (wh : List RPl) (wz : World) : Prop :=
  ∃ a cp, RGrp wz l (rpr cf hv p) a cp wh ∧ Keep (fun q => q = l) w0 wz ∧ ∀ q, (Value.slice a wh.length cp).ownBlock = some q → w0.heap.size ≤ q
section
variable {w0 wz w' : World} {l : Nat} {cf : List Value} {hv : Value} {p : Nat → Int} {wh : List RPl}
theorem RN.kp (h : RN w0 l cf hv p wh wz) : Keep (fun q => q = l) w0 wz := by obtain ⟨a, cp, h1, h2, h3⟩ := h; exact h2
theorem RN.quiet (h : RN w0 l cf hv p wh wz) (hk : Keep Nil wz w') : RN w0 l cf hv p wh w' := by
  obtain ⟨a, cp, h1, h2, h3⟩ := h
  exact ⟨a, cp, h1.quiet hk, h2.trans hk (fun _ _ h => h.elim), h3⟩
theorem RN.cell (h : RN w0 l cf hv p wh wz) (hc : cf.length = 16) {j : Nat} (hj : j < 10) : wz.cell? ⟨l, 16 + j, none⟩ = some (.int .i64 (p j)) := by
  obtain ⟨a, cp, h1, h2, h3⟩ := h
  rw [cell_of h1.head]
  exact rlCells_at _ (rpr_at hc hv p hj)
theorem RN.hcell (h : RN w0 l cf hv p wh wz) (hc : cf.length = 16) : wz.cell? ⟨l, 26, none⟩ = some hv := by
  obtain ⟨a, cp, h1, h2, h3⟩ := h
  rw [cell_of h1.head]
  exact rlCells_at _ (rpr_hv hc hv p)
theorem RN.wcell (h : RN w0 l cf hv p wh wz) (hc : cf.length = 16) : ∃ a cp, wz.cell? ⟨l, 27, none⟩ = some (.slice a wh.length cp) := by
  obtain ⟨a, cp, h1, h2, h3⟩ := h
  exact ⟨a, cp, by rw [cell_of h1.head, rlCells_last (rpr_len hc hv p)]⟩
theorem RN.fr (h : RN w0 l cf hv p wh wz) (i : Nat) : wz.frozen? ⟨l, i, none⟩ = false := by
  obtain ⟨a, cp, h1, h2, h3⟩ := h
  exact free_of h1.head i
theorem RN.put (h : RN w0 l cf hv p wh wz) (hc : cf.length = 16) {j : Nat} (hj : j < 10) (v : Int) : RN w0 l cf hv (lup p j v) wh (wz.setCell ⟨l, 16 + j, none⟩ (.int .i64 v)) := by
  obtain ⟨a, cp, h1, h2, h3⟩ := h
  exact ⟨a, cp, ⟨by rw [set_same h1.head, rlCells_put (rpr_len hc hv p) _ _ (by omega), rpr_set hc hv p hj], ownsRow_setCell_other h1.row h1.ne _, h1.ne⟩, h2.setCell (.inl rfl) _, h3⟩
theorem RN.group (h : RN w0 l cf hv p wh wz) (hc : cf.length = 16) (n : Nat) (kd first per : Int) (hper : 0 < per) (hn : n ≤ 100000) (hw : wh.length ≤ 100000) (f0 : 0 ≤ first) (f1 : first ≤ 100000) (nn : Int) (hnn : nn = n) :
    Calls Tryz.prog 75 #[.pointer (some ⟨l, 0, none⟩), .int .i64 nn, .int .u8 kd, .int .i64 first, .int .i64 per] wz fun e w' => e = .returned (.int .i64 wh.length) ∧ RN w0 l cf hv p (wh ++ grpL kd first per n) w' := by
  obtain ⟨a, cp, h1, h2, h3⟩ := h
  refine (rgroup_ok h1 (rpr_len hc hv p) n kd first per hper hn hw f0 f1 nn hnn).mono ?_
  rintro e w' ⟨rfl, a', cp', g1, g2, g3⟩
  exact ⟨rfl, a', cp', g1, h2.trans g2 (fun k hlt e => e.elim id (fun e => by have := h3 k e; omega)), fun q e => (g3 q e).elim (h3 q) (fun e => by have := h2.size; omega)⟩
theorem RN.next {c : Cfg} {j : Nat} {wh : List RPl} (h : RN w0 l cf hv (pP c j) wh wz) (hc : cf.length = 16) (hj : j < 10) : RN w0 l cf hv (pP c (j + 1)) wh (wz.setCell ⟨l, 16 + j, none⟩ (.int .i64 ((posP c j : Nat) : Int))) := by
  have := h.put hc hj ((posP c j : Nat) : Int)
  rw [pP_lup] at this
  exact this
theorem RN.grp {c : Cfg} {j : Nat} (h : RN w0 l cf hv (pP c j) (whP c j) wz) (hok : c.ok) (hc : cf.length = 16) (hj : j < 8) (n : Nat) (kd first per : Int) (hg : gsP c j = grpL kd first per n) (hper : 0 < per) (hn : n ≤ 100000) (f0 : 0 ≤ first) (f1 : first ≤ 100000) (nn : Int) (hnn : nn = n) :
    Calls Tryz.prog 75 #[.pointer (some ⟨l, 0, none⟩), .int .i64 nn, .int .u8 kd, .int .i64 first, .int .i64 per] wz fun e w' => e = .returned (.int .i64 ((posP c j : Nat) : Int)) ∧ RN w0 l cf hv (pP c j) (whP c (j + 1)) w' := by
  have h1 := pos_le c (j := j) (by omega)
  have h2 := rl_words hok
  have := h.group hc n kd first per hper hn (by rw [whP_len c (by omega)]; omega) f0 f1 nn hnn
  rw [whP_len c (by omega), ← hg] at this
  exact this
end
end Go.Proofs.YtjghenomeindcaaGreat

/-! leapfrogref09: New. -/
set_option linter.unusedVariables false
set_option linter.unusedSimpArgs false
namespace Go.Lf
open Go.RowKit
def cfL (c : Cfg) (t1 t2 t3 t4 t5 t6 : Nat) (v : Value) : List Value := [.int .i64 c.th, .int .i64 c.sl, .int .u8 c.eng, .int .i64 c.bk, .int .u8 c.d.k, .int .i64 c.d.n, v, .int .i64 t1, .int .i64 t2, .int .i64 t3, .int .i64 t4, .int .i64 t5, .int .i64 t6, .int .i64 c.lk, .int .i64 c.tr, .int .i64 c.ba]
def zL : List Value := List.replicate 10 (.int .i64 0)
def intsV (l : List Nat) : List Value := l.map fun n : Nat => Value.int .i64 (n : Int)
theorem intsV_snoc (l : List Nat) (n : Nat) : intsV (l ++ [n]) = intsV l ++ [.int .i64 (n : Int)] := by simp [intsV]
end Go.Lf
namespace Go.Proofs.YtjghenomeindcaaGreat
open Go.RowKit Go.Lf
/-- The layout while its heights are laid. -/
structure RH (w : World) (c : Cfg) (t1 t2 t3 t4 t5 t6 : Nat) (vc : Value) (l : Nat) (ha : Option Addr) (hc : Nat) (hs : List Nat) : Prop where
  head : w.heap[l]? = some (.cells (rlCells (cfL c t1 t2 t3 t4 t5 t6 vc ++ zL ++ [.slice ha hs.length hc]) (.slice none 0 0)) 123 (0, 0))
  row : w.ownsRow 0 3 1 (.slice ha hs.length hc) hs.length (intsV hs)
  ne : (Value.slice ha hs.length hc).ownBlock ≠ some l
/-- The reference's layout. -/
structure RLAt (w : World) (l : Nat) (c : Cfg) (G : Nat → Prop) : Prop where
  ex : ∃ (t1 t2 t3 t4 t5 t6 : Nat) (ac : Option Addr) (cc : Nat) (ha : Option Addr) (hc : Nat) (a : Option Addr) (cp : Nat), c.tw = [t1, t2, t3, t4, t5, t6] ∧
    RGrp w l (rpr (cfL c t1 t2 t3 t4 t5 t6 (.slice ac c.d.cuts.length cc)) (.slice ha c.hs.length hc) (pP c 10)) a cp (whatR c) ∧ w.ownsRow 0 3 1 (.slice ha c.hs.length hc) c.hs.length (intsV c.hs) ∧
    w.ownsRow 0 54 1 (.slice ac c.d.cuts.length cc) c.d.cuts.length (u64s c.d.cuts) ∧
    ∀ k, G k ↔ k = l ∨ (Value.slice a (whatR c).length cp).ownBlock = some k ∨ (Value.slice ha c.hs.length hc).ownBlock = some k ∨ (Value.slice ac c.d.cuts.length cc).ownBlock = some k
def RLNewTo (w : World) (c : Cfg) (e : Ending) (w' : World) : Prop := ∃ l G, e = .returned (.tuple #[.pointer (some ⟨l, 0, none⟩), .int .i64 0]) ∧ RLAt w' l c G ∧ Keep Nil w w' ∧ ∀ k, G k → w.heap.size ≤ k ∧ k < w'.heap.size
section
variable {w : World}
theorem cfL_tw {c : Cfg} {t1 t2 t3 t4 t5 t6 : Nat} {v : Value} (htw : c.tw = [t1, t2, t3, t4, t5, t6]) {k : Nat} (hk : k < 6) : ∃ n, c.tw[k]? = some n ∧ (cfL c t1 t2 t3 t4 t5 t6 v).toArray[7 + k]? = some (.int .i64 (n : Int)) ∧ n ≤ c.tw.sum := by
  rw [htw]
  match k, hk with
  | 0, _ => exact ⟨_, rfl, rfl, by simp only [List.sum_cons, List.sum_nil]; omega⟩
  | 1, _ => exact ⟨_, rfl, rfl, by simp only [List.sum_cons, List.sum_nil]; omega⟩
  | 2, _ => exact ⟨_, rfl, rfl, by simp only [List.sum_cons, List.sum_nil]; omega⟩
  | 3, _ => exact ⟨_, rfl, rfl, by simp only [List.sum_cons, List.sum_nil]; omega⟩
  | 4, _ => exact ⟨_, rfl, rfl, by simp only [List.sum_cons, List.sum_nil]; omega⟩
  | 5, _ => exact ⟨_, rfl, rfl, by simp only [List.sum_cons, List.sum_nil]; omega⟩
set_option maxRecDepth 100000 in
set_option maxHeartbeats 8000000 in
theorem rlnew_ok (c : Cfg) (hok : c.ok) (t1 t2 t3 t4 t5 t6 : Nat) (htw : c.tw = [t1, t2, t3, t4, t5, t6]) (a : Option Addr) (cp : Nat) (hrd : Rd w 1 (.slice a c.d.cuts.length cp) c.d.cuts.length (u64s c.d.cuts)) : Calls Tryz.prog 28 #[cfgV c t1 t2 t3 t4 t5 t6 a cp] w (RLNewTo w c) := by
  have HC := hid hok
  have HRD := hid hrd
  have HTW := hid htw
  clear hok hrd htw
  unfold cfgV
  go_enter Tryz.func28, Tryz.ntmps28
  go_wp2_with fail
  refine (rlcheck_ok c HC.out t1 t2 t3 t4 t5 t6 HTW.out a cp (rd_keep HRD.out ((Keep.refl Nil w).alloc _) (fun _ _ h => h))).mono ?_
  rintro e w2 ⟨rfl, hk⟩
  have hb2 := hk.at (heap_alloc_new w _) (fun h => h)
  obtain ⟨c0, c1, c2, c3, c4, c5, c6, c7, c8, c9, c10, c11, c12, c13, c14, c15⟩ := bx16 hb2
  have HB2 := hid hb2
  have HK := hid (((Keep.refl Nil w).alloc _).trans hk (fun _ _ h => h))
  clear hk hb2
  go_upto_region 5 with fail
  obtain ⟨VZ, hVZ⟩ : ∃ V : Value, V = cfgV c t1 t2 t3 t4 t5 t6 a cp := ⟨_, rfl⟩
  unfold cfgV at hVZ
  obtain ⟨VL, hVL⟩ : ∃ V : Value, V = .agg #[.int .i64 c.th, .int .i64 c.sl, .int .u8 c.eng, .int .i64 c.bk, .int .u8 c.d.k, .int .i64 c.d.n, .slice a c.d.cuts.length cp, .int .i64 t1, .int .i64 t2, .int .i64 t3, .int .i64 t4, .int .i64 t5, .int .i64 t6, .int .i64 c.lk, .int .i64 c.tr, .int .i64 c.ba, .int .i64 0, .int .i64 0, .int .i64 0, .int .i64 0, .int .i64 0, .int .i64 0, .int .i64 0, .int .i64 0, .int .i64 0, .int .i64 0, .slice none 0 0, .slice none 0 0] := ⟨_, rfl⟩
  rw [← hVZ, ← hVL]
  obtain ⟨W0, hW0⟩ : ∃ W, W = w2.alloc (.cells (rlCells (cfL c t1 t2 t3 t4 t5 t6 (.slice a c.d.cuts.length cp) ++ zL ++ [.slice none 0 0]) (.slice none 0 0)) 123) := ⟨_, rfl⟩
  have hW0' := hW0
  unfold rlCells cfL zL at hW0'
  simp only [List.replicate, List.cons_append, List.nil_append] at hW0'
  rw [← hW0']
  obtain ⟨cb, hcb⟩ : ∃ x, x = w.heap.size := ⟨_, rfl⟩
  obtain ⟨l, hl⟩ : ∃ x, x = w2.heap.size := ⟨_, rfl⟩
  have HB0 := hid (show W0.heap[cb]? = some (.cells (cfL c t1 t2 t3 t4 t5 t6 (.slice a c.d.cuts.length cp)).toArray 42 (0, 0)) from by rw [hW0, hcb]; exact alloc_old HB2.out _)
  have HL0 := hid (show W0.heap[l]? = some (.cells (rlCells (cfL c t1 t2 t3 t4 t5 t6 (.slice a c.d.cuts.length cp) ++ zL ++ [.slice none 0 0]) (.slice none 0 0)) 123 (0, 0)) from by rw [hW0, hl]; exact heap_alloc_new w2 _)
  have HK0 := hid (show Keep Nil w W0 from hW0 ▸ HK.out.alloc _)
  have HNE := hid (show w.heap.size ≤ cb ∧ cb < l ∧ w.heap.size < l from by have := lt_of_block HB2.out; omega)
  rw [← hcb, ← hl]
  clear hVZ hVL hW0 hW0' hcb hl HB2 HK c0 c1 c2 c3 c4 c5 c6 c7 c8 c9 c10 c11 c12 c13 c14 c15
  have q6 : W0.cell? ⟨cb, 6, none⟩ = some (.slice a c.d.cuts.length cp) := by rw [cell_of HB0.out]; rfl
  have r6 : W0.cell? ⟨l, 6, none⟩ = some (.slice a c.d.cuts.length cp) := by rw [cell_of HL0.out]; rfl
  have f6 : W0.frozen? ⟨l, 6, none⟩ = false := free_of HL0.out 6
  have hcl : c.d.cuts.length ≤ 63 := by
    rcases HC.out.d with ⟨_, _, h⟩ | ⟨_, _, h⟩ | ⟨_, _, h, _⟩
    · rw [h]; decide
    · rw [h]; decide
    · omega
  have HCL := hid hcl
  clear hcl
  have hzl : l < W0.heap.size := lt_of_block HL0.out
  have HZL := hid hzl
  have hzb : cb < W0.heap.size := lt_of_block HB0.out
  go_wp2_with (at_builtin; refine wpList_app _ rfl (.tmp 21) (.tmp 24) 37 rfl 54 _ 1 8 Tryz.underlying37 infoU64 rfl (by decide) (.slice (some ⟨W0.heap.size, 0, none⟩) 0 0) 0 [] rfl ?own (.slice a c.d.cuts.length cp) c.d.cuts.length (u64s c.d.cuts) rfl ?rd ?one ?byt ?len ?_)
  case own => exact ⟨rfl, .inr ⟨_, 0, #[], rfl, Nat.zero_le _, heap_alloc_new W0 _, Nat.le_refl _, Nat.zero_le _, rfl, rfl⟩⟩
  case rd => exact rd_keep HRD.out (HK0.out.alloc _) (fun _ _ h => h)
  case one => exact u64s_one _
  case byt => have := HCL.out; omega
  case len => have := HCL.out; unfold maxLen; omega
  intro ac cc w1 ho hg hs
  have hown : ∀ k, (Value.slice ac c.d.cuts.length cc).ownBlock = some k → W0.heap.size ≤ k := fun k e => by
    rcases hs k e with h | h
    · simp [Value.ownBlock] at h; omega
    · simp at h; omega
  have k1 : Keep Nil W0 w1 := Keep.grown (Keep.alloc (Keep.refl _ _) _) hg (fun j hj => .inr (by simp [Value.ownBlock] at hj; omega))
  have hb1 := k1.at HB0.out (fun h => h)
  have hl1 := k1.at HL0.out (fun h => h)
  have s6 : w1.cell? ⟨l, 6, none⟩ = some (.slice a c.d.cuts.length cp) := by rw [cell_of hl1]; rfl
  have tf6 : w1.frozen? ⟨l, 6, none⟩ = false := free_of hl1 6
  have HO := hid ho
  have HOWN := hid hown
  have HB1 := hid hb1
  have HL1 := hid hl1
  have HK1 := hid (HK0.out.trans k1 (fun _ _ h => h))
  have HZ1 := hid (show W0.heap.size ≤ w1.heap.size from k1.size)
  clear ho hg hs hown k1 hb1 hl1 q6 r6 f6 hzl hzb
  go_upto_region 7 with fail
  obtain ⟨W1, hW1⟩ : ∃ W, W = w1.setCell ⟨l, 6, none⟩ (.slice ac c.d.cuts.length cc) := ⟨_, rfl⟩
  rw [← hW1]
  have HBW := hid (show W1.heap[cb]? = some (.cells (cfL c t1 t2 t3 t4 t5 t6 (.slice a c.d.cuts.length cp)).toArray 42 (0, 0)) from by rw [hW1]; exact set_other HB1.out (by show cb ≠ l; have := HNE.out.2.1; omega) _)
  have HLW := hid (show RH W1 c t1 t2 t3 t4 t5 t6 (.slice ac c.d.cuts.length cc) l none 0 [] from ⟨by rw [hW1, set_same HL1.out]; rfl, World.ownsRow_nil _ _ _ _, by simp [Value.ownBlock]⟩)
  have HKW := hid (show Keep Nil w W1 from hW1 ▸ HK1.out.setCell (.inr (show w.heap.size ≤ l by have := HNE.out; omega)) _)
  have HOW := hid (show W1.ownsRow 0 54 1 (.slice ac c.d.cuts.length cc) c.d.cuts.length (u64s c.d.cuts) from hW1 ▸ ownsRow_setCell_other HO.out (fun e => by have := HOWN.out l e; have := lt_of_block HL0.out; omega) _)
  clear hW1 HB0 HL0 HK0 HB1 HL1 HK1 HZ1 HO s6 tf6
  go_wp2
  go_loopw [6] (fun hv wz => ∃ (k : Nat) (ha : Option Addr) (hc : Nat), k ≤ 6 ∧ hv = .int .i64 ((k : Int) + 1) ∧ RH wz c t1 t2 t3 t4 t5 t6 (.slice ac c.d.cuts.length cc) l ha hc (hts 1 (c.tw.take k)) ∧ Keep (fun q => q = l) W1 wz ∧ (∀ q, (Value.slice ha (hts 1 (c.tw.take k)).length hc).ownBlock = some q → W1.heap.size ≤ q)) (fun hv _ => 7 - (intOf hv).toNat)
  case atStart => exact ⟨0, none, 0, Nat.zero_le _, rfl, HLW.out, Keep.refl _ _, fun q e => by simp [Value.ownBlock] at e⟩
  case round =>
    obtain ⟨k, ha, hc, hk, rfl, hrh, hkw, hnew⟩ := hrel
    by_cases hlt : k < 6
    · have HRH := hid hrh
      have HKK := hid hkw
      have HNW := hid hnew
      have HLT := hid hlt
      have dk : decide ((k : Int) + 1 ≤ 6) = true := decide_eq_true (by omega)
      obtain ⟨n, hn, hcell, hsm⟩ := cfL_tw (c := c) (v := .slice a c.d.cuts.length cp) HTW.out hlt
      have hbk := hkw.at HBW.out (show ¬ cb = l by have := HNE.out; omega)
      have HBK := hid hbk
      have HN := hid hn
      have hnl : n ≤ 1024 := by
        have h1 := HC.out.tw
        omega
      have HNL := hid hnl
      have wk0 : IntKind.i64.wrap ((k : Int) + 1 - 1) = (k : Int) := by rw [IntKind.wrap_i64]; omega
      have wk1 : IntKind.i64.wrap ((k : Int) + 1 + 1) = (k : Int) + 1 + 1 := by rw [IntKind.wrap_i64]; omega
      have ek0 : (k : Int) + 1 - 1 = (k : Int) := by omega
      have k0 : (0 : Int) ≤ (k : Int) := by omega
      have k6 : (k : Int) < 6 := by omega
      have HCELL := hid hcell
      clear hsm
      clear hrh hkw hnew hk hlt hn hcell hbk hnl
      go_wp2
      obtain ⟨L0, hL0⟩ : ∃ L, L = hts 1 (c.tw.take k) := ⟨_, rfl⟩
      rw [← hL0] at HRH HNW
      have HL0 := hid hL0
      clear hL0
      go_loopw [7] (fun iv wz => ∃ (i : Nat) (ha : Option Addr) (hc : Nat), i ≤ n ∧ iv = .int .i64 (i : Int) ∧ RH wz c t1 t2 t3 t4 t5 t6 (.slice ac c.d.cuts.length cc) l ha hc (L0 ++ List.replicate i (k + 1)) ∧ Keep (fun q => q = l) W1 wz ∧ (∀ q, (Value.slice ha (L0 ++ List.replicate i (k + 1)).length hc).ownBlock = some q → W1.heap.size ≤ q)) (fun iv _ => n - (intOf iv).toNat)
      case atStart => exact ⟨0, ha, hc, Nat.zero_le _, rfl, by rw [List.replicate_zero, List.append_nil]; exact HRH.out, HKK.out, by rw [List.replicate_zero, List.append_nil]; exact HNW.out⟩
      case round =>
        obtain ⟨i, ha', hc', hi, rfl, hrh, hkw, hnew⟩ := hrel
        have cbk : wr.cell? ⟨cb, 7 + k, none⟩ = some (.int .i64 (n : Int)) := by rw [cell_of (hkw.at HBW.out (show ¬ cb = l by have := HNE.out; omega))]; exact HCELL.out
        by_cases hin : i < n
        · have di : decide ((i : Int) < (n : Int)) = true := decide_eq_true (by omega)
          have ei : decide (i < n) = true := decide_eq_true hin
          obtain ⟨L1, hL1⟩ : ∃ L, L = L0 ++ List.replicate i (k + 1) := ⟨_, rfl⟩
          have hL2 : L0 ++ List.replicate (i + 1) (k + 1) = L1 ++ [k + 1] := by rw [List.replicate_succ', ← List.append_assoc, ← hL1]
          have hLl : L1.length ≤ 3000 := by
            rw [hL1, List.length_append, List.length_replicate, HL0.out, hts_len]
            have h1 := HC.out.tw
            have h2 : (c.tw.take k).sum ≤ c.tw.sum := by
              have h3 : (c.tw.take k).sum + (c.tw.drop k).sum = c.tw.sum := by rw [← List.sum_append, List.take_append_drop]
              omega
            have := HNL.out
            omega
          rw [← hL1] at hrh hnew
          have HRH1 := hid hrh
          have HKK1 := hid hkw
          have HNW1 := hid hnew
          have HL2 := hid hL2
          have HLL := hid hLl
          have HIN := hid hin
          have hlz : l < wr.heap.size := lt_of_block hrh.head
          have q26 : wr.cell? ⟨l, 26, none⟩ = some (.slice ha' L1.length hc') := by rw [cell_of hrh.head]; rfl
          have wi : IntKind.i64.wrap ((i : Int) + 1) = (i : Int) + 1 := by rw [IntKind.wrap_i64]; have := HNL.out; omega
          clear hrh hkw hnew hL1 hL2 hLl hin hi
          go_wp2_with (at_builtin; refine wpList_app _ rfl (.tmp 47) (.tmp 49) 32 rfl 3 _ 1 8 Tryz.underlying32 infoInt rfl (by decide) (.slice ha' L1.length hc') L1.length (intsV L1) rfl ?own _ 1 [.int .i64 ((k : Int) + 1)] rfl ?rd ?one ?byt ?len ?_)
          case own => exact HRH1.out.row.alloc _
          case rd => exact rd_new _ _ _ _ _ _
          case one => simp [Value.oneCell']
          case byt => have := HLL.out; omega
          case len => have := HLL.out; unfold maxLen; omega
          intro a2 c2 w5 ho hgr hs
          have hl5 := hgr.block l (by simp; omega) (fun e => HRH1.out.ne e.symm) |>.trans (alloc_old HRH1.out.head _)
          have q5 : w5.cell? ⟨l, 26, none⟩ = some (.slice ha' L1.length hc') := by rw [cell_of hl5]; rfl
          have z5 : w5.frozen? ⟨l, 26, none⟩ = false := free_of hl5 26
          have hne5 : (Value.slice a2 (L1.length + 1) c2).ownBlock ≠ some l := fun e => (hs l e).elim HRH1.out.ne (fun e => by simp at e; omega)
          have HRH5 := hid (show RH (w5.setCell ⟨l, 26, none⟩ (.slice a2 (L1.length + 1) c2)) c t1 t2 t3 t4 t5 t6 (.slice ac c.d.cuts.length cc) l a2 c2 (L1 ++ [k + 1]) from ⟨by rw [set_same hl5, List.length_append]; rfl, by rw [intsV_snoc, List.length_append]; exact ownsRow_setCell_other ho hne5 _, by rw [List.length_append]; exact hne5⟩)
          have HKK5 := hid (show Keep (fun q => q = l) W1 (w5.setCell ⟨l, 26, none⟩ (.slice a2 (L1.length + 1) c2)) from ((HKK1.out.alloc _).grown hgr (fun q e => .inr (HNW1.out q e))).setCell (.inl rfl) _)
          have HNW5 := hid (show ∀ q, (Value.slice a2 (L1.length + 1) c2).ownBlock = some q → W1.heap.size ≤ q from fun q e => (hs q e).elim (HNW1.out q) (fun e => by have := HKK1.out.size; simp at e; omega))
          clear ho hgr hs hl5 hne5 q26
          go_wp2
          go_roundw
          case rel => exact ⟨i + 1, a2, c2, by have := HIN.out; omega, by go_num, by rw [HL2.out]; exact HRH5.out, HKK5.out, by rw [HL2.out, List.length_append]; exact HNW5.out⟩
          case measure => have := HIN.out; simp [intOf]; omega
        · obtain rfl : i = n := by omega
          have HRH2 := hid hrh
          have HKK2 := hid hkw
          have HNW2 := hid hnew
          clear hrh hkw hnew
          go_wp2
          go_roundw
          case rel => exact ⟨k + 1, ha', hc', by have := HLT.out; omega, by go_num, by rw [hts_take HN.out, ← HL0.out]; exact HRH2.out, HKK2.out, by rw [hts_take HN.out, ← HL0.out]; exact HNW2.out⟩
          case measure => have := HLT.out; simp [intOf]; omega
    · obtain rfl : k = 6 := by omega
      have HRH := hid hrh
      have HKK := hid hkw
      have HNW := hid hnew
      clear hrh hkw hnew
      have HB6 := hid (HKK.out.at HBW.out (show ¬ cb = l by have := HNE.out; omega))
      obtain ⟨p0, p1, p2, p3, p4, p5, p6, p7, p8, p9, p10, p11, p12, p13, p14, p15⟩ := bx16 (show wr.heap[cb]? = some (.cells #[.int .i64 c.th, .int .i64 c.sl, .int .u8 c.eng, .int .i64 c.bk, .int .u8 c.d.k, .int .i64 c.d.n, .slice a c.d.cuts.length cp, .int .i64 t1, .int .i64 t2, .int .i64 t3, .int .i64 t4, .int .i64 t5, .int .i64 t6, .int .i64 c.lk, .int .i64 c.tr, .int .i64 c.ba] 42 (0, 0)) from HB6.out)
      have ws2 : IntKind.i64.wrap (2 * (c.sl : Int)) = 2 * (c.sl : Int) := by rw [IntKind.wrap_i64]; have := HC.out.sl2; omega
      have ws4 : IntKind.i64.wrap (4 * (c.bk : Int)) = 4 * (c.bk : Int) := by
        rw [IntKind.wrap_i64]
        have h1 := HC.out.bk3
        have h2 := HC.out.bk0
        have h3 : c.bk ≤ 16 := by by_cases h : c.eng = 3 <;> omega
        omega
      obtain ⟨g1, hg1⟩ : ∃ g : Bool, g = (c.eng == 2) := ⟨_, rfl⟩
      obtain ⟨g2, hg2⟩ : ∃ g : Bool, g = (c.eng == 3) := ⟨_, rfl⟩
      have hg1' := hg1.symm
      have hg2' := hg2.symm
      have HG1 := hid hg1
      have HG2 := hid hg2
      clear hg1 hg2
      go_upto_if 57 with fail
      go_cut [8] (fun v wx => v = .int .i64 (if g1 = true then 2 * (c.sl : Int) else (c.sl : Int)) ∧ wr = wx)
      case first =>
        cases g1 with
        | true =>
          go_wp2
          go_meet
          exact ⟨rfl, rfl⟩
        | false =>
          go_wp2
          go_meet
          exact ⟨rfl, rfl⟩
      case rest =>
        obtain ⟨hv, hwx⟩ := hcut
        subst hv hwx
        obtain ⟨v8, hv8⟩ : ∃ x : Int, x = (if g1 = true then 2 * (c.sl : Int) else (c.sl : Int)) := ⟨_, rfl⟩
        rw [← hv8]
        have HV8 := hid hv8
        clear hv8 hg1'
        go_upto_if 63 with fail
        go_cut [8] (fun v wx => v = .int .i64 (if g2 = true then 4 * (c.bk : Int) else v8) ∧ wr = wx)
        case first =>
          cases g2 with
          | true =>
            go_wp2
            go_meet
            exact ⟨rfl, rfl⟩
          | false =>
            go_wp2
            go_meet
            exact ⟨rfl, rfl⟩
        case rest =>
          obtain ⟨hv, hwx⟩ := hcut
          subst hv hwx
          have hen : (if g2 = true then 4 * (c.bk : Int) else v8) = (c.engW : Int) := by
            rw [HV8.out, HG1.out, HG2.out]
            unfold Cfg.engW
            rcases HC.out.eng with he | he | he
            · rw [he]; rfl
            · rw [he]; simp
            · rw [he]; simp
          rw [hen]
          clear hen hg2'
          have HRN := hid (show RN wr l (cfL c t1 t2 t3 t4 t5 t6 (.slice ac c.d.cuts.length cc)) (.slice ha c.hs.length hc) (fun _ => 0) [] wr from by
            have h6 : hts 1 (c.tw.take 6) = c.hs := by rw [List.take_of_length_le (by have := HC.out.tw6; omega)]; rfl
            have hr := HRH.out
            rw [h6] at hr
            exact ⟨none, 0, ⟨hr.head, World.ownsRow_nil _ _ _ _, by simp [Value.ownBlock]⟩, Keep.refl _ _, fun q e => by simp [Value.ownBlock] at e⟩)
          have HVA := hid (rvalues_ok (w := wr) c.d HC.out.d (rd_keep HRD.out (HKW.out.trans HKK.out (fun k hk e => by have := HNE.out; omega)) (fun _ _ h => h)) (by have := HCL.out; omega) (cuts_nn HC.out.d))
          have HBX := hid (fun (wz : World) (hk : Keep (fun q => q = l) wr wz) => show wz.cell? ⟨cb, 1, none⟩ = some (.int .i64 c.sl) ∧ wz.cell? ⟨cb, 13, none⟩ = some (.int .i64 c.lk) from by
            have h1 := hk.at HB6.out (show ¬ cb = l by have := HNE.out; omega)
            exact ⟨by rw [cell_of h1]; rfl, by rw [cell_of h1]; rfl⟩)
          have e16 : (cfL c t1 t2 t3 t4 t5 t6 (.slice ac c.d.cuts.length cc)).length = 16 := rfl
          have E16 := hid e16
          have HCF := hid (show (cfL c t1 t2 t3 t4 t5 t6 (.slice ac c.d.cuts.length cc)) = (cfL c t1 t2 t3 t4 t5 t6 (.slice ac c.d.cuts.length cc)) from rfl)
          rw [← pP_zero c] at HRN
          obtain ⟨cf, hcf⟩ : ∃ x, x = cfL c t1 t2 t3 t4 t5 t6 (.slice ac c.d.cuts.length cc) := ⟨_, rfl⟩
          obtain ⟨hv, hhv⟩ : ∃ x : Value, x = .slice ha c.hs.length hc := ⟨_, rfl⟩
          rw [← hcf, ← hhv] at HRN
          rw [← hcf] at E16
          have HCFE := hid hcf
          have HHVE := hid hhv
          have HRH' := hid (show wr.ownsRow 0 3 1 (.slice ha c.hs.length hc) c.hs.length (intsV c.hs) ∧ (Value.slice ha c.hs.length hc).ownBlock ≠ some l from by
            have h6 : hts 1 (c.tw.take 6) = c.hs := by rw [List.take_of_length_le (by have := HC.out.tw6; omega)]; rfl
            have hr := HRH.out
            rw [h6] at hr
            exact ⟨hr.row, hr.ne⟩)
          have HNW' := hid (show ∀ q, (Value.slice ha c.hs.length hc).ownBlock = some q → W1.heap.size ≤ q from by
            have h6 : hts 1 (c.tw.take 6) = c.hs := by rw [List.take_of_length_le (by have := HC.out.tw6; omega)]; rfl
            have hr := HNW.out
            rw [h6] at hr
            exact hr)
          have HEP := hid (engW_pos HC.out)
          have HEW := hid HC.out.engW
          have HNT := hid HC.out.nT
          have HDC := hid (Dom.cnt_pos HC.out.d).2
          clear hcf hhv e16 HCF HRH HNW p0 p1 p2 p3 p7 p8 p9 p10 p11 p12 p13 p14 p15 ws2 ws4 HV8 HG1 HG2
          go_wp2_with fail
          refine HVA.out.mono ?_
          rintro e w0 ⟨rfl, hk0⟩
          have P0 := hid (HRN.out.quiet hk0)
          clear hk0 HVA HRN p4 p5 p6
          obtain ⟨b1, b13⟩ := HBX.out _ P0.out.kp
          go_wp2_with fail
          refine (RN.grp P0.out HC.out E16.out (by decide) c.sl 1 0 1 rfl (by decide) (by have := HC.out.sl2; omega) (by decide) (by decide) (c.sl : Int) (by first | rfl | omega)).mono ?_
          rintro e wg0 ⟨rfl, hg⟩
          have q0 : wg0.cell? ⟨l, 16, none⟩ = some (.int .i64 (pP c 0 0)) := hg.cell E16.out (j := 0) (by decide)
          have z0 : wg0.frozen? ⟨l, 16, none⟩ = false := hg.fr _
          have P1 := hid (show RN wr l cf hv (pP c 1) (whP c 1) (wg0.setCell ⟨l, 16, none⟩ (.int .i64 ((posP c 0 : Nat) : Int))) from hg.next E16.out (by decide))
          clear b1 b13
          obtain ⟨b1, b13⟩ := HBX.out _ P1.out.kp
          clear hg P0
          go_wp2_with fail
          refine (RN.grp P1.out HC.out E16.out (by decide) c.engW 2 0 (c.engW : Int) rfl (by have := HEP.out; omega) (by have := HEW.out; omega) (by decide) (by decide) (c.engW : Int) (by first | rfl | omega)).mono ?_
          rintro e wg1 ⟨rfl, hg⟩
          have q1 : wg1.cell? ⟨l, 17, none⟩ = some (.int .i64 (pP c 1 1)) := hg.cell E16.out (j := 1) (by decide)
          have z1 : wg1.frozen? ⟨l, 17, none⟩ = false := hg.fr _
          have P2 := hid (show RN wr l cf hv (pP c 2) (whP c 2) (wg1.setCell ⟨l, 17, none⟩ (.int .i64 ((posP c 1 : Nat) : Int))) from hg.next E16.out (by decide))
          clear b1 b13
          obtain ⟨b1, b13⟩ := HBX.out _ P2.out.kp
          clear hg P1
          go_wp2_with fail
          refine (RN.grp P2.out HC.out E16.out (by decide) 1 3 0 1 rfl (by decide) (by decide) (by decide) (by decide) 1 (by first | rfl | omega)).mono ?_
          rintro e wg2 ⟨rfl, hg⟩
          have q2 : wg2.cell? ⟨l, 18, none⟩ = some (.int .i64 (pP c 2 2)) := hg.cell E16.out (j := 2) (by decide)
          have z2 : wg2.frozen? ⟨l, 18, none⟩ = false := hg.fr _
          have P3 := hid (show RN wr l cf hv (pP c 3) (whP c 3) (wg2.setCell ⟨l, 18, none⟩ (.int .i64 ((posP c 2 : Nat) : Int))) from hg.next E16.out (by decide))
          clear b1 b13
          obtain ⟨b1, b13⟩ := HBX.out _ P3.out.kp
          clear hg P2
          have w3 : IntKind.i64.wrap (3 * (c.lk : Int)) = 3 * (c.lk : Int) := by rw [IntKind.wrap_i64]; have := HC.out.lk2; omega
          go_wp2_with fail
          refine (RN.grp P3.out HC.out E16.out (by decide) (3 * c.lk) 4 0 3 rfl (by decide) (by have := HC.out.lk2; omega) (by decide) (by decide) (3 * (c.lk : Int)) (by first | rfl | omega)).mono ?_
          rintro e wg3 ⟨rfl, hg⟩
          have q3 : wg3.cell? ⟨l, 19, none⟩ = some (.int .i64 (pP c 3 3)) := hg.cell E16.out (j := 3) (by decide)
          have z3 : wg3.frozen? ⟨l, 19, none⟩ = false := hg.fr _
          have P4 := hid (show RN wr l cf hv (pP c 4) (whP c 4) (wg3.setCell ⟨l, 19, none⟩ (.int .i64 ((posP c 3 : Nat) : Int))) from hg.next E16.out (by decide))
          clear b1 b13
          obtain ⟨b1, b13⟩ := HBX.out _ P4.out.kp
          clear hg P3
          go_wp2_with fail
          refine (RN.grp P4.out HC.out E16.out (by decide) c.lk 5 0 1 rfl (by decide) (by have := HC.out.lk2; omega) (by decide) (by decide) (c.lk : Int) (by first | rfl | omega)).mono ?_
          rintro e wg4 ⟨rfl, hg⟩
          have q4 : wg4.cell? ⟨l, 20, none⟩ = some (.int .i64 (pP c 4 4)) := hg.cell E16.out (j := 4) (by decide)
          have z4 : wg4.frozen? ⟨l, 20, none⟩ = false := hg.fr _
          have P5 := hid (show RN wr l cf hv (pP c 5) (whP c 5) (wg4.setCell ⟨l, 20, none⟩ (.int .i64 ((posP c 4 : Nat) : Int))) from hg.next E16.out (by decide))
          clear b1 b13
          obtain ⟨b1, b13⟩ := HBX.out _ P5.out.kp
          clear hg P4
          go_wp2_with fail
          refine (RN.grp P5.out HC.out E16.out (by decide) 6 6 0 1 rfl (by decide) (by decide) (by decide) (by decide) 6 (by first | rfl | omega)).mono ?_
          rintro e wg5 ⟨rfl, hg⟩
          have q5 : wg5.cell? ⟨l, 21, none⟩ = some (.int .i64 (pP c 5 5)) := hg.cell E16.out (j := 5) (by decide)
          have z5 : wg5.frozen? ⟨l, 21, none⟩ = false := hg.fr _
          have P6 := hid (show RN wr l cf hv (pP c 6) (whP c 6) (wg5.setCell ⟨l, 21, none⟩ (.int .i64 ((posP c 5 : Nat) : Int))) from hg.next E16.out (by decide))
          clear b1 b13
          obtain ⟨b1, b13⟩ := HBX.out _ P6.out.kp
          clear hg P5
          have h26 := P6.out.hcell E16.out
          rw [HHVE.out] at h26
          go_wp2_with fail
          refine (RN.grp P6.out HC.out E16.out (by decide) c.nT 7 1 1 rfl (by decide) (by have := HNT.out; omega) (by decide) (by decide) (c.nT : Int) (by first | rfl | omega)).mono ?_
          rintro e wg6 ⟨rfl, hg⟩
          have q6 : wg6.cell? ⟨l, 22, none⟩ = some (.int .i64 (pP c 6 6)) := hg.cell E16.out (j := 6) (by decide)
          have z6 : wg6.frozen? ⟨l, 22, none⟩ = false := hg.fr _
          have P7 := hid (show RN wr l cf hv (pP c 7) (whP c 7) (wg6.setCell ⟨l, 22, none⟩ (.int .i64 ((posP c 6 : Nat) : Int))) from hg.next E16.out (by decide))
          clear b1 b13
          obtain ⟨b1, b13⟩ := HBX.out _ P7.out.kp
          clear hg P6
          have w7 : IntKind.i64.wrap ((c.d.cnt : Int) * 7) = (c.d.cnt : Int) * 7 := by rw [IntKind.wrap_i64]; have := HDC.out; omega
          go_wp2_with fail
          refine (RN.grp P7.out HC.out E16.out (by decide) (c.d.cnt * 7) 8 0 7 rfl (by decide) (by have := HDC.out; omega) (by decide) (by decide) ((c.d.cnt : Int) * 7) (by first | rfl | omega)).mono ?_
          rintro e wg7 ⟨rfl, hg⟩
          have q7 : wg7.cell? ⟨l, 23, none⟩ = some (.int .i64 (pP c 7 7)) := hg.cell E16.out (j := 7) (by decide)
          have z7 : wg7.frozen? ⟨l, 23, none⟩ = false := hg.fr _
          have P8 := hid (show RN wr l cf hv (pP c 8) (whP c 8) (wg7.setCell ⟨l, 23, none⟩ (.int .i64 ((posP c 7 : Nat) : Int))) from hg.next E16.out (by decide))
          clear b1 b13
          obtain ⟨b1, b13⟩ := HBX.out _ P8.out.kp
          have q8 : wg7.cell? ⟨l, 24, none⟩ = some (.int .i64 (pP c 7 8)) := hg.cell E16.out (j := 8) (by decide)
          have z8 : wg7.frozen? ⟨l, 24, none⟩ = false := hg.fr _
          clear hg P7
          obtain ⟨aw, cw, h27⟩ := P8.out.wcell E16.out
          rw [whP_len c (by decide)] at h27
          go_wp2
          have P9' := P8.out.next E16.out (j := 8) (by decide)
          obtain ⟨W9, hW9⟩ : ∃ x, x = (wg7.setCell ⟨l, 23, none⟩ (.int .i64 ((posP c 7 : Nat) : Int))).setCell ⟨l, 24, none⟩ (.int .i64 ((posP c 8 : Nat) : Int)) := ⟨_, rfl⟩
          have P9 := hid (show RN wr l cf hv (pP c 9) (whatA c ++ towR 1 (c.hs.take 0)) W9 from by
            rw [hW9, List.take_zero]
            show RN wr l cf hv (pP c 9) (whatA c ++ []) _
            rw [List.append_nil]
            exact P9')
          rw [← hW9]
          clear hW9 P9' P8 b1 b13 h27 q0 q1 q2 q3 q4 q5 q6 q7 q8 z0 z1 z2 z3 z4 z5 z6 z7 z8 w3 w7 h26
          go_loopw [11] (fun i wz => ∃ t : Nat, t ≤ c.nT ∧ i = .int .i64 ((t : Int) + 1) ∧ Hid (RN wr l cf hv (pP c 9) (whatA c ++ towR 1 (c.hs.take t)) wz)) (fun i _ => c.nT + 1 - (intOf i).toNat)
          case atStart => exact ⟨0, Nat.zero_le _, rfl, P9⟩
          case round =>
            clear P9
            obtain ⟨t, ht, rfl, HR⟩ := hrel
            have h26 := HR.out.hcell E16.out
            rw [HHVE.out] at h26
            have hnl : c.hs.length ≤ 1024 := HNT.out
            by_cases hlt : t < c.nT
            · obtain ⟨x, hx⟩ : ∃ x, c.hs[t]? = some x := ⟨_, List.getElem?_eq_getElem hlt⟩
              have hx6 := HC.out.hs x (List.mem_of_getElem? hx)
              obtain ⟨hb, ho, hc2, hve, hcl⟩ := (row_rd HRH'.out.1).cell (by show 0 < c.hs.length; have : c.nT = c.hs.length := rfl; omega)
              simp only [Value.slice.injEq] at hve
              obtain ⟨rfl, -, rfl⟩ := hve
              have hnb : ¬ hb = l := fun e => HRH'.out.2 (by rw [← e]; rfl)
              have cx0 := hcl t (.int .i64 (x : Int)) (by unfold intsV; rw [List.getElem?_map, hx]; rfl)
              have cx := HR.out.kp.cell cx0 hnb
              have CX0 := hid cx0
              have HNB := hid hnb
              have htl : t < c.hs.length := hlt
              have HTL := hid htl
              have HXX := hid hx
              have HX6 := hid hx6
              have b0 : decide ((t : Int) + 1 ≤ (c.hs.length : Int)) = true := decide_eq_true (by omega)
              have wk : IntKind.i64.wrap ((t : Int) + 1 - 1) = (t : Int) := by rw [IntKind.wrap_i64]; omega
              have wk2 : IntKind.i64.wrap (t : Int) = (t : Int) := by rw [IntKind.wrap_i64]; omega
              have ek : (t : Int) + 1 - 1 = (t : Int) := by omega
              have ek2 : wrap64 (t : Int) = (t : Int) := by unfold wrap64; omega
              have t0 : (0 : Int) ≤ (t : Int) := by omega
              have tl : (t : Int) < (c.hs.length : Int) := by omega
              have w5 : IntKind.i64.wrap (5 + (x : Int)) = 5 + (x : Int) := by rw [IntKind.wrap_i64]; omega
              have hlw : (whatA c ++ towR 1 (c.hs.take t)).length ≤ 100000 := by
                have h1 := rl_words HC.out
                have h2 : (whatA c ++ towR 1 (c.hs.take t)).length ≤ (whatR c).length := by
                  unfold whatR
                  rw [List.length_append, List.length_append, towR_len, towR_len]
                  have h3 : towW (c.hs.take t) + towW (c.hs.drop t) = towW c.hs := by
                    rw [← towR_len 1 (c.hs.take t), ← towR_len (1 + (c.hs.take t).length) (c.hs.drop t), ← List.length_append, ← towR_append, List.take_append_drop, towR_len]
                  omega
                rw [whatR_len] at h2
                omega
              have HGP := hid (RN.group (HR.out.quiet (Keep.refl Nil _).drew) E16.out (5 + x) 9 ((t : Int) + 1) (5 + (x : Int)) (by omega) (by omega) hlw (by omega) (by omega) (5 + (x : Int)) (by omega))
              clear hx hx6 hcl hlt ht htl hnl hlw cx0 hnb
              go_wp2
              go_region_held3 (fun w' => w'.cell? ⟨l, 26, none⟩ = some (.slice (some ⟨hb, ho, none⟩) c.hs.length hc) ∧ w'.cell? ⟨hb, ho + t, none⟩ = some (.int .i64 (x : Int))) (go_keep)
                ((go_at_call 75; (with_reducible refine (HGP.out).mono ?_); rintro e w6 ⟨rfl, h6⟩; have P6x := hid h6; have u26 := h6.hcell E16.out; rw [HHVE.out] at u26; have ux := h6.kp.cell CX0.out HNB.out; clear h6))
              all_goals
                have hb1 : t < 1024 := by have h1 := HTL.out; have h2 : c.hs.length ≤ 1024 := HNT.out; omega
                go_wp2
                go_roundw
                case rel =>
                  refine ⟨t + 1, HTL.out, by go_num, hid ?_⟩
                  have := P6x.out
                  rw [List.append_assoc, ← show towR 1 (c.hs.take (t + 1)) = towR 1 (c.hs.take t) ++ grpL 9 ((t : Int) + 1) (5 + (x : Int)) (5 + x) from towR_take HXX.out] at this
                  exact this
                case measure => have := HTL.out; have : c.nT = c.hs.length := rfl; simp [intOf]; omega
            · obtain rfl : t = c.nT := by omega
              have b0 : decide ((c.nT : Int) + 1 ≤ (c.hs.length : Int)) = false := decide_eq_false (by show ¬ ((c.hs.length : Int) + 1 ≤ (c.hs.length : Int)); omega)
              have hwr : whatA c ++ towR 1 (c.hs.take c.nT) = whatR c := by
                unfold whatR
                rw [show c.hs.take c.nT = c.hs from List.take_length]
              rw [hwr] at HR
              obtain ⟨aw, cw, h27⟩ := HR.out.wcell E16.out
              rw [show (whatR c).length = posP c 9 from whatR_len c] at h27
              have q9 : wr.cell? ⟨l, 25, none⟩ = some (.int .i64 (pP c 9 9)) := HR.out.cell E16.out (j := 9) (by decide)
              have z9 : wr.frozen? ⟨l, 25, none⟩ = false := HR.out.fr _
              have PF := hid (HR.out.next E16.out (j := 9) (by decide))
              clear hwr HR hlt ht
              go_wp2
              go_ret2
              obtain ⟨a', cp', g1, g2, g3⟩ := PF.out
              rw [HCFE.out, HHVE.out] at g1
              have e1 := HNE.out
              have e2 := HZL.out
              have e3 := HKW.out.size
              have e4 := HKK.out.size
              have r1 := row_keep HRH'.out.1 g2 (fun k e hl => HRH'.out.2 (hl ▸ e))
              have r2 := row_keep (row_keep HOW.out HKK.out (fun k e hl => by have := HOWN.out k e; omega)) g2 (fun k e hl => by have := HOWN.out k e; omega)
              refine ⟨l, _, rfl, ⟨t1, t2, t3, t4, t5, t6, ac, cc, ha, hc, a', cp', HTW.out, g1, r1, r2, fun _ => Iff.rfl⟩, (HKW.out.trans HKK.out (fun k hk e => by omega)).trans g2 (fun k hk e => by omega), fun k hk => ?_⟩
              rcases hk with rfl | h | h | h
              · exact ⟨by omega, lt_of_block g1.head⟩
              · exact ⟨by have := g3 k h; omega, (g1.row.lt k h).2⟩
              · exact ⟨by have := HNW'.out k h; omega, (r1.lt k h).2⟩
              · exact ⟨by have := HOWN.out k h; omega, (r2.lt k h).2⟩
end
end Go.Proofs.YtjghenomeindcaaGreat
