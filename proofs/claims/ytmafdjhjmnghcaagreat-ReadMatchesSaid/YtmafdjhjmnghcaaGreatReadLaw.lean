/- the statements on reads: what they share. -/
import Derived.Test.YtmafdjhjmnghcaaGreatReadRW
set_option linter.unusedVariables false
set_option linter.unusedSimpArgs false
namespace Go.Proofs.YtmafdjhjmnghcaaGreat
open Go.RowKit Go.Lf
attribute [local go_sem] fld0 fld1 fld2 fld3 fld4 fld5 fld6 fld7 fld8 fld9 fldc fldl
section
variable {w wr w' : World} {c : Cfg} {b mb r : Nat} {ws ws' : List Int} {log log' : List Acc} {s s' : RS} {i : Nat}
set_option maxRecDepth 100000 in
set_option maxHeartbeats 1000000 in
theorem word_ok (h : SW w wr c b mb ws log) (hok : c.ok) {i : Nat} (hi : i < c.nT) (t n a : Int) (ht : t = i + 1) (n0 : 0 ≤ n) (n1 : n ≤ 4) (ha : a = (c.tow i : Int) + n) : Calls Tryz.prog 43 #[.pointer (some ⟨b, 0, none⟩), .int .i64 t, .int .i64 n] wr fun e w' => e = .returned (.int .i64 a) ∧ wr = w' := by
  obtain ⟨⟨A, ⟨L, F, G, hsp⟩, hA⟩, hown⟩ := h
  have H := hid hsp
  subst ht
  subst ha
  clear hsp hA hown
  go_enter Tryz.func43, Tryz.ntmps43
  go_wp2_with fail
  refine (blayout_ok H.out).mono ?_
  rintro e w1 ⟨rfl, rfl⟩
  go_wp2_with fail
  refine (lword_ok H.out.lay.at_ hok hi _ n _ rfl n0 n1 rfl).mono ?_
  rintro e w1 ⟨rfl, rfl⟩
  go_wp2
  go_ret
  exact ⟨rfl, rfl⟩
/-- A step of a read that the walk has made. -/
def WStepTo (w : World) (c : Cfg) (b mb : Nat) (ws : List Int) (n : Nat) (r : Nat) (pc : Int) (s' : RS) (e : Ending) (w' : World) : Prop :=
  e = .returned (.tuple #[.int .u8 pc, .bool s'.ended]) ∧ ∃ log', log'.length = n + 1 ∧ RW w w' c b mb ws log' r s'
/-- What a read under way wants of the words. -/
structure RWf (c : Cfg) (ws : List Int) (n : Nat) (s : RS) (i : Nat) : Prop where
  ok : c.ok
  hi : i < c.nT
  tw : s.tower = i + 1
  t0 : 0 ≤ s.th
  t1 : s.th < 64
  wf : ∀ x ∈ ws, 0 ≤ x ∧ x < 18446744073709551616
  len : c.words ≤ ws.length
  lg : n < 1000000000
theorem RS.step_tower {lk : Int} {s : RS} {x : Int} : (s.step lk x).tower = s.tower ∧ (s.step lk x).th = s.th ∧ (s.step lk x).tries = s.tries := by
  unfold RS.step RS.by RS.fin
  repeat' split
  all_goals exact ⟨rfl, rfl, rfl⟩
theorem RWf.step (h : RWf c ws log.length s i) (x : Int) (hl : log'.length = log.length + 1) (hn : log.length + 1 < 1000000000) : RWf c ws log'.length (s.step c.lk x) i :=
  ⟨h.ok, h.hi, by rw [RS.step_tower.1]; exact h.tw, by rw [RS.step_tower.2.1]; exact h.t0, by rw [RS.step_tower.2.1]; exact h.t1, h.wf, h.len, by omega⟩
theorem wstep_ok (h : RW w wr c b mb ws log r s) (hf : RWf c ws log.length s i) (hg : s.good c.lk) : Calls Tryz.prog 34 #[.pointer (some ⟨r, 0, none⟩)] wr (WStepTo w c b mb ws log.length r s.next (s.step c.lk (s.word (c.tow i) c.descs ws))) := by
  obtain ⟨⟨A, ⟨L, F, G, hsp⟩, hA, nA⟩, hat, hge, hown⟩ := h
  have hR : RIn wr A c b mb L r F G ws log s i := ⟨hsp, hf.ok, hat, nA, hf.hi, hf.tw, hf.t0, hf.t1, hf.wf, hf.len, by have := hf.lg; omega, hg⟩
  refine (rstep_ok hR).mono ?_
  rintro e w' ⟨rfl, log', hl, hto⟩
  exact ⟨rfl, log', by rw [hl]; simp, RW.turn hA nA hat hge hown hto⟩
/-- A read has come to its end. -/
def WRunTo (w : World) (c : Cfg) (b mb : Nat) (ws : List Int) (n : Nat) (r k : Nat) (s' : RS) (e : Ending) (w' : World) : Prop :=
  e = .returned (.tuple #[.int .i64 (k : Int), .bool true]) ∧ ∃ log', log'.length ≤ n + 20 ∧ RW w w' c b mb ws log' r s'
set_option maxRecDepth 100000 in
set_option maxHeartbeats 4000000 in
theorem wrun_ok (h : RW w wr c b mb ws log r s) (hf : RWf c ws (log.length + 20) s i) (hg : s.good c.lk) (hfl : s.fails + 20 < 1000000) {k : Nat} (hr : s.runs c.lk (c.tow i) c.descs ws 20 = some (k, s')) : Calls Tryz.prog 45 #[.pointer (some ⟨r, 0, none⟩)] wr (WRunTo w c b mb ws log.length r k s') := by
  have H := hid h
  have HF := hid hf
  have HG := hid hg
  have HR := hid hr
  have HFL := hid hfl
  clear h hf hg hr hfl
  go_enter Tryz.func45, Tryz.ntmps45
  go_wp2
  go_loopw [4] (fun x wj => ∃ j : Nat, j ≤ 19 ∧ x = .int .i64 ((j : Int) + 1) ∧ ∃ (sj : RS) (logj : List Acc), RW w wj c b mb ws logj r sj ∧ logj.length = log.length + j ∧ sj.good c.lk ∧ sj.fails + 20 ≤ s.fails + 20 + j ∧ RWf c ws (log.length + 20) sj i ∧ j < k ∧ sj.runs c.lk (c.tow i) c.descs ws (20 - j) = some (k - j, s')) (fun x _ => 21 - (intOf x).toNat)
  case atStart =>
    have hk : 0 < k := by
      cases he : (s.step c.lk (s.word (c.tow i) c.descs ws)).ended with
      | true => have := (RS.runs_one HR.out he).1; omega
      | false => obtain ⟨m, hm, -⟩ := RS.runs_more HR.out he; omega
    exact ⟨0, by omega, rfl, s, log, H.out, rfl, HG.out, by omega, HF.out, hk, HR.out⟩
  case round =>
    obtain ⟨j, hj, rfl, sj, logj, hw, hl, hg, hfl, hf, hjk, hr⟩ := hrel
    have dj : decide ((j : Int) + 1 ≤ 20) = true := decide_eq_true (by omega)
    have wj1 : IntKind.i64.wrap ((j : Int) + 1 + 1) = (j : Int) + 1 + 1 := by rw [IntKind.wrap_i64]; omega
    obtain ⟨f, hfu⟩ : ∃ f, 20 - j = f + 1 := ⟨19 - j, by omega⟩
    rw [hfu] at hr
    have hf' : RWf c ws logj.length sj i := ⟨hf.ok, hf.hi, hf.tw, hf.t0, hf.t1, hf.wf, hf.len, by have := hf.lg; omega⟩
    have HW := hid hw
    have HG2 := hid hg
    have HF2 := hid hf'
    have HF3 := hid hf
    have HL := hid hl
    have HFL2 := hid hfl
    have HR2 := hid hr
    have HJ := hid (And.intro hj (And.intro hjk hfu))
    obtain ⟨s2, hs2⟩ : ∃ s2, s2 = sj.step c.lk (sj.word (c.tow i) c.descs ws) := ⟨_, rfl⟩
    have hxr : 0 ≤ sj.word (c.tow i) c.descs ws ∧ sj.word (c.tow i) c.descs ws < 18446744073709551616 := by
      unfold RS.word
      cases hq : ws[sj.at (c.tow i) c.descs]? with
      | none => exact ⟨Int.le_refl 0, by show (0 : Int) < _; decide⟩
      | some y => exact hf.wf y (List.mem_of_getElem? hq)
    have HXR := hid hxr
    have HS2 := hid hs2
    clear hw hg hf' hf hl hfl hr hjk hfu hxr hs2
    go_wp2_with fail
    refine (rnext_ok HW.out.at_).mono ?_
    rintro e w1 ⟨rfl, rfl⟩
    go_wp2_with fail
    refine (wstep_ok HW.out HF2.out HG2.out).mono ?_
    rw [← HS2.out]
    rintro e w2 ⟨rfl, log2, hl2, hrw⟩
    have HRW := hid hrw
    have HL2 := hid hl2
    clear hl2 hrw
    have dnx : (sj.next != sj.next) = false := by simp
    cases he : s2.ended with
    | true =>
      have hone := RS.runs_one HR2.out (by rw [← HS2.out]; exact he)
      rw [← HS2.out] at hone
      have HE := hid hone
      clear he hone
      go_wp2
      go_ret2
      have h1 := HE.out.1
      have h2 := HE.out.2
      have h4 := HJ.out.2.1
      refine ⟨?_, log2, by have := HL2.out; have := HL.out; omega, ?_⟩
      · have : (k : Int) = (j : Int) + 1 := by omega
        rw [this] <;> rfl
      · rw [h2]; exact HRW.out
    | false =>
      obtain ⟨m, hm1, hm2⟩ := RS.runs_more HR2.out (by rw [← HS2.out]; exact he)
      rw [← HS2.out] at hm2
      have HM := hid (And.intro hm1 hm2)
      have HE := hid he
      clear he hm1 hm2
      go_wp2
      go_roundw
      case rel =>
        have h3 := HJ.out.2.2
        have hm1 := HM.out.1
        have hm2 := HM.out.2
        have hmp : 0 < m ∧ 0 < f := by
          cases f with
          | zero => cases hm2
          | succ f =>
            refine ⟨?_, by omega⟩
            cases he2 : (s2.step c.lk (s2.word (c.tow i) c.descs ws)).ended with
            | true => have := (RS.runs_one hm2 he2).1; omega
            | false => obtain ⟨q, hq, -⟩ := RS.runs_more hm2 he2; omega
        have hst := RS.step_fails (lk := c.lk) (s := sj) (w := sj.word (c.tow i) c.descs ws)
        rw [← HS2.out] at hst
        have hfs := HFL2.out
        have hfl0 := HFL.out
        have hgd : s2.good c.lk := by
          rw [HS2.out]
          exact RS.step_good HG2.out HXR.out.1 HXR.out.2 (by omega) (by rw [← HS2.out]; exact HE.out)
        have htw := RS.step_tower (lk := c.lk) (s := sj) (x := sj.word (c.tow i) c.descs ws)
        rw [← HS2.out] at htw
        refine ⟨j + 1, by omega, by go_num, s2, log2, HRW.out, by have := HL2.out; have := HL.out; omega, hgd, by omega, ?_, by omega, ?_⟩
        · exact ⟨HF3.out.ok, HF3.out.hi, by rw [htw.1]; exact HF3.out.tw, by rw [htw.2.1]; exact HF3.out.t0, by rw [htw.2.1]; exact HF3.out.t1, HF3.out.wf, HF3.out.len, HF3.out.lg⟩
        · rw [show 20 - (j + 1) = f by omega, show k - (j + 1) = m by omega]; exact hm2
      case measure => have := HJ.out.1; simp [intOf]; omega
end
end Go.Proofs.YtmafdjhjmnghcaaGreat
