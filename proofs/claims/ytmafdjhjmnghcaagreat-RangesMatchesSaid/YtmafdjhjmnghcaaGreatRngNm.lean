/- RangesNames: the words of the examples, the example of the chapter, and the walk. -/
import Derived.Test.YtmafdjhjmnghcaaGreatRngLaw
set_option linter.unusedVariables false
set_option linter.unusedSimpArgs false
namespace Go.Lf
/-- The words behind a locking of the example's store. -/
def lockW (t lo hi tr : Int) (ws : List Int) : List Int := (((KS.init t lo hi tr).runs 2 6 7 100 ws).map (·.2.2)).getD []
def lockQ (t lo hi tr : Int) (ws : List Int) : Option (Nat × (Int × Int × Int) × List Int) := ((KS.init t lo hi tr).runs 2 6 7 100 ws).map fun r => (r.1, r.2.1.res, r.2.2)
def rW0 : List Int := ints exC.init
def aW1 : List Int := lockW 0 5 5 5 rW0
def aW2 : List Int := lockW 1 4 9 1 aW1
def aW3 : List Int := lockW 1 6 9 5 aW2
def rW2 : List Int := lockW 0 6 9 5 aW1
def rW3 : List Int := lockW 1 1 1 2 rW2
def rW4 : List Int := rW3.set 7 0
def rW5 : List Int := rW4.set 6 2
def rW6 : List Int := lockW 0 1 1 3 rW5
theorem exC_lk : exC.lk = 2 := rfl
theorem exC_master : exC.master = 6 := by decide +kernel
theorem exC_locks : exC.locks = 7 := by decide +kernel
end Go.Lf
namespace Go.Proofs.YtmafdjhjmnghcaaGreat
open Go.RowKit Go.Lf
attribute [local go_sem] fld0 fld1 fld2 fld3 fld4 fld5 fld6 fld7 fld8 fld9 fldc fldl
section
variable {w wr w' : World} {b mb : Nat} {ws ws' : List Int} {log log' : List Acc}
theorem lock_q (h : SW w wr exC b mb ws log) (hw : WdOk exC ws) (t lo hi tr : Int) (t0 : 0 ≤ t) (t1 : t < 64) (r0 : 0 ≤ tr) (r1 : tr ≤ 255) (hs : lo ≤ hi) (l0 : 0 ≤ lo ∧ lo < 18446744073709551616) (h0 : 0 ≤ hi ∧ hi < 18446744073709551616) (hl : log.length < 900000000)
    (ws' : List Int) (n : Nat) (e fl er nn : Int) (hnn : nn = n) (hn : n ≤ 2999) (hq : lockQ t lo hi tr ws = some (n, (e, fl, er), ws')) :
    Calls Tryz.prog 20 #[.pointer (some ⟨b, 0, none⟩), .int .i64 t, .agg #[.int .u64 lo, .int .u64 hi], .int .i64 tr] wr (LockTo w exC b mb ws' e nn er (log.length + n)) := by
  obtain ⟨⟨n', s', ws2⟩, hr, hx⟩ := Option.map_eq_some_iff.1 hq
  simp only [Prod.mk.injEq] at hx
  obtain ⟨rfl, hres, rfl⟩ := hx
  exact lock_ok h exC_ok hw t lo hi tr t0 t1 r0 r1 hs l0 h0 hn (f := 100) (by rw [exC_lk, exC_master, exC_locks]; exact hr) hl e fl er hres nn hnn
theorem sw_held (h : SW w wr exC b mb ws log) (hw : WdOk exC ws) (l : List (Int × Int)) (hl : heldP 7 ws 2 = l) : Calls Tryz.prog 17 #[.pointer (some ⟨b, 0, none⟩)] wr (HeldTo wr l) := by
  obtain ⟨⟨A, ⟨L, F, G, hsp⟩, hA⟩, hown⟩ := h
  have := held_ok hsp exC_ok (Nat.le_of_eq hw.len.symm)
  rw [exC_locks, exC_lk, hl] at this
  exact this
theorem sw_unl_range (h : SW w wr exC b mb ws log) (t e : Int) (t0 : 0 ≤ t) (t1 : t < 64) (he : e < 0 ∨ (2 : Int) ≤ e) : Calls Tryz.prog 16 #[.pointer (some ⟨b, 0, none⟩), .int .i64 t, .int .i64 e] wr fun e' w' => e' = .returned (.int .i64 3) ∧ Keep Nil wr w' := by
  obtain ⟨⟨A, ⟨L, F, G, hsp⟩, hA⟩, hown⟩ := h
  exact kunlock_range hsp exC_ok t e t0 t1 (by rw [exC_lk]; exact he)
theorem sw_unl_state (h : SW w wr exC b mb ws log) (t : Int) (t0 : 0 ≤ t) (t1 : t < 64) (hx : ws[7]? = some 0) : Calls Tryz.prog 16 #[.pointer (some ⟨b, 0, none⟩), .int .i64 t, .int .i64 0] wr fun e' w' => e' = .returned (.int .i64 8) ∧ Keep Nil wr w' := by
  obtain ⟨⟨A, ⟨L, F, G, hsp⟩, hA⟩, hown⟩ := h
  exact kunlock_state hsp exC_ok t t0 t1 0 (by decide) (by rw [exC_locks]; exact hx)
def UnlW (w : World) (b mb : Nat) (ws' : List Int) (k : Nat) (e : Ending) (w' : World) : Prop := e = .returned (.int .i64 0) ∧ ∃ log : List Acc, log.length = k ∧ SW w w' exC b mb ws' log
theorem sw_unl_ok (h : SW w wr exC b mb ws log) (t : Int) (t0 : 0 ≤ t) (t1 : t < 64) (x : Int) (hx0 : x ≠ 0) (hx : ws[7]? = some x) (hl : log.length < 1000000000) : Calls Tryz.prog 16 #[.pointer (some ⟨b, 0, none⟩), .int .i64 t, .int .i64 0] wr (UnlW w b mb (ws.set 7 0) (log.length + 1)) := by
  obtain ⟨⟨A, ⟨L, F, G, hsp⟩, hA⟩, hown⟩ := h
  refine (kunlock_ok hsp exC_ok t t0 t1 0 (by decide) x hx0 (by rw [exC_locks]; exact hx) hl).mono ?_
  rintro e w' ⟨rfl, hto⟩
  rw [exC_locks] at hto
  exact ⟨rfl, _, by simp, SW.turn hown hA hto⟩
theorem rW0_ok : WdOk exC rW0 := WdOk.init exC_ok
set_option maxRecDepth 100000 in
set_option maxHeartbeats 4000000 in
theorem kawake_ok : Calls Tryz.prog 27 #[] w fun e w' => e = .returned (.bool true) ∧ Keep Nil w w' := by
  go_enter Tryz.func27, Tryz.ntmps27
  go_wp2_with fail
  refine example_ok.mono ?_
  rintro e w1 ⟨rfl, hk1⟩
  have HK1 := hid hk1
  clear hk1
  go_wp2_with fail
  refine exnew_ok.mono ?_
  rintro e w2 hnew
  obtain ⟨b, mb, rfl, hs⟩ := SW.new HK1.out hnew
  have HS := hid (show SW w w2 exC b mb rW0 [] from hs)
  clear hnew hs HK1
  go_wp2_with fail
  refine (lock_q HS.out rW0_ok 0 5 5 5 (by decide) (by decide) (by decide) (by decide) (by decide) (by decide) (by decide) (by decide) aW1 7 0 0 0 7 rfl (by decide) (by decide +kernel)).mono ?_
  rintro e w3 ⟨rfl, log1, hl1, hs1, hw1⟩
  have HS1 := hid hs1
  have HW1 := hid hw1
  have HL1 := hid (show log1.length ≤ 7 from hl1)
  clear hs1 hw1 hl1 HS
  go_wp2_with fail
  refine (lock_q HS1.out HW1.out 1 4 9 1 (by decide) (by decide) (by decide) (by decide) (by decide) (by decide) (by decide) (by have := HL1.out; omega) aW2 5 0 1 11 5 rfl (by decide) (by decide +kernel)).mono ?_
  rintro e w4 ⟨rfl, log2, hl2, hs2, hw2⟩
  have HS2 := hid hs2
  have HW2 := hid hw2
  have HL2 := hid (show log2.length ≤ 12 by have := HL1.out; omega)
  clear hs2 hw2 hl2 HS1 HW1 HL1
  go_wp2_with fail
  refine (lock_q HS2.out HW2.out 1 6 9 5 (by decide) (by decide) (by decide) (by decide) (by decide) (by decide) (by decide) (by have := HL2.out; omega) aW3 9 1 0 0 9 rfl (by decide) (by decide +kernel)).mono ?_
  rintro e w5 ⟨rfl, log3, hl3, hs3, hw3⟩
  have HS3 := hid hs3
  have HW3 := hid hw3
  clear hs3 hw3 hl3 HS2 HW2 HL2
  go_wp2_with fail
  refine (sw_held HS3.out HW3.out [(5, 5), (6, 9)] (by decide +kernel)).mono ?_
  rintro e w6 ⟨a, cp, rfl, hrd, hk, hb⟩
  have HRD := hid hrd
  have HK := hid (HS3.out.own.trans hk (fun _ _ h => h))
  clear hrd hk hb
  go_wp2_with fail
  refine (eqS_yes _ _ [(5, 5), (6, 9)] _ (rd_keep HRD.out ((Keep.refl Nil w6).alloc _) (fun _ _ h => h)) (rd_new _ _ _ _ _ _ ⟨rfl, rfl⟩) (by decide)).mono ?_
  rintro e w7 ⟨rfl, hk⟩
  have HK7 := hid ((HK.out.alloc _).trans hk (fun _ _ h => h))
  clear hk
  go_wp2
  go_ret
  exact ⟨rfl, HK7.out⟩
end
end Go.Proofs.YtmafdjhjmnghcaaGreat
