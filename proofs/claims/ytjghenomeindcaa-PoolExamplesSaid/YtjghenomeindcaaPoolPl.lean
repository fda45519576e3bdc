/- law14: Run.play. -/
import Derived.Test.YtjghenomeindcaaPoolPt
set_option linter.unusedVariables false
set_option linter.unusedSimpArgs false
namespace Go.Lf
open Go.RowKit
structure PAct where
  th : Int
  hg : Int
  gv : Bool
def PAct.cells (x : PAct) : List Value := [.int .u8 x.th, .int .u8 x.hg, .bool x.gv]
def PAct.wf (x : PAct) : Prop := (Lit.int .u8 x.th).wf = true ∧ (Lit.int .u8 x.hg).wf = true
def pactCells (l : List PAct) : List Value := l.flatMap PAct.cells
theorem flat_getp {α : Type} {cells : α → List Value} {size : Nat} (hlen : ∀ y, (cells y).length = size) : ∀ {l : List α} {k j : Nat} {x : α} {u : Value}, l[k]? = some x → (cells x)[j]? = some u → (l.flatMap cells)[k * size + j]? = some u := by
  intro l
  induction l with
  | nil => intro k j x u h; simp at h
  | cons z l ih =>
    intro k j x u h hu
    rw [List.flatMap_cons]
    cases k with
    | zero =>
      simp at h; subst h
      rw [Nat.zero_mul, Nat.zero_add, List.getElem?_append_left (List.getElem?_eq_some_iff.1 hu).1]
      exact hu
    | succ k =>
      rw [List.getElem?_append_right (by rw [hlen, Nat.add_mul]; omega), hlen, show (k + 1) * size + j - size = k * size + j from by rw [Nat.add_mul]; omega]
      exact ih (by simpa using h) hu
theorem pactCells_at {l : List PAct} {k j : Nat} {x : PAct} {u : Value} (hx : l[k]? = some x) (hu : x.cells[j]? = some u) : (pactCells l)[k * 3 + j]? = some u   := flat_getp (size := 3) (fun _ => rfl) hx hu
theorem u8_wfp {x : Int} (h : (Lit.int .u8 x).wf = true) : 0 ≤ x ∧ x ≤ 255 := by
  simp [Lit.wf, IntKind.min, IntKind.max, IntKind.signed, IntKind.bits] at h
  exact ⟨by omega, by omega⟩
/-- What an act is. -/
def PAct.run (c : Cfg) (R : PRun) (x : PAct) : PRun := R.act c (x.th % 6).toNat x.gv (1 + x.hg % 6).toNat
def PRun.acts (c : Cfg) (R : PRun) (l : List PAct) : PRun := l.foldl (fun R x => x.run c R) R
theorem acts_snoc (c : Cfg) (R : PRun) (l : List PAct) (x : PAct) : R.acts c (l ++ [x]) = x.run c (R.acts c l) := by
  unfold PRun.acts
  rw [List.foldl_append]
  rfl
/-- What stays true. -/
structure PGood (c : Cfg) (R : PRun) (N : Nat) : Prop where
  inv : PInv c R
  sb : SB R
  log : R.s.log.length ≤ N
theorem PGood.act {c : Cfg} {R : PRun} {N : Nat} (h : PGood c R N) (hok : c.ok) {t : Nat} (ht : t < 6) (g : Bool) {k : Nat} (k1 : 1 ≤ k) (k6 : k ≤ 6) : PGood c (R.act c t g k) (N + 1) := by
  have h1 := h.inv.begs hok ht g k1 k6
  exact ⟨h1.steps1 hok ht, (h.sb.begs g k).steps1 h1 ht, by have := @PRun.act_log c R t g k; have := h.log; omega⟩
theorem PGood.run {c : Cfg} {R : PRun} {N : Nat} (h : PGood c R N) (hok : c.ok) (x : PAct) : PGood c (x.run c R) (N + 1) :=
  h.act hok (by omega) x.gv (by omega) (by omega)
theorem PGood.acts {c : Cfg} {R : PRun} {N : Nat} (h : PGood c R N) (hok : c.ok) (l : List PAct) : PGood c (R.acts c l) (N + l.length) := by
  induction l generalizing R N with
  | nil => exact h
  | cons x l ih =>
    have := ih (h.run hok x)
    rw [show N + 1 + l.length = N + (l.length + 1) by omega] at this
    exact this
end Go.Lf
namespace Go.Proofs.Ytjghenomeindcaa
open Go.RowKit Go.Lf
section
variable {w0 : Frm} {w w' : World} {c : Cfg} {R : PRun} {rb pb L t N : Nat} {own own' : Nat → Option Nat} {f : Nat → Nat → Value}
set_option maxRecDepth 100000 in
set_option maxHeartbeats 4000000 in
theorem pplay_ok (h : RunAt w0 w c R rb pb L own f) (hG : PGood c R N) (hok : c.ok) (a : Option Addr) (cp : Nat) (l : List PAct) (hrd : Rd w0.w 3 (.slice a l.length cp) l.length (pactCells l)) (hM : ∀ k, (Value.slice a l.length cp).ownBlock = some k → ¬ w0.M k) (hwf : ∀ x ∈ l, x.wf) (hl : l.length ≤ 1000) (hN : N ≤ 10000) (each : Bool) (he : each = true → c.nT ≤ 60) :
    Calls Try.prog 9 #[.pointer (some ⟨rb, 0, none⟩), .slice a l.length cp, .bool each] w fun e w' => e = .returned (.bool true) ∧ RunTo w0 c (R.acts c l) rb pb L w' := by
  have HD := hid hrd
  have HMM := hid hM
  have HW := hid hwf
  have HG := hid hG
  have HE := hid he
  have H0 := hid (show RunTo w0 c (R.acts c (l.take 0)) rb pb L w from ⟨own, f, h⟩)
  have HLE := hid (And.intro hl hN)
  clear hrd hM hwf hG he h hl hN
  go_enter Try.func9, Try.ntmps9
  go_wp2
  go_loopw [7] (fun i wz => ∃ k : Nat, k ≤ l.length ∧ i = .int .i64 (k : Int) ∧ Hid (RunTo w0 c (R.acts c (l.take k)) rb pb L wz)) (fun i _ => l.length - (intOf i).toNat)
  case atStart => exact ⟨0, Nat.zero_le _, rfl, H0⟩
  case round =>
    obtain ⟨k, hk, rfl, HR⟩ := hrel
    clear H0
    by_cases hlt : k < l.length
    · obtain ⟨x, hx⟩ : ∃ x, l[k]? = some x := ⟨_, List.getElem?_eq_getElem hlt⟩
      obtain ⟨w1, w2⟩ := HW.out x (List.mem_of_getElem? hx)
      obtain ⟨xb, xo, xc, hve, hc⟩ := Rd.cell HD.out (by omega)
      simp only [Value.slice.injEq] at hve
      obtain ⟨rfl, -, rfl⟩ := hve
      obtain ⟨h0, h1⟩ := u8_wfp w1
      obtain ⟨a0, a1⟩ := u8_wfp w2
      have hMx : ¬ w0.M xb := HMM.out xb rfl
      have hcx : ∀ (wq : World), Keep w0.M w0.w wq → wq.cell? ⟨xb, xo + k * 3, none⟩ = some (.int .u8 x.th) ∧ wq.cell? ⟨xb, xo + k * 3 + 1, none⟩ = some (.int .u8 x.hg) ∧ wq.cell? ⟨xb, xo + k * 3 + 2, none⟩ = some (.bool x.gv) := fun wq hk =>
        ⟨hk.cell (hc _ _ (pactCells_at hx (j := 0) rfl)) hMx, hk.cell (hc _ _ (pactCells_at hx (j := 1) rfl)) hMx, hk.cell (hc _ _ (pactCells_at hx (j := 2) rfl)) hMx⟩
      have HC := hid hcx
      obtain ⟨own1, f1, h2⟩ := HR.out
      obtain ⟨q0, q1, q2⟩ := hcx _ h2.kp
      have hsn : R.acts c (l.take (k + 1)) = x.run c (R.acts c (l.take k)) := by rw [List.take_add_one, hx]; exact acts_snoc _ _ _ _
      have HSN := hid hsn
      have hgk := HG.out.acts hok (l.take k)
      have hlg : (R.acts c (l.take k)).s.log.length < 1000000 := by
        have := hgk.log
        have := HLE.out
        rw [List.length_take] at *
        omega
      have hact : Calls Try.prog 29 #[.pointer (some ⟨rb, 0, none⟩), .int .i64 (IntKind.i64.wrap (x.th.tmod 6)), .bool x.gv, .int .i64 (IntKind.i64.wrap (1 + IntKind.i64.wrap (x.hg.tmod 6)))] wr.drew fun e w' => e = .returned (.bool true) ∧ RunTo w0 c (R.acts c (l.take (k + 1))) rb pb L w' := by
        have e1 : IntKind.i64.wrap (x.th.tmod 6) = ((x.th % 6).toNat : Int) := by rw [Int.tmod_eq_emod_of_nonneg h0, IntKind.wrap_i64]; omega
        have e2 : IntKind.i64.wrap (1 + IntKind.i64.wrap (x.hg.tmod 6)) = ((1 + x.hg % 6).toNat : Int) := by
          rw [Int.tmod_eq_emod_of_nonneg a0, show IntKind.i64.wrap (x.hg % 6) = x.hg % 6 by rw [IntKind.wrap_i64]; omega, IntKind.wrap_i64]
          omega
        rw [e1, e2, hsn]
        exact ract_any (h2.quiet (Keep.refl Nil _).drew) hgk.inv hgk.sb hok hlg (by omega) x.gv _ (by omega) (by omega)
      have HA := hid hact
      have HLT := hid hlt
      clear hx hc hcx hact w1 w2 HR h2 hsn hgk hlg hlt hk
      go_wp2
      go_region_held3 (fun w' => w'.cell? ⟨xb, xo + k * 3, none⟩ = some (.int .u8 x.th) ∧ w'.cell? ⟨xb, xo + k * 3 + 1, none⟩ = some (.int .u8 x.hg) ∧ w'.cell? ⟨xb, xo + k * 3 + 2, none⟩ = some (.bool x.gv)) (go_keep)
        ((go_at_call 29; (with_reducible refine (HA.out).mono ?_); rintro e w5 ⟨rfl, hg5⟩; obtain ⟨p0, p1, p2⟩ := HC.out w5 (by obtain ⟨o5, f5, r5⟩ := hg5; exact r5.kp); have G5 := hid hg5; clear hg5))
      have GA := hid (HG.out.acts hok (l.take (k + 1)))
      cases each with
      | false =>
        have hb : k + 1 ≤ 1000 := by have := HLE.out; have := HLT.out; omega
        go_wp2
        go_roundw
        case rel => exact ⟨k + 1, by have := HLT.out; omega, by have := HLT.out; have := HLE.out; go_num, G5⟩
        case measure => have := HLT.out; have := HLE.out; simp [intOf]; omega
      | true =>
        obtain ⟨o5, f5, r5⟩ := G5.out
        go_wp2_with fail
        have hp := parts_ok r5 GA.out.inv hok (by have := GA.out.log; have := HLE.out; rw [List.length_take] at *; omega) (HE.out trivial)
        go_at_call 10
        with_reducible refine hp.mono ?_
        rintro e w6 ⟨rfl, hk6⟩
        have G6 := hid (show RunTo w0 c (R.acts c (l.take (k + 1))) rb pb L w6 from ⟨o5, f5, r5.quiet hk6⟩)
        clear r5 hp hk6
        have hb : k + 1 ≤ 1000 := by have := HLE.out; have := HLT.out; omega
        go_wp2
        go_roundw
        case rel => exact ⟨k + 1, by have := HLT.out; omega, by have := HLT.out; have := HLE.out; go_num, G6⟩
        case measure => have := HLT.out; have := HLE.out; simp [intOf]; omega
    · obtain rfl : k = l.length := by omega
      rw [List.take_length] at HR
      go_wp2
      go_ret
      exact ⟨rfl, HR.out⟩
end
end Go.Proofs.Ytjghenomeindcaa
