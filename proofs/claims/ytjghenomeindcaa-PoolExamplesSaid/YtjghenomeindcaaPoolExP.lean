/- law14: the examples as plain data. -/
import Derived.Test.YtjghenomeindcaaPoolEx
set_option linter.unusedVariables false
namespace Go.Lf
def xc : Cfg := pcfg [2, 1, 0, 0, 0, 0]
theorem xc_ok : xc.ok := pcfg_ok rfl (by decide)
def e0 : PSt := (PRun.init xc).s
def xA (n : Nat) : PSt × PO := stpN xc n (e0, PO.take 0 1 0)
def xB : PSt × PO := stp xc ((xA 3).1, PO.take 0 3 0)
def sG : PSt := { xB.1 with out := pup xB.1.out 1 (some true) }
def xC (n : Nat) : PSt × PO := stpN xc n (sG, PO.give 1 1 1)
def xD (n : Nat) : PSt × PO := stpN xc n ((xC 3).1, PO.take 0 1 1)
def xX (n : Nat) : PSt × PO := stpN xc n ((xD 2).1, PO.take 1 1 0)
def xZ : PSt × PO := stp xc ((xX 3).1, (xD 2).2)
def R3 : PRun := (PRun.init xc).rep xc false 3
def R7 : PRun := (R3.act xc 0 false 3).rep xc true 3
theorem x_nT : (xc.nT : Int) = 3 := by decide +kernel
theorem x_hs : xc.hs[(1 : Int).toNat - 1]? = some 1 := by decide +kernel
theorem i0 : SInv xc e0 (PRun.init xc).L (PRun.init xc).sw := (PInv.init xc_ok).si
theorem g3 : PGood xc R3 (0 + 3) := (PGood.init xc_ok).rep xc_ok false 3
theorem i3 : SInv xc (xA 3).1 R3.L R3.sw := g3.inv.si
theorem g7 : PGood xc R7 (0 + 3 + 1 + 3) := (g3.act xc_ok (t := 0) (by decide) false (k := 3) (by decide) (by decide)).rep xc_ok true 3
theorem i7 : SInv xc (xC 3).1 R7.L R7.sw := by
  have h := g7.inv.si.logs (xC 3).1.log
  have e : ({ R7.s with log := (xC 3).1.log } : PSt) = (xC 3).1 := by kernel_rfl
  rw [e] at h
  exact h
theorem sw0 : ∀ k, k < 6 → (PRun.init xc).sw k < 4000000000 := by decide +kernel
theorem sw3 : ∀ k, k < 6 → R3.sw k < 4000000000 := by decide +kernel
theorem sw7 : ∀ k, k < 6 → R7.sw k < 4000000000 := by decide +kernel
theorem l0 : (PRun.init xc).L 0 = [1, 2] ∧ (PRun.init xc).L 1 = [3] ∧ (PRun.init xc).L 2 = [] := by decide +kernel
theorem l3 : R3.L 0 = [2] ∧ R3.L 1 = [3] ∧ R3.L 2 = [] := by decide +kernel
theorem l7 : R7.L 0 = [1, 2] ∧ R7.L 1 = [3] ∧ R7.L 2 = [] := by decide +kernel
theorem o0 : outL xc.nT e0.out = [] := by decide +kernel
theorem o3 : outL xc.nT (xA 3).1.out = [1] := by decide +kernel
end Go.Lf
namespace Go.Proofs.Ytjghenomeindcaa
open Go.RowKit Go.Lf
theorem a_ok : ∀ k, k < 3 → stpOk xc (xA k) = true ∧ (xA k).2.gv = false ∧ (xA k).2.pc = 4 + (k : Int) ∧ ((xA (k + 1)).2.pc == 0) = (k == 2) := by decide +kernel
theorem a_res : PO.res (xA 0).2 = (0, 0, 8) ∧ (xA 3).2.gv = false ∧ PO.res (xA 3).2 = (1, 0, 0) := by decide +kernel
theorem b_ok : stpOk xc ((xA 3).1, PO.take 0 3 0) = true ∧ xB.2.pc = 0 ∧ xB.2.gv = false ∧ PO.res xB.2 = (0, 0, 6) := by decide +kernel
theorem c_out : xB.1.out 2 ≠ some false ∧ xB.1.out 1 = some false ∧ sG.out 1 ≠ some false := by decide +kernel
theorem c_ok : ∀ k, k < 3 → stpOk xc (xC k) = true ∧ (xC k).2.gv = true ∧ (xC k).2.pc = (if k = 0 then 4 else 6 + (k : Int)) ∧ ((xC (k + 1)).2.pc == 0) = (k == 2) := by decide +kernel
theorem c_gen : (xC 3).1.gens[(1 : Int).toNat - 1]? = some 1 := by decide +kernel
theorem d_ok : ∀ k, k < 2 → stpOk xc (xD k) = true ∧ (xD k).2.gv = false ∧ (xD k).2.pc = 4 + (k : Int) ∧ ((xD (k + 1)).2.pc == 0) = false := by decide +kernel
theorem x_ok : ∀ k, k < 3 → stpOk xc (xX k) = true ∧ (xX k).2.gv = false ∧ (xX k).2.pc = 4 + (k : Int) ∧ ((xX (k + 1)).2.pc == 0) = (k == 2) := by decide +kernel
theorem z_ok : stpOk xc ((xX 3).1, (xD 2).2) = true ∧ (xD 2).2.gv = false ∧ (xD 2).2.pc = 6 ∧ xZ.2.pc = 0 ∧ xZ.2.gv = false ∧ PO.res xZ.2 = (0, 1, 11) := by decide +kernel
theorem w_le : 1 < xc.words ∧ xc.words ≤ 65536 := by decide +kernel
end Go.Proofs.Ytjghenomeindcaa
