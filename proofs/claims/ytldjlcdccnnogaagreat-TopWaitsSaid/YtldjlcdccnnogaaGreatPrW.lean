/- An engine of a rig behind prcu's face, whatever it is. -/
import Derived.Test.YtldjlcdccnnogaaGreatRgP
import Derived.Test.YtldjlcdccnnogaaGreatMem
set_option linter.unusedVariables false
set_option linter.unusedSimpArgs false
namespace Go.Proofs.YtldjlcdccnnogaaGreat
open Go.RowKit Go.Lf
/-- An engine with n slots behind prcu's face: how it lies, and what its calls do. -/
structure PrW (n : Nat) where
  P : Lies RX
  p : Nat
  kind : Int
  conc : Int → Int → Bool
  bnd : Int → Nat
  k0 : kind = 1 ∨ kind = 2 ∨ kind = 3
  engine : ∀ {w : World} {A : Nat → Prop} {x : RX}, P.lie w A x → Calls Tryz.prog 61 #[pb p] w fun e w' => e = .returned (.int .u8 kind) ∧ Keep Nil w w'
  enter : ∀ {w : World} {A : Nat → Prop} {x : RX} (k : Nat) (v : Int), P.lie w A x → x.K ≤ 900 → k < n → x.T k = .idle → 0 ≤ v → v < 64 →
    Calls Tryz.prog 60 #[pb p, .int .i64 k, .int .i64 k, .int .i64 v] w fun e w' => ∃ b, e = .returned (.tuple #[pb b, .int .i64 0]) ∧ P.To w A (x.enter k v b) w'
  exit : ∀ {w : World} {A : Nat → Prop} {x : RX} (k : Nat) (v : Int), P.lie w A x → x.K ≤ 900 → k < n → x.T k = .inn v →
    Calls Tryz.prog 39 #[pb p, .int .i64 k, .int .i64 k] w fun e w' => ∃ pc e0, e = .returned (.tuple #[.int .u8 pc, .int .i64 e0]) ∧ pc ≠ 0 ∧ pc ≠ 1 ∧ P.To w A (x.exit k) w'
  wait : ∀ {w : World} {A : Nat → Prop} {x : RX} (k : Nat) (set : Int), P.lie w A x → x.K ≤ 900 → k < n → x.T k = .idle → 0 < set → set < 18446744073709551616 →
    Calls Tryz.prog 62 #[pb p, .int .i64 k, .int .u64 set] w fun e w' => ∃ b, ∃ r ≤ bnd set, e = .returned (.tuple #[pb b, .int .i64 0]) ∧ P.To w A (x.wait k set r b) w'
  enext : ∀ {w : World} {A : Nat → Prop} {x : RX} (k : Nat) (v : Int), P.lie w A x → k < n → x.T k = .en v →
    Calls Tryz.prog 34 #[pb (x.bx k)] w fun e w' => ∃ pc, e = .returned (.int .u8 pc) ∧ pc ≠ 0 ∧ Keep Nil w w'
  wnext : ∀ {w : World} {A : Nat → Prop} {x : RX} (k : Nat) (set : Int) (bg : Bool), P.lie w A x → k < n → x.T k = .wa set bg →
    Calls Tryz.prog 35 #[pb (x.bx k)] w fun e w' => ∃ pc, e = .returned (.int .u8 pc) ∧ pc ≠ 0 ∧ Keep Nil w w'
  estep : ∀ {w : World} {A : Nat → Prop} {x : RX} (k : Nat) (v : Int), P.lie w A x → x.K ≤ 900 → k < n → x.T k = .en v →
    Calls Tryz.prog 36 #[pb (x.bx k)] w fun e w' => ∃ pc d, e = .returned (.tuple #[.int .u8 pc, .bool d]) ∧ pc ≠ 0 ∧ pc ≠ 1 ∧ P.To w A (x.estep k v d) w'
  wstep : ∀ {w : World} {A : Nat → Prop} {x : RX} (k : Nat) (set : Int) (bg : Bool), P.lie w A x → x.K ≤ 900 → k < n → x.T k = .wa set bg →
    Calls Tryz.prog 38 #[pb (x.bx k)] w fun e w' => ∃ pc d r, e = .returned (.tuple #[.int .u8 pc, .bool d]) ∧ pc ≠ 0 ∧ pc ≠ 1 ∧ P.To w A (x.wstep k set bg d r) w' ∧
      (d = true → ∀ j, j < n → ¬ x.must k set bg j) ∧ r ≤ bnd set ∧
      (r + 1 ≤ x.R k ∨ (∃ j v, j < n ∧ x.T j = .inn v ∧ conc set v = true) ∨ ∃ j s, j < n ∧ j ≠ k ∧ x.T j = .wa s true)
end Go.Proofs.YtldjlcdccnnogaaGreat
