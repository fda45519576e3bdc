/- The argument opened: a rig and its picks. -/
import Derived.Test.YtldjlcdccnnogaaGreatProg
import Derived.Test.YtldjlcdccnnogaaGreatOpenBase
import Derived.Test.YtldjlcdccnnogaaGreatMgRig
import Derived.ProofKit
import Derived.OpenShut
set_option linter.unusedVariables false
set_option linter.unusedSimpArgs false
namespace Go.Lf
open Go.RowKit Go.ChangeShapes Go.WideShapes Go.ChangeAt
/-- A slice of flat elements, from its cell. -/
theorem open_flat_cs {α : Type} {cells : α → List Value} {wf : α → Prop} {H : Type} {enc : TypeId × Value → H} {P : Program} {W : World} {t e : TypeId} {fuel : Nat} {cs : List Value} {x0 : DataW H × List MemPlace} (size : Nat)
    (ht : P.underlying t = some (.slice e)) (hc : P.cellsOf e = size) (h0 : 0 < size) (hlen : ∀ y, (cells y).length = size)
    (hel : ∀ n cs' x, DataW.trod enc P W 0 (fun _ => true) true n e cs' = some x → ∃ y : α, cs' = cells y ∧ wf y)
    (hf : DataW.trod enc P W 0 (fun _ => true) true fuel t cs = some x0) :
    ∃ (v : Value) (zs : List α), cs = [v] ∧ Rd W size v zs.length (zs.flatMap cells) ∧ (∀ y ∈ zs, wf y) ∧ zs.length ≤ maxLen := by
  rcases Go.Deep.open_slice ht hf with ⟨hcs, _⟩ | ⟨x, len, cap, m, n, D, Pl, hcs, _, hl, hm, hmm, _, hx⟩
  · exact ⟨_, [], hcs, ⟨_, _, rfl, by simp, .inl ⟨rfl, rfl, rfl⟩⟩, by simp, Nat.zero_le _⟩
  · simp at hmm
    subst hmm
    obtain ⟨zs, hz, hzs⟩ := list_of (p := fun i y => W.cells? 0 (x.add (i * size)) size = some (cells y) ∧ wf y) len (fun i hi => by
      obtain ⟨cs', h1, h2⟩ := hx i (by omega)
      obtain ⟨y, rfl, hy⟩ := hel _ _ _ h2
      exact ⟨y, by rw [hc] at h1; exact h1, hy⟩)
    refine ⟨_, zs, hcs, ?_, fun y hy => ?_, by omega⟩
    · rw [hz]
      refine ⟨_, _, rfl, by rw [length_flat hlen, hz], ?_⟩
      obtain ⟨b, off, sp⟩ := x
      rcases Nat.eq_zero_or_pos len with h1 | h1
      · exact .inr <| .inr ⟨⟨_, rfl⟩, h1⟩
      · obtain ⟨y, hy⟩ : ∃ y, zs[0]? = some y := ⟨_, List.getElem?_eq_getElem (by omega)⟩
        have h2 := (World.cells?_some (hzs 0 y hy).1).2.2 0 h0
        have hsp : sp = none := by
          rw [show (cells y)[0]? = some ((cells y)[0]'(by rw [hlen]; exact h0)) from List.getElem?_eq_getElem _] at h2
          have h3 := World.cell?_spot h2
          unfold Addr.add at h3
          cases sp <;> simp_all
        subst hsp
        refine .inr <| .inl ⟨b, off, rfl, fun j u hu => ?_⟩
        obtain ⟨i, y, k, h3, h4, h5, rfl⟩ := flat_at hlen zs j u hu
        have h6 := (World.cells?_some (hzs i y h3).1).2.2 k h5
        rw [addr_add, addr_add] at h6
        rw [← Nat.add_assoc, h6, h4]
    · obtain ⟨i, hi⟩ := List.getElem?_of_mem hy
      exact (hzs i y hi).2
/-- A program as it comes in: a slice, and its operations. -/
structure ProgV where
  v : Value
  ops : List (Int × Int)
def progCells (l : List ProgV) : List Value := l.flatMap fun y => [y.v]
structure RigsV where
  kind : Int
  bk : Int
  pv : Value
  ps : List ProgV
  kv : Value
  picks : List Int
def RigsV.val (z : RigsV) : Value := .agg #[.int .u8 z.kind, .int .u8 z.bk, z.pv, z.kv]
end Go.Lf
namespace Go.Proofs.YtldjlcdccnnogaaGreat
open Go.RowKit Go.Lf Go.ChangeShapes Go.WideShapes Go.ChangeAt
structure ProgV.wf (W : World) (y : ProgV) : Prop where
  rd : Rd W 2 y.v y.ops.length (rigCells y.ops)
  ops : OpsWf y.ops
structure RigsArg (W : World) (z : RigsV) : Prop where
  k : 0 ≤ z.kind ∧ z.kind < 256
  b : 0 ≤ z.bk ∧ z.bk < 256
  rp : Rd W 1 z.pv z.ps.length (progCells z.ps)
  ps : ∀ y ∈ z.ps, ProgV.wf W y
  rk : Rd W 1 z.kv z.picks.length (z.picks.map (Value.int .i64))
  pk : ∀ x ∈ z.picks, -9223372036854775808 ≤ x ∧ x ≤ 9223372036854775807
set_option maxRecDepth 100000
theorem u8r {x : Int} (h : (Lit.int .u8 x).wf = true) : 0 ≤ x ∧ x < 256 := by
  simp [Lit.wf, IntKind.min, IntKind.max, IntKind.signed, IntKind.bits] at h
  exact ⟨by omega, by omega⟩
theorem u64r {x : Int} (h : (Lit.int .u64 x).wf = true) : 0 ≤ x ∧ x < 18446744073709551616 := by
  simp [Lit.wf, IntKind.min, IntKind.max, IntKind.signed, IntKind.bits] at h
  exact ⟨by omega, by omega⟩
theorem i64r {x : Int} (h : (Lit.int .i64 x).wf = true) : -9223372036854775808 ≤ x ∧ x ≤ 9223372036854775807 := by
  simp [Lit.wf, IntKind.min, IntKind.max, IntKind.signed, IntKind.bits] at h
  exact ⟨by omega, by omega⟩
theorem rig_of {H : Type} {enc : TypeId × Value → H} {W : World} {n : Nat} {cs : List Value} {x : DataW H × List MemPlace} (h : DataW.trod enc Tryz.prog W 0 (fun _ => true) true n 99 cs = some x) : ∃ y : Int × Int, cs = [.int .u8 y.1, .int .u64 y.2] ∧ (0 ≤ y.1 ∧ y.1 < 256 ∧ 0 ≤ y.2 ∧ y.2 < 18446744073709551616) := by
  obtain ⟨xs, m, _, _, hl, hxl, hf⟩ := DataW.trod_struct Tryz.underlying99 h
  have hl' : cs.length = 2 := hl.trans (by kernel_rfl)
  obtain ⟨x0, x1, rfl⟩ : ∃ x0 x1, xs = [x0, x1] := by
    match xs, (show xs.length = 2 from hxl) with
    | [a0, a1], _ => exact ⟨a0, a1, rfl⟩
  have f0 : DataW.trod enc Tryz.prog W 0 (fun _ => true) true m 5 ((cs.drop 0).take (Tryz.prog.cellsOf 5)) = some x0 := hf 0 _ rfl
  rw [show Tryz.prog.cellsOf 5 = 1 from (by kernel_rfl)] at f0
  obtain ⟨v0, e0, -, w0⟩ := DataW.trod_int Tryz.underlying5 f0
  have f1 : DataW.trod enc Tryz.prog W 0 (fun _ => true) true m 41 ((cs.drop 1).take (Tryz.prog.cellsOf 41)) = some x1 := hf 1 _ rfl
  rw [show Tryz.prog.cellsOf 41 = 1 from (by kernel_rfl)] at f1
  obtain ⟨v1, e1, -, w1⟩ := DataW.trod_int Tryz.underlying41 f1
  refine ⟨(v0, v1), ?_, (u8r w0).1, (u8r w0).2, (u64r w1).1, (u64r w1).2⟩
  have g0 := one_field e0
  have g1 := one_field e1
  match cs, hl' with
  | [c0, c1], _ => simp at g0 g1; subst g0 g1; rfl
theorem prog_of {H : Type} {enc : TypeId × Value → H} {W : World} {n : Nat} {cs : List Value} {x : DataW H × List MemPlace} (h : DataW.trod enc Tryz.prog W 0 (fun _ => true) true n 46 cs = some x) : ∃ y : ProgV, cs = [y.v] ∧ ProgV.wf W y := by
  obtain ⟨v, zs, h1, h2, h3, h4⟩ := open_flat_cs (cells := fun y : Int × Int => [Value.int .u8 y.1, .int .u64 y.2]) (wf := fun y => 0 ≤ y.1 ∧ y.1 < 256 ∧ 0 ≤ y.2 ∧ y.2 < 18446744073709551616) 2 Tryz.underlying46 (by kernel_rfl) (by decide) (fun _ => rfl) (fun _ _ _ h => rig_of h) h
  exact ⟨⟨v, zs⟩, h1, h2, h3⟩
theorem open_Rigs {H : Type} {enc : TypeId × Value → H} {W : World} {v : Value} {d : DataW H} {p : List MemPlace} {base : Nat}
    (hv : Value.okWide Tryz.prog W .any base 25 v) (h : DataW.Trod enc Tryz.prog W 0 (fun _ => true) true 25 v d p) :
    ∃ z : RigsV, v = z.val ∧ RigsArg W z := by
  obtain ⟨cs, rfl, hsz⟩ := okWide_struct Tryz.underlying25 hv
  obtain ⟨fuel, hf⟩ := h
  obtain ⟨xs, m, _, _, hl, hxl, hg⟩ := DataW.trod_struct Tryz.underlying25 hf
  simp only [Value.cells] at hl hg
  have hl' : cs.toList.length = 4 := hl.trans (by kernel_rfl)
  obtain ⟨cl⟩ := cs
  obtain ⟨c0, c1, c2, c3, rfl⟩ : ∃ c0 c1 c2 c3, cl = [c0, c1, c2, c3] := by
    match cl, hl' with
    | [a0, a1, a2, a3], _ => exact ⟨a0, a1, a2, a3, rfl⟩
  obtain ⟨x0, x1, x2, x3, rfl⟩ : ∃ x0 x1 x2 x3, xs = [x0, x1, x2, x3] := by
    match xs, (show xs.length = 4 from hxl) with
    | [a0, a1, a2, a3], _ => exact ⟨a0, a1, a2, a3, rfl⟩
  have f0 : DataW.trod enc Tryz.prog W 0 (fun _ => true) true m 5 ((([c0, c1, c2, c3] : List Value).drop 0).take (Tryz.prog.cellsOf 5)) = some x0 := hg 0 _ rfl
  rw [show Tryz.prog.cellsOf 5 = 1 from (by kernel_rfl)] at f0
  change DataW.trod enc Tryz.prog W 0 (fun _ => true) true m 5 [c0] = some x0 at f0
  obtain ⟨v0, e0, -, w0⟩ := DataW.trod_int Tryz.underlying5 f0
  have g0 := List.singleton_inj.1 e0
  have f1 : DataW.trod enc Tryz.prog W 0 (fun _ => true) true m 5 ((([c0, c1, c2, c3] : List Value).drop 1).take (Tryz.prog.cellsOf 5)) = some x1 := hg 1 _ rfl
  rw [show Tryz.prog.cellsOf 5 = 1 from (by kernel_rfl)] at f1
  change DataW.trod enc Tryz.prog W 0 (fun _ => true) true m 5 [c1] = some x1 at f1
  obtain ⟨v1, e1, -, w1⟩ := DataW.trod_int Tryz.underlying5 f1
  have g1 := List.singleton_inj.1 e1
  have f2 : DataW.trod enc Tryz.prog W 0 (fun _ => true) true m 22 ((([c0, c1, c2, c3] : List Value).drop 2).take (Tryz.prog.cellsOf 22)) = some x2 := hg 2 _ rfl
  rw [show Tryz.prog.cellsOf 22 = 1 from (by kernel_rfl)] at f2
  change DataW.trod enc Tryz.prog W 0 (fun _ => true) true m 22 [c2] = some x2 at f2
  obtain ⟨pv, ps, e2, r2, q2, -⟩ := open_flat_cs (cells := fun y : ProgV => [y.v]) (wf := ProgV.wf W) 1 Tryz.underlying22 (by kernel_rfl) (by decide) (fun _ => rfl) (fun _ _ _ h => prog_of h) f2
  have g2 := List.singleton_inj.1 e2
  have f3 : DataW.trod enc Tryz.prog W 0 (fun _ => true) true m 23 ((([c0, c1, c2, c3] : List Value).drop 3).take (Tryz.prog.cellsOf 23)) = some x3 := hg 3 _ rfl
  rw [show Tryz.prog.cellsOf 23 = 1 from (by kernel_rfl)] at f3
  change DataW.trod enc Tryz.prog W 0 (fun _ => true) true m 23 [c3] = some x3 at f3
  obtain ⟨kv, pk, e3, r3, q3, -⟩ := open_flat_cs (cells := fun y : Int => [Value.int .i64 y]) (wf := fun y => (Lit.int .i64 y).wf = true) 1 Tryz.underlying23 (by kernel_rfl) (by decide) (fun _ => rfl) (fun _ _ _ h => by
    obtain ⟨u, e, -, w⟩ := DataW.trod_int Tryz.underlying3 h
    exact ⟨u, e, w⟩) f3
  have g3 := List.singleton_inj.1 e3
  subst g0 g1 g2 g3
  exact ⟨⟨v0, v1, _, ps, _, pk⟩, rfl, u8r w0, u8r w1, r2, q2, by rw [List.map_eq_flatMap]; exact r3, fun y hy => i64r (q3 y hy)⟩
end Go.Proofs.YtldjlcdccnnogaaGreat
