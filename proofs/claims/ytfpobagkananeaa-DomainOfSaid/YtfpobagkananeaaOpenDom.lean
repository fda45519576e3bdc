/- Arguments opened: a map from keys to domain values. The walks of the statements on domain, at the arguments that come in. -/
import Derived.Test.YtfpobagkananeaaOpenBase
import Derived.Test.YtfpobagkananeaaDomLaws
import Derived.Test.YtfpobagkananeaaOpenSpans
namespace Go.Proofs.Ytfpobagkananeaa
open Go.RowKit Go.Lf Go.ChangeShapes Go.WideShapes Go.ChangeAt

/-- A map as it comes in. -/
structure DomV where
  d : Dom
  a : Option Addr
  c : Nat
def DomV.val (z : DomV) : Value := dv z.d z.a z.c
structure DomArg (w : World) (z : DomV) : Prop where
  din : DomIn w z.d z.a z.c
  len : z.d.cuts.length ≤ maxLen

theorem open_ints_cs {H : Type} {enc : TypeId × Value → H} {P : Program} {W : World} {t e : TypeId} {k : IntKind} {n : Nat} {cs : List Value} {x : DataW H × List MemPlace} (ht : P.underlying t = some (.slice e)) (he : P.underlying e = some (.int k)) (hc : P.cellsOf e = 1)
    (hf : DataW.trod enc P W 0 (fun _ => true) true n t cs = some x) :
    ∃ (a : Option Addr) (zs : List Int) (cap : Nat), cs = [.slice a zs.length cap] ∧ Rd W 1 (.slice a zs.length cap) zs.length (zs.map (Value.int k)) ∧ (∀ n ∈ zs, (Lit.int k n).wf = true) ∧ zs.length ≤ maxLen := by
  rcases open_ints ht he hc hf with ⟨hcs, _⟩ | ⟨x, len, cap, zs, hcs, _, hl, hm, hz, _, hcell, hwz⟩
  · exact ⟨none, [], 0, hcs, ⟨_, _, rfl, by simp, .inl ⟨rfl, rfl, rfl⟩⟩, by simp, Nat.zero_le _⟩
  · have hz' : zs.length = cap := by simpa using hz
    have hlen : (zs.take len).length = len := by rw [List.length_take]; omega
    refine ⟨some x, zs.take len, cap, by rw [hlen]; exact hcs, ?_, fun n hn => hwz n (List.mem_of_mem_take hn), by omega⟩
    rw [hlen]
    obtain ⟨b, off, sp⟩ := x
    refine ⟨_, cap, rfl, by rw [List.length_map, hlen, Nat.mul_one], ?_⟩
    rcases Nat.eq_zero_or_pos zs.length with h0 | h0
    · rcases sp with _ | s
      · exact .inr <| .inr ⟨⟨_, rfl⟩, by omega⟩
      · exact .inr <| .inr ⟨⟨_, rfl⟩, by omega⟩
    · have h1 := hcell 0 h0
      have hsp : sp = none := by simpa [Addr.add] using World.cell?_spot h1
      subst hsp
      refine .inr <| .inl ⟨b, off, rfl, fun j u hu => ?_⟩
      rw [List.getElem?_map] at hu
      obtain ⟨y, hy, rfl⟩ := Option.map_eq_some_iff.1 hu
      have hj := (List.getElem?_eq_some_iff.1 hy).1
      have h2 := hcell j (by omega)
      rw [addr_add] at h2
      rw [h2]
      rw [List.getElem?_take] at hy
      split at hy
      · simp [hy]
      · cases hy

theorem U64.of_wf' {x : Int} (h : (Lit.int .u64 x).wf = true) : 0 ≤ x ∧ x ≤ topU := by
  simp [Lit.wf, IntKind.min, IntKind.max, IntKind.signed, IntKind.bits] at h
  exact ⟨by omega, by unfold topU; omega⟩

theorem open_Domain {H : Type} {enc : TypeId × Value → H} {W : World} {v : Value} {d : DataW H} {p : List MemPlace} {base : Nat}
    (hv : Value.okWide Try.prog W .any base 32 v) (h : DataW.Trod enc Try.prog W 0 (fun _ => true) true 32 v d p) :
    ∃ z : DomV, v = z.val ∧ DomArg W z := by
  obtain ⟨cs, rfl, hsz⟩ := okWide_struct Try.underlying32 hv
  obtain ⟨fuel, hf⟩ := h
  obtain ⟨xs, m, _, _, hl, hxl, hg⟩ := DataW.trod_struct Try.underlying32 hf
  simp only [Value.cells] at hl hg
  have hl' : cs.toList.length = 3 := hl.trans (by kernel_rfl)
  obtain ⟨x0, x1, x2, rfl⟩ : ∃ x0 x1 x2, xs = [x0, x1, x2] := by
    match xs, (show xs.length = 3 from hxl) with
    | [a0, a1, a2], _ => exact ⟨a0, a1, a2, rfl⟩
  have f0 : DataW.trod enc Try.prog W 0 (fun _ => true) true m 5 ((cs.toList.drop 0).take (Try.prog.cellsOf 5)) = some x0 := hg 0 _ rfl
  rw [show Try.prog.cellsOf 5 = 1 from (by kernel_rfl)] at f0
  obtain ⟨v0, e0, -, w0⟩ := DataW.trod_int Try.underlying5 f0
  have f1 : DataW.trod enc Try.prog W 0 (fun _ => true) true m 3 ((cs.toList.drop 1).take (Try.prog.cellsOf 3)) = some x1 := hg 1 _ rfl
  rw [show Try.prog.cellsOf 3 = 1 from (by kernel_rfl)] at f1
  obtain ⟨v1, e1, -, w1⟩ := DataW.trod_int Try.underlying3 f1
  have f2 : DataW.trod enc Try.prog W 0 (fun _ => true) true m 30 ((cs.toList.drop 2).take (Try.prog.cellsOf 30)) = some x2 := hg 2 _ rfl
  rw [show Try.prog.cellsOf 30 = 1 from (by kernel_rfl)] at f2
  obtain ⟨a, zs, cap, e2, hrd, hwf, hm⟩ := open_ints_cs Try.underlying30 Try.underlying22 (by kernel_rfl) f2
  have g0 := one_field e0
  have g1 := one_field e1
  have g2 := one_field e2
  refine ⟨⟨⟨v0, v1, zs⟩, a, cap⟩, ?_, ⟨⟨hrd, fun y hy => (U64.of_wf' (hwf y hy)).1, fun y hy => (U64.of_wf' (hwf y hy)).2⟩, hm⟩⟩
  obtain ⟨cl⟩ := cs
  simp only at g0 g1 g2 hl'
  match cl, hl' with
  | [c0, c1, c2], _ => simp at g0 g1 g2; subst g0 g1 g2; rfl

theorem law_least (w : World) (z : DomV) (b : DomArg w z) (v : Int) (_bv : (Lit.int .i64 v).wf = true) (x : Int) (bx : (Lit.int .u64 x).wf = true) :
    Calls Try.prog 5 #[z.val, .int .i64 v, .int .u64 x] w fun e w' => e = .returned (.bool true) ∧ Keep Nil w w' :=
  walk_least w z.d z.a z.c b.din b.len v x (U64.of_wf' bx).1 (U64.of_wf' bx).2
theorem law_images (w : World) (z : DomV) (b : DomArg w z) (s : SpanV) (bs : s.wf) :
    Calls Try.prog 6 #[z.val, .agg s.cells.toArray] w fun e w' => e = .returned (.bool true) ∧ Keep Nil w w' :=
  walk_images w z.d z.a z.c b.din b.len s.lo s.hi (U64.of_wf' bs.1).1 (U64.of_wf' bs.1).2 (U64.of_wf' bs.2).2
end Go.Proofs.Ytfpobagkananeaa
