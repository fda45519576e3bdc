/- GrW, GrL, GrE, GrC, in one text. -/
import Derived.Test.YtldjlcdccnnogaaGreatEvS
import Derived.Test.YtldjlcdccnnogaaGreatMembers
import Derived.Deep.DeepCutAuto

/-! grace: within, must, those, both, Least: the walks. -/
set_option linter.unusedVariables false
set_option linter.unusedSimpArgs false
namespace Go.Lf
theorem hasv_iff {set v : Int} (v0 : 0 ≤ v) : hasv set v = true ↔ v.toNat ∈ mems set.toNat 64 := by
  unfold hasv
  rw [mem_mems, Bool.and_eq_true, decide_eq_true_eq]
  exact and_congr (by omega) Iff.rfl
end Go.Lf
namespace Go.Proofs.YtldjlcdccnnogaaGreat
open Go.RowKit Go.Lf
section
variable {w w' : World}
set_option maxHeartbeats 4000000 in
theorem gwithin_ok (w : World) (set v : Int) (s0 : 0 ≤ set) (s1 : set < 18446744073709551616) (v0 : 0 ≤ v) (v1 : v < 18446744073709551616) : Calls Tryz.prog 19 #[.int .u64 set, .int .u64 v] w fun e w' => e = .returned (.bool (hasv set v)) ∧ Keep Nil w w' := by
  have HV := hid (hasv_iff (set := set) v0)
  obtain ⟨s, rfl⟩ : ∃ s : Nat, set = s := ⟨set.toNat, by omega⟩
  rw [Int.toNat_natCast] at HV
  have HM := hid (members_any s (by omega) w)
  have hb : ∀ x ∈ mems s 64, x < 64 := fun x hx => (mem_mems.1 hx).1
  have hl := mems_length s 64
  obtain ⟨M, hM⟩ : ∃ M, M = mems s 64 := ⟨_, rfl⟩
  rw [← hM] at HV HM hb hl
  obtain ⟨hv, hhv⟩ : ∃ hv, hv = hasv (s : Int) v := ⟨_, rfl⟩
  rw [← hhv] at HV ⊢
  have HB := hid hb
  clear hM hhv hb s0 s1
  go_enter Tryz.func19, Tryz.ntmps19
  go_wp2_with fail
  refine HM.out.mono ?_
  rintro e w1 ⟨vv, rfl, hrd, hk⟩
  obtain ⟨a, cp, rfl, -, -⟩ := id hrd
  have HRD := hid hrd
  have HK := hid hk
  clear hrd hk HM
  go_wp2
  go_loopw [10] (fun iv wz => ∃ k : Nat, k ≤ M.length ∧ iv = .int .i64 (k : Int) ∧ (∀ (j x : Nat), j < k → M[j]? = some x → x ≠ v.toNat) ∧ wz = w1) (fun iv _ => M.length - (intOf iv).toNat)
  case atStart => exact ⟨0, Nat.zero_le _, rfl, fun j x h => by omega, rfl⟩
  case round =>
    obtain ⟨k, hk, rfl, hno, rfl⟩ := hrel
    by_cases hlt : k < M.length
    · have i1 : ((k : Int) < (M.length : Int)) = True := eq_true (by omega)
      have d1 : decide ((k : Int) < (M.length : Int)) = true := decide_eq_true (by omega)
      have wi : IntKind.i64.wrap ((k : Int) + 1) = (k : Int) + 1 := by rw [IntKind.wrap_i64]; omega
      obtain ⟨x, hx⟩ : ∃ x, M[k]? = some x := ⟨_, List.getElem?_eq_getElem hlt⟩
      have hx64 := HB.out x (List.mem_of_getElem? hx)
      obtain ⟨ab, ao, ac, hve, hcl⟩ := Rd.cell HRD.out (by omega)
      simp only [Value.slice.injEq] at hve
      obtain ⟨rfl, -, rfl⟩ := hve
      have q0 : wr.cell? ⟨ab, ao + k, none⟩ = some (.int .i64 x) := hcl _ _ (nums_at hx)
      have wx : IntKind.u64.wrap (x : Int) = (x : Int) := by rw [IntKind.wrap_u64]; omega
      have i0 : (0 : Int) ≤ (k : Int) := by omega
      have HX := hid hx
      have HNO := hid hno
      clear hcl hx hno
      by_cases he : (x : Int) = v
      · have d2 : ((x : Int) == v) = true := beq_iff_eq.2 he
        go_wp2
        go_ret
        refine ⟨?_, HK.out⟩
        rw [HV.out.2 (by rw [← he]; exact List.mem_of_getElem? HX.out)]
        rfl
      · have d2 : ((x : Int) == v) = false := beq_eq_false_iff_ne.2 he
        go_wp2
        go_roundw
        case rel =>
          refine ⟨k + 1, by omega, by go_num, fun j y hj hy => ?_, by first | rfl | trivial⟩
          by_cases e : j = k
          · subst e
            have hh := HX.out
            rw [hy] at hh
            obtain rfl := Option.some.inj hh
            omega
          · exact HNO.out j y (by omega) hy
        case measure => simp [intOf]; omega
    · obtain rfl : k = M.length := by omega
      have i1 : ((M.length : Int) < (M.length : Int)) = False := eq_false (by omega)
      have d1 : decide ((M.length : Int) < (M.length : Int)) = false := decide_eq_false (by omega)
      have hf : hv = false := by
        cases hvv : hv with
        | false => rfl
        | true =>
          obtain ⟨j, hj⟩ := List.getElem?_of_mem (HV.out.1 hvv)
          exact absurd rfl (hno j _ (List.getElem?_eq_some_iff.1 hj).1 hj)
      subst hf
      go_wp2
      go_ret
      exact ⟨rfl, HK.out⟩
set_option maxHeartbeats 4000000 in
/-- The closure of must. -/
theorem gmust_ok (b1 b2 : Nat) (step set : Int) (h1 : w.heap[b1]? = some (.cells #[.int .i64 step] 3 (0, 0))) (h2 : w.heap[b2]? = some (.cells #[.int .u64 set] 41 (0, 0))) (s0 : 0 ≤ set) (s1 : set < 18446744073709551616) (t v a b : Int) (v0 : 0 ≤ v) (v1 : v < 18446744073709551616) :
    Calls Tryz.prog 44 #[.agg #[.int .i64 t, .int .u64 v, .int .i64 a, .int .i64 b], .pointer (some ⟨b1, 0, none⟩), .pointer (some ⟨b2, 0, none⟩)] w fun e w' => e = .returned (.bool (mustP step set ⟨t, v, a, b⟩)) ∧ Keep Nil w w' := by
  have kA : Keep Nil w (w.alloc (.cells #[.int .i64 t, .int .u64 v, .int .i64 a, .int .i64 b] 81 (0, 0))) := (Keep.refl Nil w).alloc _
  have hb := heap_alloc_new w (.cells #[.int .i64 t, .int .u64 v, .int .i64 a, .int .i64 b] 81 (0, 0))
  have hb1 := kA.at h1 (fun h => h)
  have hb2 := kA.at h2 (fun h => h)
  generalize hW : w.alloc (.cells #[.int .i64 t, .int .u64 v, .int .i64 a, .int .i64 b] 81 (0, 0)) = W at *
  have x1 : W.cell? ⟨w.heap.size, 1, none⟩ = some (.int .u64 v) := by rw [cell_of hb]; rfl
  have x2 : W.cell? ⟨w.heap.size, 2, none⟩ = some (.int .i64 a) := by rw [cell_of hb]; rfl
  have x3 : W.cell? ⟨w.heap.size, 3, none⟩ = some (.int .i64 b) := by rw [cell_of hb]; rfl
  have y1 : W.cell? ⟨b1, 0, none⟩ = some (.int .i64 step) := by rw [cell_of hb1]; rfl
  have y2 : W.cell? ⟨b2, 0, none⟩ = some (.int .u64 set) := by rw [cell_of hb2]; rfl
  have HA := hid kA
  have HWI := hid (gwithin_ok W set v s0 s1 v0 v1)
  have HW := hid hW
  clear h1 h2 hb hb1 hb2 kA
  unfold mustP
  simp only
  by_cases c1 : a < step
  · have e1 : decide (a < step) = true := decide_eq_true c1
    by_cases c2 : b < 0
    · have e2 : decide (b < 0) = true := decide_eq_true c2
      rw [e1, e2]
      go_enter Tryz.func44, Tryz.ntmps44
      go_wp2_with fail
      refine HWI.out.mono ?_
      rintro e w5 ⟨rfl, hk5⟩
      have hk := HA.out.trans hk5 (fun _ _ h => h)
      go_wp2
      go_ret
      exact ⟨by simp, hk⟩
    · have e2 : decide (b < 0) = false := decide_eq_false c2
      by_cases c3 : step ≤ b
      · have e3 : decide (step ≤ b) = true := decide_eq_true c3
        have e4 : decide (b ≥ step) = true := decide_eq_true c3
        rw [e1, e2, e3]
        go_enter Tryz.func44, Tryz.ntmps44
        go_wp2_with fail
        refine HWI.out.mono ?_
        rintro e w5 ⟨rfl, hk5⟩
        have hk := HA.out.trans hk5 (fun _ _ h => h)
        go_wp2
        go_ret
        exact ⟨by simp, hk⟩
      · have e3 : decide (step ≤ b) = false := decide_eq_false c3
        have e4 : decide (b ≥ step) = false := decide_eq_false c3
        rw [e1, e2, e3]
        go_enter Tryz.func44, Tryz.ntmps44
        go_wp2
        go_ret
        exact ⟨rfl, HA.out⟩
  · have e1 : decide (a < step) = false := decide_eq_false c1
    rw [e1]
    go_enter Tryz.func44, Tryz.ntmps44
    go_wp2
    go_ret
    exact ⟨rfl, HA.out⟩
end
end Go.Proofs.YtldjlcdccnnogaaGreat

/-! grace: those, both, Least: the walks. -/
set_option linter.unusedVariables false
set_option linter.unusedSimpArgs false
namespace Go.Proofs.YtldjlcdccnnogaaGreat
open Go.RowKit Go.Lf
def RowIs (w w' : World) (T : TypeId) (l : List PrR) (v : Value) : Prop := w'.ownsRow 0 T 4 v l.length (prCells l) ∧ ∀ k, v.ownBlock = some k → w.heap.size ≤ k
def ThoseTo (w : World) (l : List PrR) (e : Ending) (w' : World) : Prop := ∃ a cp, e = .returned (.slice a l.length cp) ∧ RowIs w w' 81 l (.slice a l.length cp) ∧ Keep Nil w w'
section
variable {w w' : World}
theorem filter_take_one {α : Type} {f : α → Bool} {l : List α} {k : Nat} {x : α} (h : l[k]? = some x) : (l.take (k + 1)).filter f = (l.take k).filter f ++ (if f x then [x] else []) := by
  rw [List.take_add_one, h]
  simp only [Option.toList_some, List.filter_append, List.filter_cons, List.filter_nil]
set_option maxRecDepth 100000 in
set_option maxHeartbeats 8000000 in
theorem gthose_ok (l : List PrR) (v : Value) (rd : Rd w 4 v l.length (prCells l)) (hm : l.length ≤ 100000) (hv : ∀ p ∈ l, 0 ≤ p.val ∧ p.val < 18446744073709551616) (b1 b2 : Nat) (step set : Int) (h1 : w.heap[b1]? = some (.cells #[.int .i64 step] 3 (0, 0))) (h2 : w.heap[b2]? = some (.cells #[.int .u64 set] 41 (0, 0))) (s0 : 0 ≤ set) (s1 : set < 18446744073709551616) :
    Calls Tryz.prog 21 #[v, .func (.func 44) #[] #[.pointer (some ⟨b1, 0, none⟩), .pointer (some ⟨b2, 0, none⟩)]] w (ThoseTo w (l.filter (mustP step set))) := by
  obtain ⟨a, cp, rfl, -, -⟩ := id rd
  have HRD := hid rd
  have HB1 := hid h1
  have HB2 := hid h2
  have HV := hid hv
  have HSS := hid (And.intro s0 s1)
  obtain ⟨f, hf⟩ : ∃ f, f = mustP step set := ⟨_, rfl⟩
  rw [← hf]
  have HF := hid hf
  have HK0 := hid (Keep.refl Nil w)
  clear rd h1 h2 hv s0 s1 hf
  go_enter Tryz.func21, Tryz.ntmps21
  go_wp2
  go_loopw [5, 10] (fun ov iv wz => ∃ (k : Nat) (vo : Value), k ≤ l.length ∧ iv = .int .i64 (k : Int) ∧ ov = vo ∧ Hid (RowIs w wz 81 ((l.take k).filter f) vo) ∧ Keep Nil w wz) (fun _ iv _ => l.length - (intOf iv).toNat)
  case atStart => exact ⟨0, _, Nat.zero_le _, rfl, rfl, hid ⟨World.ownsRow_nil _ _ _ _, fun q e => by cases e⟩, HK0.out⟩
  case round =>
    obtain ⟨k, vo, hk, rfl, hvo, HR, hkp⟩ := hrel
    obtain rfl : vo = _ := hvo.symm
    have HKP := hid hkp
    clear hkp
    by_cases hlt : k < l.length
    · have i1 : ((k : Int) < (l.length : Int)) = True := eq_true (by omega)
      have d1 : decide ((k : Int) < (l.length : Int)) = true := decide_eq_true (by omega)
      have wi : IntKind.i64.wrap ((k : Int) + 1) = (k : Int) + 1 := by rw [IntKind.wrap_i64]; omega
      obtain ⟨x, hx⟩ : ∃ x, l[k]? = some x := ⟨_, List.getElem?_eq_getElem hlt⟩
      have hxv := HV.out x (List.mem_of_getElem? hx)
      obtain ⟨ab, ao, ac, hve, hcl⟩ := Rd.cell HRD.out (by omega)
      simp only [Value.slice.injEq] at hve
      obtain ⟨rfl, -, rfl⟩ := hve
      have q : ∀ j u, x.cells[j]? = some u → wr.cell? ⟨ab, ao + k * 4 + j, none⟩ = some u := fun j u hu => by rw [Nat.add_assoc]; exact HKP.out.cell (hcl _ _ (prCells_at hx hu)) (fun h => h)
      have HTK := hid (filter_take_one (f := f) hx)
      obtain ⟨t, u, s, b⟩ := x
      have q0 : wr.cell? ⟨ab, ao + k * 4, none⟩ = some (.int .i64 t) := q 0 _ rfl
      have q1 : wr.cell? ⟨ab, ao + k * 4 + 1, none⟩ = some (.int .u64 u) := q 1 _ rfl
      have q2 : wr.cell? ⟨ab, ao + k * 4 + 2, none⟩ = some (.int .i64 s) := q 2 _ rfl
      have q3 : wr.cell? ⟨ab, ao + k * 4 + 3, none⟩ = some (.int .i64 b) := q 3 _ rfl
      have i0 : (0 : Int) ≤ (k : Int) := by omega
      have HMU := hid (fun (W : World) (hk' : Keep Nil w W) => gmust_ok (w := W) b1 b2 step set (hk'.at HB1.out (fun h => h)) (hk'.at HB2.out (fun h => h)) HSS.out.1 HSS.out.2 t u s b hxv.1 hxv.2)
      rw [← HF.out] at HMU
      clear q hcl hx hxv
      go_upto_region 5 with fail
      obtain ⟨W, hW⟩ : ∃ W, W = wr.alloc (.cells #[.int .i64 t, .int .u64 u, .int .i64 s, .int .i64 b] 81) := ⟨_, rfl⟩
      rw [← hW]
      have hkW : Keep Nil wr W := hW ▸ (Keep.refl Nil wr).alloc _
      have hxb : W.heap[wr.heap.size]? = some (.cells #[.int .i64 t, .int .u64 u, .int .i64 s, .int .i64 b] 81 (0, 0)) := hW ▸ heap_alloc_new wr _
      obtain ⟨xb, hxbe⟩ : ∃ xb, xb = wr.heap.size := ⟨_, rfl⟩
      rw [← hxbe] at hxb ⊢
      have HKW := hid (HKP.out.trans hkW (fun _ _ h => h))
      have HRW := hid (show RowIs w W 81 ((l.take k).filter f) vo from ⟨row_keep HR.out.1 hkW (fun _ _ h => h), HR.out.2⟩)
      have HXB := hid hxb
      have x0 : W.cell? ⟨xb, 0, none⟩ = some (.int .i64 t) := by rw [cell_of hxb]; rfl
      have x1 : W.cell? ⟨xb, 1, none⟩ = some (.int .u64 u) := by rw [cell_of hxb]; rfl
      have x2 : W.cell? ⟨xb, 2, none⟩ = some (.int .i64 s) := by rw [cell_of hxb]; rfl
      have x3 : W.cell? ⟨xb, 3, none⟩ = some (.int .i64 b) := by rw [cell_of hxb]; rfl
      have zx : xb < W.heap.size := lt_of_block hxb
      clear hW hkW hxb hxbe q0 q1 q2 q3
      go_wp2_with fail
      refine (HMU.out W HKW.out).mono ?_
      rintro e w3 ⟨rfl, hk3⟩
      have HK3 := hid (HKW.out.trans hk3 (fun _ _ h => h))
      have HR3 := hid (show RowIs w w3 81 ((l.take k).filter f) vo from ⟨row_keep HRW.out.1 hk3 (fun _ _ h => h), HRW.out.2⟩)
      have x0 := hk3.cell x0 (fun h => h)
      have x1 := hk3.cell x1 (fun h => h)
      have x2 := hk3.cell x2 (fun h => h)
      have x3 := hk3.cell x3 (fun h => h)
      have zx : xb < w3.heap.size := by have := hk3.size; omega
      clear hk3 HMU HRW
      obtain ⟨fb, hfb⟩ : ∃ fb, fb = f ⟨t, u, s, b⟩ := ⟨_, rfl⟩
      rw [← hfb] at HTK ⊢
      clear hfb
      cases fb with
      | false =>
        as_aux_lemma =>
          have HF2 := hid (show RowIs w w3 81 ((l.take (k + 1)).filter f) vo by rw [HTK.out]; simpa using HR3.out)
          go_wp2
          go_roundw
          case rel => exact ⟨k + 1, _, by omega, by go_num, rfl, HF2, HK3.out⟩
          case measure => simp [intOf]; omega
      | true =>
        as_aux_lemma =>
          obtain ⟨m, hm'⟩ : ∃ m, m = (l.take k).filter f := ⟨_, rfl⟩
          rw [← hm'] at HR3 HTK
          have hlen : m.length ≤ k := by rw [hm']; exact Nat.le_trans (List.length_filter_le _ _) (by rw [List.length_take]; omega)
          obtain ⟨oa, oc, rfl⟩ := row_slice HR3.out.1
          clear hm'
          go_wp2_with (at_builtin; refine wpList_app _ rfl _ _ 71 rfl 81 _ 4 32 Tryz.underlying71 infoSection rfl (by decide) (.slice oa m.length oc) m.length (prCells m) rfl ?own _ 1 [.int .i64 t, .int .u64 u, .int .i64 s, .int .i64 b] rfl ?rd ?one ?byt ?len ?_)
          case own => exact row_keep HR3.out.1 ((Keep.refl Nil w3).alloc _) (fun _ _ h => h)
          case rd => exact rd_new _ _ _ _ _ _
          case one => simp [Value.oneCell']
          case byt => omega
          case len => unfold maxLen; omega
          intro a3 c3 w5 ho hg hs
          have hk5 : Keep (fun k => (Value.slice oa m.length oc).ownBlock = some k) w3 w5 := Keep.grown ((Keep.refl _ w3).alloc _) hg (fun j hj => .inl hj)
          have HF2 := hid (show RowIs w w5 81 ((l.take (k + 1)).filter f) (.slice a3 (m.length + 1) c3) from by
            rw [HTK.out]
            simp only [if_true]
            refine ⟨by rw [List.length_append, prCells_snoc]; exact ho, fun q hq => ?_⟩
            rcases hs q hq with e | e
            · exact HR3.out.2 q e
            · have h3 := HK3.out.size; simp at e; omega)
          have HK5 := hid (HK3.out.trans hk5 (fun q hq e => by have := HR3.out.2 q e; omega))
          clear ho hg hs hk5
          go_wp2
          go_roundw
          case rel => exact ⟨k + 1, _, by omega, by go_num, rfl, HF2, HK5.out⟩
          case measure => simp [intOf]; omega
    · obtain rfl : k = l.length := by omega
      have i1 : ((l.length : Int) < (l.length : Int)) = False := eq_false (by omega)
      have d1 : decide ((l.length : Int) < (l.length : Int)) = false := decide_eq_false (by omega)
      rw [List.take_length] at HR
      obtain ⟨oa, oc, rfl⟩ := row_slice HR.out.1
      go_wp2
      go_ret
      exact ⟨oa, oc, rfl, HR.out, HKP.out⟩
def BothTo (w : World) (l : List EvR) (e : Ending) (w' : World) : Prop := ∃ a cp b cq, e = .returned (.tuple #[.slice a (prs 1 2 l).length cp, .slice b (prs 3 4 l).length cq, .int .i64 0]) ∧ RowIs w w' 81 (prs 1 2 l) (.slice a (prs 1 2 l).length cp) ∧ RowIs w w' 76 (prs 3 4 l) (.slice b (prs 3 4 l).length cq) ∧ Keep Nil w w'
set_option maxHeartbeats 2000000 in
theorem gboth_ok (l : List EvR) (h : EvGood l) (v : Value) (rd : Rd w 4 v l.length (evCells l)) (hm : l.length ≤ 100000) : Calls Tryz.prog 20 #[v] w (BothTo w l) := by
  have HS := hid (Sections_ok l h v rd hm)
  have HW := hid (fun (W : World) (hk : Keep Nil w W) => Waits_ok (w := W) l h v (rd_keep rd hk (fun _ _ h => h)) hm)
  clear rd h
  go_enter Tryz.func20, Tryz.ntmps20
  go_wp2_with fail
  refine HS.out.mono ?_
  rintro e w1 ⟨a, cp, rfl, h1, h2, h3⟩
  have H1 := hid (And.intro h1 (And.intro h2 h3))
  clear h1 h2 h3
  go_wp2_with fail
  refine (HW.out w1 H1.out.2.1).mono ?_
  rintro e w2 ⟨b, cq, rfl, h1, h2, h3⟩
  have H2 := hid (And.intro h1 (And.intro h2 h3))
  clear h1 h2 h3
  go_wp2
  go_ret3
  exact ⟨a, cp, b, cq, rfl, ⟨row_keep H1.out.1 H2.out.2.1 (fun _ _ h => h), H1.out.2.2⟩, ⟨H2.out.1, fun k hk => Nat.le_trans H1.out.2.1.size (H2.out.2.2 k hk)⟩, H1.out.2.1.trans H2.out.2.1 (fun _ _ h => h)⟩
end
end Go.Proofs.YtldjlcdccnnogaaGreat

/-! grace.Least: the walk. -/
set_option linter.unusedVariables false
set_option linter.unusedSimpArgs false
namespace Go.Lf
theorem leastF_drop {acc : Int} {L : List PrR} {k : Nat} {p : PrR} (h : L[k]? = some p) : leastF acc (L.drop k) = if p.b < 0 then -1 else leastF (max acc (p.b + 1)) (L.drop (k + 1)) := by
  have hk := (List.getElem?_eq_some_iff.1 h).1
  rw [← List.getElem_cons_drop (h := hk), (List.getElem?_eq_some_iff.1 h).2]
  rfl
end Go.Lf
namespace Go.Proofs.YtldjlcdccnnogaaGreat
open Go.RowKit Go.Lf
def LeastTo (w : World) (l : List EvR) (e : Ending) (w' : World) : Prop := ∃ a cp, e = .returned (.tuple #[.slice a (leasts l).length cp, .int .i64 0]) ∧ w'.ownsRow 0 3 1 (.slice a (leasts l).length cp) (leasts l).length ((leasts l).map (Value.int .i64)) ∧ Keep Nil w w'
def MustTo (w : World) (step set : Int) (e : Ending) (w' : World) : Prop := ∃ b1 b2, e = .returned (.func (.func 44) #[] #[.pointer (some ⟨b1, 0, none⟩), .pointer (some ⟨b2, 0, none⟩)]) ∧ w'.heap[b1]? = some (.cells #[.int .i64 step] 3 (0, 0)) ∧ w'.heap[b2]? = some (.cells #[.int .u64 set] 41 (0, 0)) ∧ Keep Nil w w'
structure LRow (w wz : World) (v : Value) (l : List Int) : Prop where
  row : wz.ownsRow 0 3 1 v l.length (l.map (Value.int .i64))
  own : ∀ q, v.ownBlock = some q → w.heap.size ≤ q
  kp : Keep Nil w wz
theorem infoIntL : (Tryz.prog.info? 3).map (fun i => (i.zero, i.size, i.bytes)) = some (some (.int .i64 0), 1, 8) := by kernel_rfl
section
variable {w w' : World}
theorem LRow.quiet {wz : World} {v : Value} {l : List Int} (h : LRow w wz v l) (hk : Keep Nil wz w') : LRow w w' v l := ⟨row_keep h.row hk (fun _ _ h => h), h.own, h.kp.trans hk (fun _ _ h => h)⟩
set_option maxHeartbeats 1000000 in
theorem gmustmk_ok (step set : Int) (w : World) : Calls Tryz.prog 22 #[.int .i64 step, .int .u64 set] w (MustTo w step set) := by
  have h1 := heap_alloc_new w (.cells #[.int .i64 step] 3 (0, 0))
  have h2 := heap_alloc_new (w.alloc (.cells #[.int .i64 step] 3 (0, 0))) (.cells #[.int .u64 set] 41 (0, 0))
  have H1 := hid (alloc_old h1 (.cells #[.int .u64 set] 41 (0, 0)))
  rw [World.size_alloc] at h2
  have H2 := hid h2
  have HK := hid (((Keep.refl Nil w).alloc (.cells #[.int .i64 step] 3 (0, 0))).alloc (.cells #[.int .u64 set] 41 (0, 0)))
  clear h1 h2
  go_enter Tryz.func22, Tryz.ntmps22
  go_wp2
  go_ret
  exact ⟨_, _, rfl, H1.out, H2.out, HK.out⟩
set_option maxRecDepth 100000 in
set_option maxHeartbeats 8000000 in
theorem gleast_ok (l : List EvR) (h : EvGood l) (v : Value) (rd : Rd w 4 v l.length (evCells l)) (hm : l.length ≤ 100000) : Calls Tryz.prog 10 #[v] w (LeastTo w l) := by
  have HBO := hid (gboth_ok l h v rd hm)
  have I1 := PrInv.of (bk := 1) (ek := 2) (.inl ⟨rfl, rfl⟩) h
  have I3 := PrInv.of (bk := 3) (ek := 4) (.inr ⟨rfl, rfl⟩) h
  have HB1 := hid I1.bd
  have HB3 := hid I3.bd
  have HL1 := hid I1.len
  have HL3 := hid I3.len
  obtain ⟨A, hA⟩ : ∃ A, A = prs 1 2 l := ⟨_, rfl⟩
  obtain ⟨B, hB⟩ : ∃ B, B = prs 3 4 l := ⟨_, rfl⟩
  have HLE := hid (show leasts l = B.map fun w => leastF w.a (A.filter (mustP w.a w.val)) by rw [hA, hB]; rfl)
  unfold BothTo at HBO
  change Hid (∀ (i : Nat) (p : PrR), (prs 1 2 l)[i]? = some p → _) at HB1
  change Hid (∀ (i : Nat) (p : PrR), (prs 3 4 l)[i]? = some p → _) at HB3
  change Hid ((prs 1 2 l).length ≤ _) at HL1
  change Hid ((prs 3 4 l).length ≤ _) at HL3
  rw [← hA] at HBO HB1 HL1
  rw [← hB] at HBO HB3 HL3
  unfold LeastTo
  rw [HLE.out]
  clear rd h I1 I3 hA hB HLE
  have HAV := hid (show ∀ p ∈ A, 0 ≤ p.val ∧ p.val < 18446744073709551616 from fun p hp => by
    obtain ⟨i, hi⟩ := List.getElem?_of_mem hp
    have := HB1.out i p hi
    omega)
  have hB5 : B.length ≤ 100000 := by have := HL3.out; omega
  have HA5 := hid (show A.length ≤ 100000 by have := HL1.out; omega)
  go_enter Tryz.func10, Tryz.ntmps10
  go_wp2_with fail
  refine HBO.out.mono ?_
  rintro e w1 ⟨a, cp, b, cq, rfl, h1, h2, h3⟩
  have HRA := hid h1.1
  have HRB := hid h2.1
  have HL0 := hid (show LRow w1 w1 (.slice none 0 0) ((B.take 0).map fun w => leastF w.a (A.filter (mustP w.a w.val))) from ⟨World.ownsRow_nil _ _ _ _, fun q e => (by cases e), Keep.refl Nil w1⟩)
  have HK1 := hid h3
  clear h1 h2 h3 HBO
  go_wp2
  go_loopw [7, 24] (fun ov iv wz => ∃ (k : Nat) (vo : Value), k ≤ B.length ∧ iv = .int .i64 (k : Int) ∧ ov = vo ∧ Hid (LRow w1 wz vo ((B.take k).map fun w => leastF w.a (A.filter (mustP w.a w.val))))) (fun _ iv _ => B.length - (intOf iv).toNat)
  case atStart => exact ⟨0, _, Nat.zero_le _, rfl, rfl, HL0⟩
  case round =>
    obtain ⟨k, vo, hk, rfl, hvo, HR⟩ := hrel
    obtain rfl : vo = _ := hvo.symm
    have HKP := hid HR.out.kp
    clear HL0
    by_cases hlt : k < B.length
    · have i1 : ((k : Int) < (B.length : Int)) = True := eq_true (by omega)
      have d1 : decide ((k : Int) < (B.length : Int)) = true := decide_eq_true (by omega)
      have wi : IntKind.i64.wrap ((k : Int) + 1) = (k : Int) + 1 := by rw [IntKind.wrap_i64]; omega
      obtain ⟨x, hx⟩ : ∃ x, B[k]? = some x := ⟨_, List.getElem?_eq_getElem hlt⟩
      have HXB := hid (HB3.out k x hx)
      obtain ⟨ab, ao, ac, hve, hcl⟩ := Rd.cell (row_rd HRB.out) (by omega)
      simp only [Value.slice.injEq] at hve
      obtain ⟨rfl, -, rfl⟩ := hve
      have q : ∀ j u, x.cells[j]? = some u → wr.cell? ⟨ab, ao + k * 4 + j, none⟩ = some u := fun j u hu => by rw [Nat.add_assoc]; exact HKP.out.cell (hcl _ _ (prCells_at hx hu)) (fun h => h)
      have HTK := hid (show (B.take (k + 1)).map (fun w => leastF w.a (A.filter (mustP w.a w.val))) = (B.take k).map (fun w => leastF w.a (A.filter (mustP w.a w.val))) ++ [leastF x.a (A.filter (mustP x.a x.val))] by rw [take_snoc_ev hx, List.map_append]; rfl)
      obtain ⟨t, u, s, b0⟩ := x
      have q0 : wr.cell? ⟨ab, ao + k * 4, none⟩ = some (.int .i64 t) := q 0 _ rfl
      have q1 : wr.cell? ⟨ab, ao + k * 4 + 1, none⟩ = some (.int .u64 u) := q 1 _ rfl
      have q2 : wr.cell? ⟨ab, ao + k * 4 + 2, none⟩ = some (.int .i64 s) := q 2 _ rfl
      have q3 : wr.cell? ⟨ab, ao + k * 4 + 3, none⟩ = some (.int .i64 b0) := q 3 _ rfl
      have i0 : (0 : Int) ≤ (k : Int) := by omega
      clear q hcl hx
      go_upto_region 8 with fail
      obtain ⟨W, hW⟩ : ∃ W, W = wr.alloc (.cells #[.int .i64 t, .int .u64 u, .int .i64 s, .int .i64 b0] 76) := ⟨_, rfl⟩
      rw [← hW]
      have hkW : Keep Nil wr W := hW ▸ (Keep.refl Nil wr).alloc _
      have hxb : W.heap[wr.heap.size]? = some (.cells #[.int .i64 t, .int .u64 u, .int .i64 s, .int .i64 b0] 76 (0, 0)) := hW ▸ heap_alloc_new wr _
      obtain ⟨xb, hxbe⟩ : ∃ xb, xb = wr.heap.size := ⟨_, rfl⟩
      rw [← hxbe] at hxb ⊢
      have HKW := hid (HKP.out.trans hkW (fun _ _ h => h))
      have HRW := hid (HR.out.quiet hkW)
      have x1 : W.cell? ⟨xb, 1, none⟩ = some (.int .u64 u) := by rw [cell_of hxb]; rfl
      have x2 : W.cell? ⟨xb, 2, none⟩ = some (.int .i64 s) := by rw [cell_of hxb]; rfl
      have zx : xb < W.heap.size := lt_of_block hxb
      clear hW hkW hxb hxbe q0 q1 q2 q3 HR
      go_wp2_with fail
      refine (gmustmk_ok s u W).mono ?_
      rintro e w3 ⟨b1, b2, rfl, hb1, hb2, hk3⟩
      have HK3 := hid (HKW.out.trans hk3 (fun _ _ h => h))
      have HR3 := hid (HRW.out.quiet hk3)
      have HTH := hid (gthose_ok (w := w3) A _ (rd_keep (row_rd HRA.out) HK3.out (fun _ _ h => h)) HA5.out HAV.out b1 b2 s u hb1 hb2 HXB.out.2.2.2.1 HXB.out.2.2.2.2.1)
      obtain ⟨M, hM⟩ : ∃ M, M = A.filter (mustP s u) := ⟨_, rfl⟩
      change Hid (_ = _ ++ [leastF s (A.filter (mustP s u))]) at HTK
      rw [← hM] at HTH HTK
      have HMB := hid (show ∀ (i : Nat) (p : PrR), M[i]? = some p → p.b < 1000000 from fun i p hp => by
        rw [hM] at hp
        obtain ⟨j, hj⟩ := List.getElem?_of_mem ((List.mem_filter.1 (List.mem_of_getElem? hp)).1)
        exact (HB1.out j p hj).2.2.1)
      have hML : M.length ≤ 100000 := by rw [hM]; exact Nat.le_trans (List.length_filter_le _ _) HA5.out
      have hs0 := HXB.out.1
      have hs1 := HXB.out.2.1
      clear hk3 hb1 hb2 HRW hM x1 x2 zx HKW HXB
      go_wp2_with fail
      refine HTH.out.mono ?_
      rintro e w4 ⟨fa, fc, rfl, hf4, hk4⟩
      have HK4 := hid (HK3.out.trans hk4 (fun _ _ h => h))
      have HR4 := hid (HR3.out.quiet hk4)
      have HF4 := hid hf4.1
      have HKI := hid (Keep.refl Nil w4)
      clear hk4 hf4 HR3 HK3 HTH
      go_wp2
      go_loopw [10, 38] (fun av jv wz => ∃ (j : Nat) (acc : Int), j ≤ M.length ∧ jv = .int .i64 (j : Int) ∧ av = .int .i64 acc ∧ 0 ≤ acc ∧ acc ≤ 1000000 ∧ leastF s M = leastF acc (M.drop j) ∧ Keep Nil w4 wz) (fun _ jv _ => M.length - (intOf jv).toNat)
      case atStart => exact ⟨0, s, Nat.zero_le _, rfl, rfl, hs0, by omega, rfl, HKI.out⟩
      case round =>
        obtain ⟨j, acc, hj, rfl, rfl, ha0, ha1, hle, hkj⟩ := hrel
        have HKJ := hid hkj
        clear hkj HKI
        by_cases hjl : j < M.length
        · have i2 : ((j : Int) < (M.length : Int)) = True := eq_true (by omega)
          have d2 : decide ((j : Int) < (M.length : Int)) = true := decide_eq_true (by omega)
          have wj : IntKind.i64.wrap ((j : Int) + 1) = (j : Int) + 1 := by rw [IntKind.wrap_i64]; omega
          obtain ⟨p, hp⟩ : ∃ p, M[j]? = some p := ⟨_, List.getElem?_eq_getElem hjl⟩
          have hpb := HMB.out j p hp
          rw [leastF_drop hp] at hle
          obtain ⟨fb, fo, fcc, hve, hcl⟩ := Rd.cell (row_rd HF4.out) (by omega)
          simp only [Value.slice.injEq] at hve
          obtain ⟨rfl, -, rfl⟩ := hve
          have q : ∀ i u, p.cells[i]? = some u → wr.cell? ⟨fb, fo + j * 4 + i, none⟩ = some u := fun i u hu => by rw [Nat.add_assoc]; exact HKJ.out.cell (hcl _ _ (prCells_at hp hu)) (fun h => h)
          obtain ⟨pt, pv, ps, pe⟩ := p
          have p0 : wr.cell? ⟨fb, fo + j * 4, none⟩ = some (.int .i64 pt) := q 0 _ rfl
          have p1 : wr.cell? ⟨fb, fo + j * 4 + 1, none⟩ = some (.int .u64 pv) := q 1 _ rfl
          have p2 : wr.cell? ⟨fb, fo + j * 4 + 2, none⟩ = some (.int .i64 ps) := q 2 _ rfl
          have p3 : wr.cell? ⟨fb, fo + j * 4 + 3, none⟩ = some (.int .i64 pe) := q 3 _ rfl
          have j0 : (0 : Int) ≤ (j : Int) := by omega
          simp only at hpb hle
          clear q hcl hp
          go_upto_region 12 with fail
          obtain ⟨V, hV⟩ : ∃ V, V = wr.alloc (.cells #[.int .i64 pt, .int .u64 pv, .int .i64 ps, .int .i64 pe] 81) := ⟨_, rfl⟩
          rw [← hV]
          have hkV : Keep Nil wr V := hV ▸ (Keep.refl Nil wr).alloc _
          have hvb : V.heap[wr.heap.size]? = some (.cells #[.int .i64 pt, .int .u64 pv, .int .i64 ps, .int .i64 pe] 81 (0, 0)) := hV ▸ heap_alloc_new wr _
          obtain ⟨vb, hvbe⟩ : ∃ vb, vb = wr.heap.size := ⟨_, rfl⟩
          rw [← hvbe] at hvb ⊢
          have v3 : V.cell? ⟨vb, 3, none⟩ = some (.int .i64 pe) := by rw [cell_of hvb]; rfl
          have zv : vb < V.heap.size := lt_of_block hvb
          have HKV := hid (HKJ.out.trans hkV (fun _ _ h => h))
          clear hV hkV hvb hvbe p0 p1 p2 p3 HKJ
          by_cases hpe : pe < 0
          · as_aux_lemma =>
              have d3 : decide (pe < 0) = true := decide_eq_true hpe
              rw [if_pos hpe] at hle
              have HR5 := hid (HR4.out.quiet HKV.out)
              rw [hle] at HTK
              obtain ⟨m, hm'⟩ : ∃ m, m = (B.take k).map (fun w => leastF w.a (A.filter (mustP w.a w.val))) := ⟨_, rfl⟩
              rw [← hm'] at HR5 HTK
              have hmk : m.length ≤ k := by rw [hm', List.length_map, List.length_take]; omega
              obtain ⟨oa, oc, rfl⟩ := row_slice HR5.out.row
              clear hm' hle
              go_wp2_with (at_builtin; refine wpList_app _ rfl _ _ 23 rfl 3 _ 1 8 Tryz.underlying23 infoIntL rfl (by decide) (.slice oa m.length oc) m.length (m.map (Value.int .i64)) rfl ?own _ 1 [.int .i64 (-1)] rfl ?rd ?one ?byt ?len ?_)
              case own => exact row_keep HR5.out.row ((Keep.refl Nil V).alloc _) (fun _ _ h => h)
              case rd => exact rd_new _ _ _ _ _ _
              case one => simp [Value.oneCell']
              case byt => omega
              case len => unfold maxLen; omega
              intro a3 c3 w5 ho hg hs
              have hk5 : Keep (fun k => (Value.slice oa m.length oc).ownBlock = some k) V w5 := Keep.grown ((Keep.refl _ V).alloc _) hg (fun j hj => .inl hj)
              have HF := hid (show LRow w1 w5 (.slice a3 (m.length + 1) c3) ((B.take (k + 1)).map fun w => leastF w.a (A.filter (mustP w.a w.val))) from by
                rw [HTK.out]
                refine ⟨by rw [List.length_append, List.map_append]; exact ho, fun q hq => ?_, HR5.out.kp.trans hk5 (fun q hq e => by have := HR5.out.own q e; omega)⟩
                rcases hs q hq with e | e
                · exact HR5.out.own q e
                · have h3 := HR5.out.kp.size; simp at e; omega)
              clear ho hg hs hk5
              go_wp2
              go_roundw
              case rel => exact ⟨k + 1, _, by omega, by go_num, rfl, HF⟩
              case measure => simp [intOf]; omega
          · as_aux_lemma =>
              have d3 : decide (pe < 0) = false := decide_eq_false hpe
              rw [if_neg hpe] at hle
              have we : IntKind.i64.wrap (pe + 1) = pe + 1 := by rw [IntKind.wrap_i64]; omega
              obtain ⟨mx, hmx⟩ : ∃ mx, mx = max acc (pe + 1) := ⟨_, rfl⟩
              rw [← hmx] at hle
              have m1 : (if acc < pe + 1 then pe + 1 else acc) = mx := by rw [hmx]; omega
              have m2 : (if mx < pe then pe else mx) = mx := by rw [hmx]; omega
              have hm0 : 0 ≤ mx ∧ mx ≤ 1000000 := by omega
              have HLE := hid hle
              clear hle hmx
              go_wp2
              go_roundw
              case rel => exact ⟨j + 1, mx, by omega, by go_num, by go_num, hm0.1, hm0.2, HLE.out, HKV.out⟩
              case measure => simp [intOf]; omega
        · as_aux_lemma =>
            obtain rfl : j = M.length := by omega
            have i2 : ((M.length : Int) < (M.length : Int)) = False := eq_false (by omega)
            have d2 : decide ((M.length : Int) < (M.length : Int)) = false := decide_eq_false (by omega)
            rw [List.drop_length] at hle
            have hle2 : leastF s M = acc := hle
            have HR5 := hid (HR4.out.quiet HKJ.out)
            rw [hle2] at HTK
            obtain ⟨m, hm'⟩ : ∃ m, m = (B.take k).map (fun w => leastF w.a (A.filter (mustP w.a w.val))) := ⟨_, rfl⟩
            rw [← hm'] at HR5 HTK
            have hmk : m.length ≤ k := by rw [hm', List.length_map, List.length_take]; omega
            obtain ⟨oa, oc, rfl⟩ := row_slice HR5.out.row
            clear hm' hle hle2
            go_wp2_with (at_builtin; refine wpList_app _ rfl _ _ 23 rfl 3 _ 1 8 Tryz.underlying23 infoIntL rfl (by decide) (.slice oa m.length oc) m.length (m.map (Value.int .i64)) rfl ?own _ 1 [.int .i64 acc] rfl ?rd ?one ?byt ?len ?_)
            case own => exact row_keep HR5.out.row ((Keep.refl Nil wr).alloc _) (fun _ _ h => h)
            case rd => exact rd_new _ _ _ _ _ _
            case one => simp [Value.oneCell']
            case byt => omega
            case len => unfold maxLen; omega
            intro a3 c3 w5 ho hg hs
            have hk5 : Keep (fun k => (Value.slice oa m.length oc).ownBlock = some k) wr w5 := Keep.grown ((Keep.refl _ wr).alloc _) hg (fun j hj => .inl hj)
            have HF := hid (show LRow w1 w5 (.slice a3 (m.length + 1) c3) ((B.take (k + 1)).map fun w => leastF w.a (A.filter (mustP w.a w.val))) from by
              rw [HTK.out]
              refine ⟨by rw [List.length_append, List.map_append]; exact ho, fun q hq => ?_, HR5.out.kp.trans hk5 (fun q hq e => by have := HR5.out.own q e; omega)⟩
              rcases hs q hq with e | e
              · exact HR5.out.own q e
              · have h3 := HR5.out.kp.size; simp at e; omega)
            clear ho hg hs hk5
            go_wp2
            go_roundw
            case rel => exact ⟨k + 1, _, by omega, by go_num, rfl, HF⟩
            case measure => simp [intOf]; omega
    · obtain rfl : k = B.length := by omega
      have i1 : ((B.length : Int) < (B.length : Int)) = False := eq_false (by omega)
      have d1 : decide ((B.length : Int) < (B.length : Int)) = false := decide_eq_false (by omega)
      rw [List.take_length] at HR
      obtain ⟨oa, oc, rfl⟩ := row_slice HR.out.row
      go_wp2
      go_ret2
      exact ⟨oa, oc, rfl, HR.out.row, HK1.out.trans HR.out.kp (fun _ _ h => h)⟩
end
end Go.Proofs.YtldjlcdccnnogaaGreat

/-! grace.Check: the walk. -/
set_option linter.unusedVariables false
set_option linter.unusedSimpArgs false
namespace Go.Lf
open Go.RowKit Go.MapKept Go.ChangeMaps
theorem mlook_mem {l : List (Int × Value)} (hn : (mkeys l).Nodup) {x : Int} {v : Value} (h : (x, v) ∈ l) : mlook l x = some v := by
  induction l with
  | nil => cases h
  | cons p l ih =>
    unfold mkeys at hn
    rw [List.map_cons, List.nodup_cons] at hn
    unfold mlook
    rcases List.mem_cons.1 h with e | e
    · subst e
      simp
    · have : x ≠ p.1 := fun e2 => hn.1 (by rw [← e2]; exact List.mem_map_of_mem (f := (·.1)) e)
      rw [if_neg this]
      exact ih hn.2 e
/-- How many entries an iterator has left. -/
def rngLeft (w : World) (b r : Nat) : Nat := match w.heap[b]?, w.heap[r]? with
  | some (.map es _), some (.mapIter _ _ seen _) => (leftOf es seen).size
  | _, _ => 0
section
variable {q : IntKind} {P : Program} {w w' : World} {b r : Nat} {l : List (Int × Value)} {xs : List Int} {t kt et : TypeId}
theorem IRng.left (h : IRng q w b r l xs) : rngLeft w b r + xs.length = l.length := by
  obtain ⟨es, clock, since, seen, c0, hb, he, hst, hr, hold, hsc, hsk, hp⟩ := h
  unfold rngLeft
  rw [hb, hr]
  have := hp.length_eq
  simp only [List.length_append, List.length_map, mkeys] at this
  simp only [Array.length_toList] at this
  simp only
  omega
/-- The step, with the entry. -/
theorem IRng.next2 (h : IRng q w b r l xs) (ty : TypeId) :
    ((Instr.next (.pointer (some ⟨r, 0, none⟩)) false ty).run P w = .ok (.tuple #[.bool false]) w ∧ xs.Perm (mkeys l)) ∨
    ∃ (x : Int) (v : Value) (w' : World), (x, v) ∈ l ∧ (Instr.next (.pointer (some ⟨r, 0, none⟩)) false ty).run P w = .ok (.tuple #[.bool true, .int q x, v]) w' ∧ IRng q w' b r l (xs ++ [x]) ∧ Keep (fun k => k = r) w w' ∧ w'.heap.size = w.heap.size ∧ (Instr.entry (.pointer (some ⟨r, 0, none⟩))).run P w' = .ok (.tuple #[.int q x, v]) w' := by
  obtain ⟨es, clock, since, seen, c0, hb, he, hst, hr, hold, hsc, hsk, hp⟩ := h
  have hne : r ≠ b := fun e => by subst e; rw [hb] at hr; cases hr
  have hst2 := (stamped_iff es clock).1 hst
  rcases run_next_at (P := P) w ty r b since c0 seen es clock hr hb hold hsc with ⟨h0, hrun⟩ | ⟨e, hmem, w1, hal, hrun⟩
  · refine .inl ⟨hrun, ?_⟩
    have : (leftOf es seen).toList = [] := List.eq_nil_of_length_eq_zero (by simpa using h0)
    rw [this] at hp
    simp only [List.map_nil, List.append_nil] at hp
    exact val_int_inj hp
  · obtain ⟨hem, hes⟩ := mem_left hmem
    obtain ⟨p, hpl, hpe⟩ : ∃ p ∈ l, pkv q p = ekv e := by
      have : ekv e ∈ es.toList.map ekv := List.mem_map_of_mem hem
      rw [he, List.mem_map] at this
      exact this
    obtain ⟨x, v⟩ := p
    simp only [pkv, ekv, Prod.mk.injEq] at hpe
    obtain ⟨hx, hv⟩ := hpe
    have hr1 : w1.heap[r]? = some (.mapIter (some b) since seen c0) := by rcases hal with rfl | rfl <;> exact hr
    have hb1 : w1.heap[b]? = some (.map es clock) := by rcases hal with rfl | rfl <;> exact hb
    have hset := heap_set (o' := .mapIter (some b) since (seen.push e.born) clock) hr1
    have hb' : (setBlock w1 r (.mapIter (some b) since (seen.push e.born) clock)).heap[b]? = some (.map es clock) := (hset.2 b (fun e1 => hne e1.symm)).trans hb1
    have hen := run_entry_at (P := P) _ r b since seen es clock e hset.1 hb' hem hst2.2.1
    rw [← hx, ← hv] at hrun hen
    refine .inr ⟨x, v, _, hpl, hrun, ⟨es, clock, since, seen.push e.born, clock, hb', he, hst, hset.1, hold, hsk, hsk, ?_⟩, ?_, ?_, hen⟩
    · have hnd : ((leftOf es seen).toList.map (·.born)).Nodup := by
        have : (leftOf es seen).toList.Sublist es.toList := by unfold leftOf; rw [Array.toList_filter]; exact List.filter_sublist
        exact (this.map _).nodup hst2.2.1
      have h1 := (born_split hnd hmem).map (·.key)
      rw [List.map_cons, ← hx, ← left_push] at h1
      rw [List.map_append, List.append_assoc]
      exact (List.Perm.append_left _ h1.symm).trans hp
    · rcases hal with rfl | rfl <;> exact ⟨rfl, rfl, rfl, by simp [setBlock], fun i _ hi => hset.2 i hi⟩
    · rcases hal with rfl | rfl <;> simp [setBlock]
end
section
variable {q : IntKind} {P : Program} (w : World) {ops : Array Oper} {rest : List Oper} {o : Oper} {a : Act} {Q : Exit → Act → World → Prop} {b r : Nat} {l : List (Int × Value)} {xs : List Int} {t kt et : TypeId}
theorem wpList_next_imap2 (hg : o.guard = none) (it : Operand) (hop : o.op = Op.next it false) (hit : a.eval it = .pointer (some ⟨r, 0, none⟩)) (h : IRng q w b r l xs)
    (hDone : xs.Perm (mkeys l) → wpList P ops Q rest (a.put o.dst (.tuple #[.bool false])) w)
    (hMore : ∀ (x : Int) (v : Value) (w' : World), (x, v) ∈ l → IRng q w' b r l (xs ++ [x]) → Keep (fun k => k = r) w w' → w'.heap.size = w.heap.size → (Instr.entry (.pointer (some ⟨r, 0, none⟩))).run P w' = .ok (.tuple #[.int q x, v]) w' → wpList P ops Q rest (a.put o.dst (.tuple #[.bool true, .int q x, v])) w') :
    wpList P ops Q (o :: rest) a w := by
  refine wpList_plain hg fun K' hK' => ?_
  unfold Oper.wp
  rcases h.next2 (P := P) o.type with ⟨hrun, hp⟩ | ⟨x, v, w', h0, hrun, h1, h2, h3, h4⟩
  · simp [execOp, hop, hit, hrun, Result.andThen]
    exact hK' _ _ (hDone hp)
  · simp [execOp, hop, hit, hrun, Result.andThen]
    exact hK' _ _ (hMore x v w' h0 h1 h2 h3 h4)
end
end Go.Lf
namespace Go.Proofs.YtldjlcdccnnogaaGreat
open Go.RowKit Go.Lf
def bgV (v s : Int) : Value := .agg #[.int .u64 v, .int .i64 s]
def EvS.inV : EvS → Option Value
  | .inn v s => some (bgV v s)
  | _ => none
structure GCk (w wz : World) (ob wb : Nat) (l : List EvR) : Prop where
  op : ∃ ml, IMap .i64 wz ob ml ∧ (mkeys ml).Nodup ∧ ∀ t, mlook ml t = EvS.inV (evT l t)
  wt : ∃ ml, IMap .i64 wz wb ml ∧ (mkeys ml).Nodup ∧ ∀ t set s, evT l t = .wt set s → mlook ml t = some (bgV set s)
  kp : Keep Nil w wz
  lo : w.heap.size ≤ ob
  lw : ob < wb
theorem zBegun (w : World) : (zeroValue 69).run Tryz.prog w = .ok (bgV 0 0) w := by kernel_rfl
theorem fldB1 (a b : Value) (W : World) : (Instr.field 69 (.agg #[a, b]) 1).run Tryz.prog W = .ok b W := by kernel_rfl
section
variable {w w' : World}
theorem GCk.quiet {wz : World} {ob wb : Nat} {l : List EvR} (h : GCk w wz ob wb l) (hk : Keep Nil wz w') : GCk w w' ob wb l := by
  obtain ⟨m1, a1, a2, a3⟩ := h.op
  obtain ⟨m2, b1, b2, b3⟩ := h.wt
  exact ⟨⟨m1, a1.keep hk (fun h => h), a2, a3⟩, ⟨m2, b1.keep hk (fun h => h), b2, b3⟩, h.kp.trans hk (fun _ _ h => h), h.lo, h.lw⟩
attribute [local go_sem] fldB1
set_option maxRecDepth 100000 in
set_option maxHeartbeats 8000000 in
theorem gcheck_ok (l : List EvR) (h : EvGood l) (v : Value) (rd : Rd w 4 v l.length (evCells l)) (hm : l.length ≤ 100000) : Calls Tryz.prog 8 #[v] w fun e w' => e = .returned (.tuple #[.int .i64 0, .int .i64 0]) ∧ Keep Nil w w' := by
  obtain ⟨a, cp, rfl, -, -⟩ := id rd
  have HRD := hid rd
  have HG := hid h
  have HCK := hid (echeck_ok l h _ rd hm)
  have hmm := @run_makeMap Tryz.prog
  clear rd h
  go_enter Tryz.func8, Tryz.ntmps8
  go_wp2_with fail
  go_step3
  go_wp2_with fail
  refine HCK.out.mono ?_
  rintro e w1 ⟨rfl, hk1⟩
  have h0 : GCk w ((w1.alloc (.map #[] 0)).alloc (.map #[] 0)) w1.heap.size (w1.heap.size + 1) (l.take 0) := by
    have i2 := imap_new (q := .i64) (w1.alloc (.map #[] 0))
    rw [World.size_alloc] at i2
    exact ⟨⟨[], (imap_new w1).keep ((Keep.refl Nil _).alloc _) (fun h => h), List.nodup_nil, fun t => rfl⟩, ⟨[], i2, List.nodup_nil, fun t st s e => by cases e⟩, (hk1.alloc _).alloc _, hk1.size, by omega⟩
  have HS0 := hid h0
  clear hk1 HCK h0
  go_wp2_with fail
  go_step3
  go_upto_region 5 with fail
  generalize (w1.alloc (Obj.map #[] 0)).alloc (Obj.map #[] 0) = W1 at HS0 ⊢
  generalize w1.heap.size = ob at HS0 ⊢
  generalize ob + 1 = wb at HS0 ⊢
  go_wp2
  go_loopw [8, 26] (fun ev iv wz => ∃ k : Nat, k ≤ l.length ∧ iv = .int .i64 (k : Int) ∧ ev = .int .i64 (-1) ∧ Hid (GCk w wz ob wb (l.take k))) (fun _ iv _ => l.length - (intOf iv).toNat)
  case atStart => exact ⟨0, Nat.zero_le _, rfl, rfl, HS0⟩
  case round =>
    obtain ⟨k, hk, rfl, rfl, HS⟩ := hrel
    clear HS0 hmm
    by_cases hlt : k < l.length
    · have i1 : ((k : Int) < (l.length : Int)) = True := eq_true (by omega)
      have d1 : decide ((k : Int) < (l.length : Int)) = true := decide_eq_true (by omega)
      have wi : IntKind.i64.wrap ((k : Int) + 1) = (k : Int) + 1 := by rw [IntKind.wrap_i64]; omega
      obtain ⟨x, hx⟩ : ∃ x, l[k]? = some x := ⟨_, List.getElem?_eq_getElem hlt⟩
      obtain ⟨hwf, -, hrl, hgr⟩ := HG.out.at hx
      obtain ⟨ab, ao, ac, hve, hcl⟩ := Rd.cell HRD.out (by omega)
      simp only [Value.slice.injEq] at hve
      obtain ⟨rfl, -, rfl⟩ := hve
      have q : ∀ j u, x.cells[j]? = some u → wr.cell? ⟨ab, ao + k * 4 + j, none⟩ = some u := fun j u hu => by rw [Nat.add_assoc]; exact HS.out.kp.cell (hcl _ _ (evCells_at hx hu)) (fun h => h)
      have HTK := hid (take_snoc_ev hx)
      obtain ⟨s, t, kd, u⟩ := x
      have hkd : kd = 1 ∨ kd = 2 ∨ kd = 3 ∨ kd = 4 := EvR.ok_kind hrl
      have HRL := hid hrl
      have HGR := hid hgr
      obtain ⟨s0, s1, t0, t1, v0, v1⟩ := hwf
      simp only at s0 s1 t0 t1 v0 v1
      have q0 : wr.cell? ⟨ab, ao + k * 4, none⟩ = some (.int .i64 s) := q 0 _ rfl
      have q1 : wr.cell? ⟨ab, ao + k * 4 + 1, none⟩ = some (.int .i64 t) := q 1 _ rfl
      have q2 : wr.cell? ⟨ab, ao + k * 4 + 2, none⟩ = some (.int .u8 kd) := q 2 _ rfl
      have q3 : wr.cell? ⟨ab, ao + k * 4 + 3, none⟩ = some (.int .u64 u) := q 3 _ rfl
      have i0 : (0 : Int) ≤ (k : Int) := by omega
      clear q hcl hrl hx hgr
      go_upto_region 8 with fail
      obtain ⟨W, hW⟩ : ∃ W, W = wr.alloc (.cells #[.int .i64 s, .int .i64 t, .int .u8 kd, .int .u64 u] 43) := ⟨_, rfl⟩
      rw [← hW]
      have hkW : Keep Nil wr W := hW ▸ (Keep.refl Nil wr).alloc _
      have hxb : W.heap[wr.heap.size]? = some (.cells #[.int .i64 s, .int .i64 t, .int .u8 kd, .int .u64 u] 43 (0, 0)) := hW ▸ heap_alloc_new wr _
      obtain ⟨xb, hxbe⟩ : ∃ xb, xb = wr.heap.size := ⟨_, rfl⟩
      rw [← hxbe] at hxb ⊢
      have HW := hid (HS.out.quiet hkW)
      have HXB := hid hxb
      have x0 : W.cell? ⟨xb, 0, none⟩ = some (.int .i64 s) := by rw [cell_of hxb]; rfl
      have x1 : W.cell? ⟨xb, 1, none⟩ = some (.int .i64 t) := by rw [cell_of hxb]; rfl
      have x2 : W.cell? ⟨xb, 2, none⟩ = some (.int .u8 kd) := by rw [cell_of hxb]; rfl
      have x3 : W.cell? ⟨xb, 3, none⟩ = some (.int .u64 u) := by rw [cell_of hxb]; rfl
      have zx : xb < W.heap.size := lt_of_block hxb
      clear hW hkW hxb hxbe q0 q1 q2 q3 HS
      rcases hkd with rfl | rfl | rfl | rfl
      · as_aux_lemma =>
          obtain ⟨ml, hml, hnd, hme⟩ := HW.out.op
          obtain ⟨W3, hrun, hm3, k3, z3⟩ := put_run hml Tryz.underlying67 Tryz.underlying3 t (bgV u s)
          unfold bgV at hrun
          have HF := hid (show GCk w W3 ob wb (l.take (k + 1)) from by
            rw [HTK.out]
            obtain ⟨m2, b1, b2, b3⟩ := HW.out.wt
            refine ⟨⟨_, hm3, mkeys_put_nodup hnd _ _, fun t' => ?_⟩, ⟨m2, b1.keep k3 (fun e => by have := HW.out.lw; omega), b2, fun t' st f e => ?_⟩, HW.out.kp.trans k3 (fun q hq e => by have := HW.out.lo; have e' : q = ob := e; omega), HW.out.lo, HW.out.lw⟩
            · rw [mlook_put, evT_snoc]
              by_cases e : t' = t
              · rw [if_pos e, if_pos e.symm]; rfl
              · rw [if_neg e, if_neg (Ne.symm e)]; exact hme t'
            · rw [evT_snoc] at e
              split at e
              · cases e
              · exact b3 t' st f e)
          clear hml hnd hme hm3 k3 z3 HW
          go_wp2
          go_roundw
          case rel => exact ⟨k + 1, by omega, by go_num, rfl, HF⟩
          case measure => simp [intOf]; omega
      · as_aux_lemma =>
          obtain ⟨ml, hml, hnd, hme⟩ := HW.out.op
          obtain ⟨W3, hrun, hm3, k3, z3⟩ := del_run hml Tryz.underlying67 Tryz.underlying3 t
          have HF := hid (show GCk w W3 ob wb (l.take (k + 1)) from by
            rw [HTK.out]
            obtain ⟨m2, b1, b2, b3⟩ := HW.out.wt
            refine ⟨⟨_, hm3, mkeys_del_nodup hnd _, fun t' => ?_⟩, ⟨m2, b1.keep k3 (fun e => by have := HW.out.lw; omega), b2, fun t' st f e => ?_⟩, HW.out.kp.trans k3 (fun q hq e => by have := HW.out.lo; have e' : q = ob := e; omega), HW.out.lo, HW.out.lw⟩
            · rw [mlook_del hnd, evT_snoc]
              by_cases e : t' = t
              · rw [if_pos e, if_pos e.symm]; rfl
              · rw [if_neg e, if_neg (Ne.symm e)]; exact hme t'
            · rw [evT_snoc] at e
              split at e
              · cases e
              · exact b3 t' st f e)
          clear hml hnd hme hm3 k3 z3 HW
          go_wp2
          go_roundw
          case rel => exact ⟨k + 1, by omega, by go_num, rfl, HF⟩
          case measure => simp [intOf]; omega
      · as_aux_lemma =>
          obtain ⟨ml, hml, hnd, hme⟩ := HW.out.wt
          obtain ⟨W3, hrun, hm3, k3, z3⟩ := put_run hml Tryz.underlying67 Tryz.underlying3 t (bgV u s)
          unfold bgV at hrun
          have HF := hid (show GCk w W3 ob wb (l.take (k + 1)) from by
            rw [HTK.out]
            obtain ⟨m2, b1, b2, b3⟩ := HW.out.op
            refine ⟨⟨m2, b1.keep k3 (fun e => by have := HW.out.lw; omega), b2, fun t' => ?_⟩, ⟨_, hm3, mkeys_put_nodup hnd _ _, fun t' st f e => ?_⟩, HW.out.kp.trans k3 (fun q hq e => by have := HW.out.lo; have := HW.out.lw; have e' : q = wb := e; omega), HW.out.lo, HW.out.lw⟩
            · rw [evT_snoc]
              by_cases e : t' = t
              · rw [if_pos e.symm, b3 t', e, (ok_3 HRL.out).1]; rfl
              · rw [if_neg (Ne.symm e)]; exact b3 t'
            · rw [mlook_put]
              rw [evT_snoc] at e
              by_cases e2 : t' = t
              · rw [if_pos e2.symm] at e
                rw [if_pos e2]
                simp [EvR.to] at e
                rw [e.1, e.2]
              · rw [if_neg (Ne.symm e2)] at e
                rw [if_neg e2]
                exact hme t' st f e)
          clear hml hnd hme hm3 k3 z3 HW
          go_wp2
          go_roundw
          case rel => exact ⟨k + 1, by omega, by go_num, rfl, HF⟩
          case measure => simp [intOf]; omega
      · as_aux_lemma =>
          obtain ⟨f, hE⟩ := ok_4 HRL.out
          obtain ⟨ml, hml, hnd, hme⟩ := HW.out.op
          obtain ⟨mw, hmw, hndw, hmew⟩ := HW.out.wt
          have hlw : mlook mw t = some (bgV u f) := hmew t u f hE
          have HLW := hid (fun (W' : World) (h : IMap .i64 W' wb mw) => look_one h Tryz.underlying67 Tryz.underlying3 (zBegun W') t)
          rw [hlw] at HLW
          simp only [Option.getD_some] at HLW
          unfold bgV at HLW
          have HMEM := hid (show ∀ t' y, (t', y) ∈ ml → ∃ v b, y = bgV v b ∧ evT (l.take k) t' = .inn v b from fun t' y hy => by
            have h1 := mlook_mem hnd hy
            rw [hme t'] at h1
            cases he : evT (l.take k) t' with
            | out => rw [he] at h1; cases h1
            | inn v b => rw [he] at h1; exact ⟨v, b, (Option.some.inj h1).symm, rfl⟩
            | wt v b => rw [he] at h1; cases h1)
          have HGR2 := hid (fun (t' v b : Int) (h1 : evT (l.take k) t' = .inn v b) (h2 : b < f) => HGR.out rfl t' v b f h1 hE h2)
          have HVB := hid (show ∀ t' v b, evT (l.take k) t' = .inn v b → 0 ≤ v ∧ v < 18446744073709551616 from fun t' v b h1 => by
            obtain ⟨i, -, h2⟩ := (PrInv.of (bk := 1) (ek := 2) (.inl ⟨rfl, rfl⟩) (HG.out.take k)).op t' v b (by rw [h1]; rfl)
            have := (PrInv.of (bk := 1) (ek := 2) (.inl ⟨rfl, rfl⟩) (HG.out.take k)).bd i _ h2
            exact ⟨this.2.2.2.1, this.2.2.2.2.1⟩)
          have HML := hid hml
          have HMW := hid hmw
          have HX0 := hid x0
          have HX1 := hid x1
          have HX3 := hid x3
          have HZX := hid zx
          have HFIN := hid (show ∀ wz, Keep Nil W wz → GCk w wz ob wb (l.take (k + 1)) from fun wz hkz => by
            rw [HTK.out]
            obtain ⟨m1, a1, a2, a3⟩ := (HW.out.quiet hkz).op
            obtain ⟨m2, b1, b2, b3⟩ := (HW.out.quiet hkz).wt
            refine ⟨⟨m1, a1, a2, fun t' => ?_⟩, ⟨m2, b1, b2, fun t' st f' e => ?_⟩, (HW.out.quiet hkz).kp, HW.out.lo, HW.out.lw⟩
            · rw [evT_snoc]
              by_cases e : t' = t
              · rw [if_pos e.symm, a3 t', e, hE]; rfl
              · rw [if_neg (Ne.symm e)]; exact a3 t'
            · rw [evT_snoc] at e
              split at e
              · cases e
              · exact b3 t' st f' e)
          clear hml hnd hme hmw hndw hmew hlw hE HW HGR HRL
          go_wp2_with (at_range; refine wpList_range_imap _ rfl _ rfl Tryz.underlying67 rfl HML.out ?rr)
          case rr =>
            intro w3 hi3 hk3 hz3
            have HI3 := hid hi3
            have HK3 := hid hk3
            clear hi3 hk3 hz3 x0 x1 x2 x3 zx
            obtain ⟨rb, hrb⟩ : ∃ rb, rb = W.heap.size := ⟨_, rfl⟩
            rw [← hrb] at HI3 ⊢
            have HRB := hid hrb
            clear hrb
            go_wp2
            go_loopw [8] (fun ev wz => ∃ xs : List Int, ev = .int .i64 (-1) ∧ IRng .i64 wz ob rb ml xs ∧ Keep Nil W wz) (fun _ wz => rngLeft wz ob rb)
            case atStart => exact ⟨[], rfl, HI3.out, HK3.out⟩
            case round =>
              obtain ⟨xs, rfl, hi, hkk⟩ := hrel
              have HJ := hid hi
              have HKK := hid hkk
              have HLEFT := hid hi.left
              clear hi hkk HI3 HK3
              go_wp2_with (at_next; refine wpList_next_imap2 _ rfl _ rfl rfl HJ.out ?done ?more)
              case done =>
                as_aux_lemma =>
                  intro hp
                  have HF := hid (HFIN.out _ HKK.out)
                  go_wp2
                  go_roundw
                  case rel => exact ⟨k + 1, by omega, by go_num, rfl, HF⟩
                  case measure => simp [intOf]; omega
              case more =>
                intro y yv w5 hmem h1 h2 h3 hen
                obtain ⟨vv, b, rfl, hT⟩ := HMEM.out y yv hmem
                have hk5 : Keep Nil W w5 := HKK.out.trans h2 (fun q hq e => by have := HRB.out; have e' : q = rb := e; omega)
                have HI5 := hid h1
                have hvb := HVB.out y vv b hT
                have HT := hid hT
                unfold bgV at hen
                obtain ⟨V, hV⟩ : ∃ V, V = w5.alloc (.cells #[.int .u64 vv, .int .i64 b] 69 (0, 0)) := ⟨_, rfl⟩
                have hkV : Keep Nil W V := hV ▸ hk5.alloc _
                have hvb2 : V.heap[w5.heap.size]? = some (.cells #[.int .u64 vv, .int .i64 b] 69 (0, 0)) := hV ▸ heap_alloc_new w5 _
                have HIV := hid (show IRng .i64 V ob rb ml (xs ++ [y]) from hV ▸ h1.keep ((Keep.refl Nil w5).alloc _) (fun h => h) (fun h => h))
                have HLT := hid HIV.out.left
                clear hmem h1 h2 h3 hk5 hT
                go_upto_region 19 with fail
                rw [← hV]
                obtain ⟨sb, hsb⟩ : ∃ sb, sb = w5.heap.size := ⟨_, rfl⟩
                rw [← hsb] at hvb2 ⊢
                have y0 : V.cell? ⟨sb, 0, none⟩ = some (.int .u64 vv) := by rw [cell_of hvb2]; rfl
                have y1 : V.cell? ⟨sb, 1, none⟩ = some (.int .i64 b) := by rw [cell_of hvb2]; rfl
                have x1 := hkV.cell HX1.out (fun h => h)
                have x3 := hkV.cell HX3.out (fun h => h)
                have zx : xb < V.heap.size := by have := hkV.size; have := HZX.out; omega
                have zs : sb < V.heap.size := lt_of_block hvb2
                have hl1 := HLW.out V (HMW.out.keep hkV (fun h => h))
                have HKV := hid hkV
                clear hV hkV hvb2 hsb hen
                by_cases hbf : b < f
                · as_aux_lemma =>
                    have d5 : decide (b < f) = true := decide_eq_true hbf
                    have hh : hasv u vv = false := HGR2.out y vv b HT.out hbf
                    have HWI := hid (gwithin_ok V u vv v0 v1 hvb.1 hvb.2)
                    rw [hh] at HWI
                    go_wp2_with fail
                    refine HWI.out.mono ?_
                    rintro e w6 ⟨rfl, hk6⟩
                    have HI6 := hid (HIV.out.keep hk6 (fun h => h) (fun h => h))
                    have HL6 := hid HI6.out.left
                    have HK6 := hid (HKV.out.trans hk6 (fun _ _ h => h))
                    clear hk6
                    go_wp2
                    go_roundw
                    case rel => exact ⟨xs ++ [y], rfl, HI6.out, HK6.out⟩
                    case measure => have h1 := HL6.out; have h2 := HLEFT.out; simp only [List.length_append, List.length_singleton] at h1; omega
                · as_aux_lemma =>
                    have d5 : decide (b < f) = false := decide_eq_false hbf
                    go_wp2
                    go_roundw
                    case rel => exact ⟨xs ++ [y], rfl, HIV.out, HKV.out⟩
                    case measure => have h1 := HLT.out; have h2 := HLEFT.out; simp only [List.length_append, List.length_singleton] at h1; omega
    · obtain rfl : k = l.length := by omega
      have i1 : ((l.length : Int) < (l.length : Int)) = False := eq_false (by omega)
      have d1 : decide ((l.length : Int) < (l.length : Int)) = false := decide_eq_false (by omega)
      have de : decide ((-1 : Int) ≥ 0) = false := by decide
      have de2 : decide ((0 : Int) ≤ -1) = false := by decide
      go_wp2
      try rw [Exit.noGoto_ret]
      go_ret2
      exact ⟨rfl, HS.out.kp⟩
end
end Go.Proofs.YtldjlcdccnnogaaGreat
