/- SessionMatches: any sequence of calls is that of the specification: the walk. -/
import Derived.Test.YtjghenomeindcaaGreatSessMR
import Derived.Test.YtjghenomeindcaaGreatSmallOk
import Derived.Deep.RegionHeld3
import Derived.Deep.DeepCutAuto
import Derived.Deep.CutBlock
set_option linter.unusedVariables false
set_option linter.unusedSimpArgs false
namespace Go.Proofs.YtjghenomeindcaaGreat
open Go.RowKit Go.Lf
/-- The call under way, in a block of the walk's own. -/
def XAt (W : World) (xb : Nat) (x : CallV) : Prop := W.heap[xb]? = some (.cells #[.int .u8 x.what, .int .i64 x.t, .int .i64 x.n, .int .u64 x.v] 115 (0, 0))
theorem conj5 {W : World} {L : Nat → Prop} {tb b rb xb : Nat} {va vb : Value} {xs : List OO} {bl : List Nat} {x : CallV} (hs : SR W L tb b rb va vb xs bl) (hx : XAt W xb x) :
    W.cell? ⟨tb, 0, none⟩ = some (.pointer (some ⟨b, 0, none⟩)) ∧ W.cell? ⟨tb, 1, none⟩ = some (.pointer (some ⟨rb, 0, none⟩)) ∧ W.cell? ⟨xb, 1, none⟩ = some (.int .i64 x.t) ∧ W.cell? ⟨xb, 2, none⟩ = some (.int .i64 x.n) ∧ W.cell? ⟨xb, 3, none⟩ = some (.int .u64 x.v) :=
  ⟨hs.c0.1, hs.c0.2.1, by rw [cell_of hx]; rfl, by rw [cell_of hx]; rfl, by rw [cell_of hx]; rfl⟩
theorem size2 {W : World} {L : Nat → Prop} {tb b rb xb : Nat} {va vb : Value} {xs : List OO} {bl : List Nat} {x : CallV} (hs : SR W L tb b rb va vb xs bl) (hx : XAt W xb x) : tb < W.heap.size ∧ xb < W.heap.size := ⟨hs.c0.2.2, lt_of_block hx⟩
theorem XAt.out {w W W' : World} {L : Nat → Prop} {xb : Nat} {x : CallV} (h : XAt W xb x) (hk : Keep (Out w L) W W') (hl : L xb) : XAt W' xb x := hk.loc h hl
theorem XAt.quiet {W W' : World} {xb : Nat} {x : CallV} (h : XAt W xb x) (hk : Keep Nil W W') : XAt W' xb x := hk.at h (fun h => h)
theorem SR.cellA {wr : World} {L : Nat → Prop} {tb b rb g m cp k : Nat} {vb : Value} {xs : List OO} {bl : List Nat} {o : OO} (h : SR wr L tb b rb (.slice (some ⟨g, 0, none⟩) m cp) vb xs bl) (hx : xs[k]? = some o) : wr.cell? ⟨g, k, none⟩ = some (.pointer (some ⟨o.o, 0, none⟩)) ∧ g < wr.heap.size := by
  obtain ⟨g', cp', hv, h1, h2, -⟩ := h.at hx
  simp only [Value.slice.injEq, Option.some.injEq, Addr.mk.injEq] at hv
  obtain ⟨⟨rfl, -⟩, -⟩ := hv
  exact ⟨h1, h2⟩
theorem SR.cellB {wr : World} {L : Nat → Prop} {tb b rb g m cp k p : Nat} {va : Value} {xs : List OO} {bl : List Nat} (h : SR wr L tb b rb va (.slice (some ⟨g, 0, none⟩) m cp) xs bl) (hx : bl[k]? = some p) : wr.cell? ⟨g, k, none⟩ = some (.pointer (some ⟨p, 0, none⟩)) ∧ g < wr.heap.size := by
  obtain ⟨g', cp', hv, h1, h2, -⟩ := h.bt hx
  simp only [Value.slice.injEq, Option.some.injEq, Addr.mk.injEq] at hv
  obtain ⟨⟨rfl, -⟩, -⟩ := hv
  exact ⟨h1, h2⟩
/-- The cells of the reference's layout that the store of an owner reads. -/
theorem rl5 {w wr : World} {L : Nat → Prop} {c : Cfg} {b mb rb rm ll : Nat} {x y : List Int × List Acc} {xs : List OO} {qs : List RO} {bl : List Nat} (h : SMT w wr L c b mb rb rm ll x y xs qs bl) : wr.cell? ⟨rb, 0, none⟩ = some (.pointer (some ⟨ll, 0, none⟩)) ∧ wr.cell? ⟨ll, 16, none⟩ = some (.int .i64 0) ∧ wr.cell? ⟨ll, 1, none⟩ = some (.int .i64 c.sl) := by
  obtain ⟨B, F, G, hp⟩ := h.rp
  exact ⟨hp.c0, hp.rlc3.c16, hp.rlc3.c1⟩
theorem rl5z {w wr : World} {L : Nat → Prop} {c : Cfg} {b mb rb rm ll : Nat} {x y : List Int × List Acc} {xs : List OO} {qs : List RO} {bl : List Nat} (h : SMT w wr L c b mb rb rm ll x y xs qs bl) : rb < wr.heap.size ∧ ll < wr.heap.size := by
  obtain ⟨B, F, G, hp⟩ := h.rp
  exact ⟨hp.bl, hp.rlc3.lt⟩
/-- A store in an owner, on both sides. -/
theorem s_store {w wr : World} {L : Nat → Prop} {c : Cfg} {b mb rb rm ll : Nat} {x : List Int × List Acc} {xs : List OO} {qs : List RO} {bl : List Nat} (h : SMT w wr L c b mb rb rm ll x x xs qs bl) (k : Nat) (v : Int) (hk : k < x.1.length) (hl : x.2.length < 1000000000000) :
    Calls Tryz.prog 52 #[.agg #[.pointer (some ⟨b, 0, none⟩), .pointer (some ⟨rb, 0, none⟩)], .int .i64 0, .int .i64 k, .int .u64 v] wr fun e w' => e = .returned (.bool true) ∧ SMT w w' L c b mb rb rm ll (x.1.set k v, x.2 ++ [stAcc 0 k x.1 v]) (x.1.set k v, x.2 ++ [stAcc 0 k x.1 v]) xs qs bl ∧ Keep (Out w L) wr w' := by
  have hkt : ((k : Int)).toNat = k := Int.toNat_natCast k
  refine (g_store (memL_objsB (OpB b) c b mb) (rmemL_objs (ROpO rb) c rb rm ll) (fun _ _ => rfl) (fun _ _ => rfl) h 0 (k : Int) v (by decide) (by decide) (Int.natCast_nonneg _) (by rw [hkt]; exact hk) (by rw [hkt]; exact hk) hl hl).mono ?_
  rintro e w' ⟨rfl, h1, h2⟩
  rw [hkt] at h1
  exact ⟨rfl, h1, h2⟩
section
set_option maxRecDepth 100000 in
set_option maxHeartbeats 16000000 in
theorem walk_smatch (w : World) (z : ConfV) (hz : ConfArg w z) (va : Value) (l : List CallV) (rd : Rd w 4 va l.length (callCells l)) (bd : ∀ y ∈ l, CallV.wf y) (ml : l.length ≤ maxLen) :
    Calls Tryz.prog 7 #[z.val, va] w fun e w' => e = .returned (.bool true) ∧ Keep Nil w w' := by
  obtain ⟨a, cp, rfl, -, -⟩ := id rd
  have HRD := hid rd
  have HBD := hid bd
  have HML := hid ml
  have HZ := hid hz
  have HC0 := hid z.ok
  clear hz rd bd ml
  unfold ConfV.val
  go_enter Tryz.func7, Tryz.ntmps7
  go_wp2_with fail
  refine (small_ok z (HZ.out.keep ((Keep.refl Nil w).alloc _))).mono ?_
  rintro e w1 ⟨a1, cp1, rfl, hr1, hk1, -⟩
  have HR1 := hid hr1
  have HK1 := hid (((Keep.refl Nil w).alloc _).trans hk1 (fun _ _ h => h))
  clear hr1 hk1
  go_wp2_with fail
  refine (open2_ok z.c z.ok _ _ _ _ _ _ rfl a1 cp1 HR1.out).mono ?_
  rintro e w2 ⟨b, mb, rb, rm, rfl, htwo0⟩
  obtain ⟨ll, htwo⟩ := two_rf htwo0
  clear htwo0
  have HTWO := hid htwo
  have HKW := hid (show Keep Nil w w1 from HK1.out)
  clear htwo HK1
  obtain ⟨c, hc⟩ : ∃ c, c = z.c := ⟨_, rfl⟩
  rw [← hc] at HTWO HC0
  obtain ⟨V1, hV1⟩ : ∃ V : Value, V = cfgV z.c (z.t1 % 7).toNat (z.t2 % 7).toNat (z.t3 % 7).toNat (z.t4 % 7).toNat (z.t5 % 7).toNat (z.t6 % 7).toNat a1 cp1 := ⟨_, rfl⟩
  rw [← hV1]
  clear hc hV1 HR1 HZ
  go_upto_region 2 with fail
  obtain ⟨W, hW⟩ : ∃ W, W = w2.alloc (.cells #[.pointer (some ⟨b, 0, none⟩), .pointer (some ⟨rb, 0, none⟩)] 110) := ⟨_, rfl⟩
  rw [← hW]
  have HC := hid HC0.out
  have HS0 := hid (SM.init HTWO.out HC.out hW)
  obtain ⟨tb, htb⟩ : ∃ tb, tb = w2.heap.size := ⟨_, rfl⟩
  rw [← htb] at HS0 ⊢
  clear hW htb HTWO HC0
  have hsl : c.sl ≤ 64 := HC.out.sl2
  have hsl1 : 1 ≤ c.sl := HC.out.sl1
  have HSL := hid (And.intro hsl1 hsl)
  clear hsl hsl1
  have hml := HML.out
  unfold maxLen at hml
  go_wp2
  go_loopw [7, 8, 9] (fun v7 v8 iv wz => ∃ (i : Nat) (va vb : Value), i ≤ l.length ∧ i ≤ 80 ∧ iv = .int .i64 i ∧ v7 = va ∧ v8 = vb ∧ Hid (SM w1 wz c b mb rb rm ll tb i va vb)) (fun _ _ i _ => 80 - (intOf i).toNat)
  case atStart => exact ⟨0, _, _, Nat.zero_le _, Nat.zero_le _, rfl, rfl, rfl, HS0⟩
  case round =>
    obtain ⟨i, va, vb, hi, hi8, rfl, hva, hvb, HSM⟩ := hrel
    obtain rfl : va = _ := hva.symm
    obtain rfl : vb = _ := hvb.symm
    clear HS0
    by_cases hlt : i < l.length ∧ i < 80
    · obtain ⟨hl1, hl2⟩ := hlt
      have i1 : ((i : Int) < (l.length : Int)) = True := eq_true (by omega)
      have i2 : ((i : Int) < 80) = True := eq_true (by omega)
      have d1 : decide ((i : Int) < (l.length : Int)) = true := decide_eq_true (by omega)
      have d2 : decide ((i : Int) < 80) = true := decide_eq_true (by omega)
      have wi : IntKind.i64.wrap ((i : Int) + 1) = (i : Int) + 1 := by rw [IntKind.wrap_i64]; omega
      obtain ⟨x, hx⟩ : ∃ x, l[i]? = some x := ⟨_, List.getElem?_eq_getElem hl1⟩
      obtain ⟨w1', w2', w3', w4'⟩ := HBD.out x (List.mem_of_getElem? hx)
      obtain ⟨ab, ao, ac, hve, hcl⟩ := Rd.cell HRD.out (by omega)
      simp only [Value.slice.injEq] at hve
      obtain ⟨rfl, -, rfl⟩ := hve
      obtain ⟨x0, x1⟩ := u8_wf w1'
      have hkk : Keep Nil w wr := HKW.out.trans HSM.out.own (fun _ _ h => h)
      have q : ∀ j u, x.cells[j]? = some u → wr.cell? ⟨ab, ao + i * 4 + j, none⟩ = some u := fun j u hu => by rw [Nat.add_assoc]; exact hkk.cell (hcl _ _ (callCells_at hx hu)) (fun h => h)
      have q0 : wr.cell? ⟨ab, ao + i * 4, none⟩ = some (.int .u8 x.what) := q 0 _ rfl
      have q1 : wr.cell? ⟨ab, ao + i * 4 + 1, none⟩ = some (.int .i64 x.t) := q 1 _ rfl
      have q2 : wr.cell? ⟨ab, ao + i * 4 + 2, none⟩ = some (.int .i64 x.n) := q 2 _ rfl
      have q3 : wr.cell? ⟨ab, ao + i * 4 + 3, none⟩ = some (.int .u64 x.v) := q 3 _ rfl
      have HWF := hid (And.intro (i64_wf w2') (And.intro (i64_wf w3') (u64_wf w4')))
      clear q hcl hkk w1' w2' w3' w4' hx
      have i0 : (0 : Int) ≤ (i : Int) := by omega
      go_upto_region 10 with fail
      obtain ⟨W, hW⟩ : ∃ W, W = wr.alloc (.cells #[.int .u8 x.what, .int .i64 x.t, .int .i64 x.n, .int .u64 x.v] 115) := ⟨_, rfl⟩
      rw [← hW]
      obtain ⟨L0, X, xs, qs, bl, ht0, hr0, hi0⟩ := HSM.out
      obtain ⟨xb, hxb⟩ : ∃ xb, xb = wr.heap.size := ⟨_, rfl⟩
      obtain ⟨L, hL⟩ : ∃ L : Nat → Prop, L = fun k => L0 k ∨ k = wr.heap.size := ⟨_, rfl⟩
      have HT := hid (show SMT w1 W L c b mb rb rm ll X X xs qs bl by rw [hL, hW]; exact g_own1 ht0 _)
      have HS := hid (show SR W L tb b rb va vb xs bl by rw [hL, hW]; exact (hr0.quiet ((Keep.refl Nil wr).alloc _)).more (fun k e => .inl e))
      have HX := hid (show XAt W xb x by rw [hxb, hW]; exact heap_alloc_new wr _)
      have HLX := hid (show L xb by rw [hL]; exact .inr hxb)
      have HI := hid hi0
      have q0 : W.cell? ⟨xb, 0, none⟩ = some (.int .u8 x.what) := by rw [cell_of HX.out]; rfl
      rw [← hxb]
      clear hW hL hxb ht0 hr0 hi0 q1 q2 q3 HSM
      obtain ⟨c0, c1, g1, g2, g3⟩ := conj5 HS.out HX.out
      obtain ⟨z0, z1⟩ := size2 HS.out HX.out
      have HXS := hid (And.intro hi8 hl2)
      go_upto_block 2 with fail
      go_cut [7, 8] (fun v7 v8 wx => ∃ (va2 vb2 : Value), v7 = va2 ∧ v8 = vb2 ∧ Hid (SM w1 wx c b mb rb rm ll tb (i + 1) va2 vb2))
      case first =>
        by_cases d0 : x.what % 6 = 0
        · have e0 : (x.what % 6 == 0) = true := beq_iff_eq.2 d0
          clear d0
          by_cases hbt : x.t < 0 ∨ 64 ≤ x.t
          · as_aux_lemma =>
              have HBT := hid hbt
              clear hbt
              go_wp2_with fail
              refine (snew_bad b x.t HBT.out).mono ?_
              rintro e w3 ⟨rfl, hk3⟩
              have HT3 := hid (HT.out.quiet hk3)
              have HS3 := hid (HS.out.quiet hk3)
              have HX3 := hid (HX.out.quiet hk3)
              clear hk3 c0 c1 g1 g2 g3 z0 z1 q0
              obtain ⟨c0, c1, g1, g2, g3⟩ := conj5 HS3.out HX3.out
              obtain ⟨z0, z1⟩ := size2 HS3.out HX3.out
              go_wp2_with fail
              refine (r30new_bad (rb := rb) HBT.out).mono ?_
              rintro e w4 ⟨rfl, rfl⟩
              go_wp2
              go_meet
              exact ⟨_, _, rfl, rfl, hid ⟨L, X, xs, qs, bl, HT3.out, HS3.out, HI.out.mono (by omega)⟩⟩
          · as_aux_lemma =>
              have HBT := hid (show 0 ≤ x.t ∧ x.t < 64 by omega)
              clear hbt
              go_wp2_with fail
              refine (s_newA HT.out HC.out HBT.out.1 HBT.out.2).mono ?_
              rintro e w3 ⟨o, ho1, ho2, he, ht3, hk3⟩
              unfold ptrV at he
              subst he
              have HT3 := hid ht3
              have HS3 := hid (HS.out.out hk3)
              have HX3 := hid (HX.out.out hk3 HLX.out)
              have HO := hid (And.intro ho1 ho2)
              clear ht3 hk3 ho1 ho2 c0 c1 g1 g2 g3 z0 z1 q0
              obtain ⟨c0, c1, g1, g2, g3⟩ := conj5 HS3.out HX3.out
              obtain ⟨z0, z1⟩ := size2 HS3.out HX3.out
              go_wp2_with fail
              refine (s_newB HT3.out HBT.out.1 HBT.out.2).mono ?_
              rintro e w4 ⟨p, he, ht4, hk4⟩
              unfold ptrV at he
              subst he
              have HT4 := hid ht4
              have HS4 := hid (HS3.out.out hk4)
              have hnum := HI.out.num
              have HLB := hid HI.out.lb
              clear ht4 hk4 c0 c1 g1 g2 g3 z0 z1
              go_wp2_with (at_builtin; refine wpList_app _ rfl _ _ 58 rfl 22 _ 1 8 Tryz.underlying58 infoPA rfl (by decide) va xs.length (xs.map (fun y => ptrV y.o)) rfl ?own _ 1 [ptrV o.o] rfl ?rd ?one ?byt ?len ?_)
              case own => exact (HS4.out.quiet ((Keep.refl Nil w4).alloc _)).rowA
              case rd => exact rd_new _ _ _ _ _ _
              case one => simp [Value.oneCell', ptrV]
              case byt => omega
              case len => unfold maxLen; omega
              intro a3 c3 w5 ho hg hs
              have HR5 := hid ho
              have HK5 := hid (show Keep (fun k => va.ownBlock = some k) w4 w5 from Keep.grown ((Keep.refl _ w4).alloc _) hg (fun j hj => .inl hj))
              have HB5 := hid (show ∀ k, (Value.slice a3 (xs.length + 1) c3).ownBlock = some k → va.ownBlock = some k ∨ w4.heap.size ≤ k from fun k e => (hs k e).imp id (fun h => by simp at h; omega))
              clear ho hg hs
              go_wp2_with (at_builtin; refine wpList_app _ rfl _ _ 113 rfl 116 _ 1 8 Tryz.underlying113 infoPB rfl (by decide) vb bl.length (bl.map ptrV) rfl ?own2 _ 1 [ptrV p] rfl ?rd2 ?one2 ?byt2 ?len2 ?_)
              case own2 => exact row_keep HS4.out.rowB (HK5.out.alloc _) (fun k e e' => (HS4.out.ne k e').1 e)
              case rd2 => exact rd_new _ _ _ _ _ _
              case one2 => simp [Value.oneCell', ptrV]
              case byt2 => have := HLB.out; omega
              case len2 => have := HLB.out; unfold maxLen; omega
              intro a4 c4 w6 ho hg hs
              have HR6 := hid ho
              have HK6 := hid (show Keep (fun k => vb.ownBlock = some k) w5 w6 from Keep.grown ((Keep.refl _ w5).alloc _) hg (fun j hj => .inl hj))
              have HB6 := hid (show ∀ k, (Value.slice a4 (bl.length + 1) c4).ownBlock = some k → vb.ownBlock = some k ∨ w5.heap.size ≤ k from fun k e => (hs k e).imp id (fun h => by simp at h; omega))
              clear ho hg hs
              have HF := hid (SM.grown HT4.out HS4.out HI.out (show OJ c.sl o.t o.s ⟨x.t, 0, false, 0⟩ by rw [HO.out.1, HO.out.2]; exact OJ.init (by have := HSL.out.1; omega) HBT.out.1 HBT.out.2) HR5.out HK5.out HB5.out HR6.out HK6.out HB6.out)
              go_wp2
              go_meet
              exact ⟨_, _, rfl, rfl, HF⟩
        have e0 : (x.what % 6 == 0) = false := beq_eq_false_iff_ne.2 d0
        by_cases d4 : x.what % 6 = 4
        · as_aux_lemma =>
            have e4 : (x.what % 6 == 4) = true := beq_iff_eq.2 d4
            clear d4 d0
            obtain ⟨er, her⟩ : ∃ er, er = clErr c.sl X.1 x.t x.n := ⟨_, rfl⟩
            have HCA := hid (show ∀ (W' : World) (Y : List Int × List Acc), SMT w1 W' L c b mb rb rm ll X Y xs qs bl → Calls Tryz.prog 12 #[.pointer (some ⟨b, 0, none⟩), .int .i64 x.t, .int .i64 x.n] W' (SClA w1 W' L c b mb rb rm ll X Y xs qs bl er (clTo c.sl X x.t x.n)) from fun W' Y h => her ▸ s_closeA h HC.out HI.out.sl (by have := HI.out.log; have := HXS.out.1; omega) x.t x.n)
            have HCB := hid (show ∀ (W' : World) (Y : List Int × List Acc), SMT w1 W' L c b mb rb rm ll Y X xs qs bl → Calls Tryz.prog 51 #[.pointer (some ⟨rb, 0, none⟩), .int .i64 x.t, .int .i64 x.n] W' (SClB w1 W' L c b mb rb rm ll Y X xs qs bl er (clTo c.sl X x.t x.n)) from fun W' Y h => her ▸ s_closeB h HC.out HI.out.sl (by have := HI.out.log; have := HXS.out.1; omega) x.t x.n)
            have hne : (er != er) = false := by simp
            clear her
            have HD := hid (HT.out.quiet ((Keep.refl Nil W).drew))
            have HDS := hid (HS.out.quiet ((Keep.refl Nil W).drew))
            have HDX := hid (HX.out.quiet ((Keep.refl Nil W).drew))
            go_upto_region 28 with fail
            go_region_held3 (fun w' => w'.cell? ⟨tb, 0, none⟩ = some (.pointer (some ⟨b, 0, none⟩)) ∧ w'.cell? ⟨tb, 1, none⟩ = some (.pointer (some ⟨rb, 0, none⟩)) ∧ w'.cell? ⟨xb, 1, none⟩ = some (.int .i64 x.t) ∧ w'.cell? ⟨xb, 2, none⟩ = some (.int .i64 x.n) ∧ w'.cell? ⟨xb, 3, none⟩ = some (.int .u64 x.v)) (first | (exact s9; done) | go_keep)
              (first
                | (go_at_call 12; (with_reducible refine (HCA.out _ _ XB.out).mono ?_); rintro e w5 ⟨rfl, h1, k1⟩; have SF := hid (SB.out.out k1); have YF := hid (YB.out.out k1 HLX.out); have s9 := conj5 SF.out YF.out; have sz := size2 SF.out YF.out; have XF := hid h1; clear h1 k1)
                | (go_at_call 12; (with_reducible refine (HCA.out _ _ HD.out).mono ?_); rintro e w5 ⟨rfl, h1, k1⟩; have SA := hid (HDS.out.out k1); have YA := hid (HDX.out.out k1 HLX.out); have s9 := conj5 SA.out YA.out; have sz := size2 SA.out YA.out; have XA := hid h1; clear h1 k1)
                | (go_at_call 51; (with_reducible refine (HCB.out _ _ XA.out).mono ?_); rintro e w5 ⟨rfl, h1, k1⟩; have SF := hid (SA.out.out k1); have YF := hid (YA.out.out k1 HLX.out); have s9 := conj5 SF.out YF.out; have sz := size2 SF.out YF.out; have XF := hid h1; clear h1 k1)
                | (go_at_call 51; (with_reducible refine (HCB.out _ _ HD.out).mono ?_); rintro e w5 ⟨rfl, h1, k1⟩; have SB := hid (HDS.out.out k1); have YB := hid (HDX.out.out k1 HLX.out); have s9 := conj5 SB.out YB.out; have sz := size2 SB.out YB.out; have XB := hid h1; clear h1 k1))
            all_goals
              go_wp2
              go_meet
              exact ⟨_, _, rfl, rfl, hid ⟨L, clTo c.sl X x.t x.n, xs, qs, bl, XF.out, SF.out, HI.out.turn (clTo_len c.sl X x.t x.n).1 (clTo_wf HI.out.wf x.t x.n) (clTo_len c.sl X x.t x.n).2⟩⟩
        have e4 : (x.what % 6 == 4) = false := beq_eq_false_iff_ne.2 d4
        by_cases d5 : x.what % 6 = 5
        · as_aux_lemma =>
            have e5 : (x.what % 6 == 5) = true := beq_iff_eq.2 d5
            clear d5 d4 d0
            obtain ⟨r0, r16, r1⟩ := rl5 HT.out
            obtain ⟨zr, zl⟩ := rl5z HT.out
            obtain ⟨k, hk⟩ : ∃ k : Nat, x.n % (c.sl : Int) = (k : Int) := ⟨(x.n % (c.sl : Int)).toNat, by have := Int.emod_nonneg x.n (show (c.sl : Int) ≠ 0 by have := HSL.out.1; omega); omega⟩
            have hkl : k < c.sl := by have := Int.emod_lt_of_pos x.n (show (0 : Int) < (c.sl : Int) by have := HSL.out.1; omega); omega
            have HMOD := hid (show ∀ w', Calls Tryz.prog 24 #[.int .i64 x.n, .int .i64 c.sl] w' (fun e w'' => e = .returned (.int .i64 k) ∧ w' = w'') from fun w' => by
              have := mod_ok x.n (c.sl : Int) HWF.out.2.1.1 (by have := HWF.out.2.1.2; omega) (by have := HSL.out.1; omega) (by have := HSL.out.2; omega) w'
              rw [hk] at this
              exact this)
            have HKL := hid hkl
            have wk : IntKind.i64.wrap (0 + (k : Int)) = (k : Int) := by have := HSL.out.2; rw [IntKind.wrap_i64]; omega
            have wk2 : IntKind.i64.wrap (k : Int) = (k : Int) := by have := HSL.out.2; rw [IntKind.wrap_i64]; omega
            clear hk hkl
            have HD := hid (HT.out.quiet ((Keep.refl Nil W).drew))
            have HDS := hid (HS.out.quiet ((Keep.refl Nil W).drew))
            have HDX := hid (HX.out.quiet ((Keep.refl Nil W).drew))
            go_upto_region 31 with fail
            go_region_held3 (fun w' => (w'.cell? ⟨tb, 0, none⟩ = some (.pointer (some ⟨b, 0, none⟩)) ∧ w'.cell? ⟨tb, 1, none⟩ = some (.pointer (some ⟨rb, 0, none⟩)) ∧ w'.cell? ⟨xb, 1, none⟩ = some (.int .i64 x.t) ∧ w'.cell? ⟨xb, 2, none⟩ = some (.int .i64 x.n) ∧ w'.cell? ⟨xb, 3, none⟩ = some (.int .u64 x.v)) ∧ w'.cell? ⟨rb, 0, none⟩ = some (.pointer (some ⟨ll, 0, none⟩)) ∧ w'.cell? ⟨ll, 16, none⟩ = some (.int .i64 0) ∧ w'.cell? ⟨ll, 1, none⟩ = some (.int .i64 c.sl)) (first | (exact s9; done) | go_keep)
              (first
                | (go_at_call 24; (with_reducible refine (HMOD.out _).mono ?_); rintro e w5 ⟨rfl, rfl⟩)
                | (go_at_call 52; (with_reducible refine (s_store HD.out k x.v (by have := HI.out.sl; have := HKL.out; omega) (by have := HI.out.log; have := HXS.out.1; omega)).mono ?_); rintro e w5 ⟨rfl, h1, k1⟩; have SF := hid (HDS.out.out k1); have YF := hid (HDX.out.out k1 HLX.out); have s9 := And.intro (conj5 SF.out YF.out) (rl5 h1); have sz := And.intro (size2 SF.out YF.out) (rl5z h1); have XF := hid h1; clear h1 k1))
            all_goals
              go_wp2
              go_meet
              exact ⟨_, _, rfl, rfl, hid ⟨L, _, xs, qs, bl, XF.out, SF.out, HI.out.turn (by simp) (set_wf2 HI.out.wf k ⟨HWF.out.2.2.1, HWF.out.2.2.2⟩) (by simp)⟩⟩
        have e5 : (x.what % 6 == 5) = false := beq_eq_false_iff_ne.2 d5
        clear d5 d4 d0
        by_cases hnx : xs.length = 0
        · obtain ⟨aA, cA, rfl⟩ := row_slice HS.out.rowA
          have dz : ((xs.length : Int) == 0) = true := beq_iff_eq.2 (by omega)
          have HF := hid (show SM w1 W c b mb rb rm ll tb (i + 1) (.slice aA xs.length cA) vb from ⟨L, X, xs, qs, bl, HT.out, HS.out, HI.out.mono (by omega)⟩)
          clear hnx
          go_wp2
          go_roundw
          case rel => exact ⟨i + 1, _, _, by omega, by omega, by go_num, rfl, rfl, HF⟩
          case measure => simp [intOf]; omega
        · as_aux_lemma =>
            have hnum : xs.length ≤ 80 := by have := HI.out.num; omega
            obtain ⟨k, hk⟩ : ∃ k : Nat, x.n % (xs.length : Int) = (k : Int) := ⟨(x.n % (xs.length : Int)).toNat, by have := Int.emod_nonneg x.n (show (xs.length : Int) ≠ 0 by omega); omega⟩
            have hkl : k < xs.length := by have := Int.emod_lt_of_pos x.n (show (0 : Int) < (xs.length : Int) by omega); omega
            have HMOD := hid (show ∀ w', Calls Tryz.prog 24 #[.int .i64 x.n, .int .i64 xs.length] w' (fun e w'' => e = .returned (.int .i64 k) ∧ w' = w'') from fun w' => by
              have := mod_ok x.n (xs.length : Int) HWF.out.2.1.1 (by have := HWF.out.2.1.2; omega) (by omega) (by omega) w'
              rw [hk] at this
              exact this)
            obtain ⟨o, ho⟩ : ∃ o, xs[k]? = some o := ⟨_, List.getElem?_eq_getElem hkl⟩
            obtain ⟨q, hq⟩ : ∃ q, qs[k]? = some q := ⟨_, List.getElem?_eq_getElem (by have := HI.out.lq; omega)⟩
            obtain ⟨p, hp⟩ : ∃ p, bl[k]? = some p := ⟨_, List.getElem?_eq_getElem (by have := HI.out.lb; omega)⟩
            obtain ⟨gA, cA, rfl, ra, za, -⟩ := HS.out.at ho
            obtain ⟨gB, cB, rfl, rp, zb, -⟩ := HS.out.bt hp
            have HO := hid ho
            have HQ := hid hq
            have HP := hid hp
            have HJ := hid (HI.out.oj k o q ho hq)
            obtain ⟨nv, hnA, hnB⟩ := s_next (c := c) (b := b) (rb := rb) (p := p) HJ.out
            have HNA := hid (show ∀ w1, OpenAt w1 o.o b o.t o.s o.a o.cp → Calls Tryz.prog 11 #[.pointer (some ⟨o.o, 0, none⟩)] w1 fun e w' => e = .returned (.int .u8 nv) ∧ w1 = w' from hnA)
            have HNB := hid (show ∀ w1, ROAt w1 p rb q → Calls Tryz.prog 53 #[.pointer (some ⟨p, 0, none⟩)] w1 fun e w' => e = .returned (.int .u8 nv) ∧ w1 = w' from hnB)
            have HKL := hid hkl
            have dz : ((xs.length : Int) == 0) = false := beq_eq_false_iff_ne.2 (by omega)
            have k0 : (0 : Int) ≤ (k : Int) := by omega
            have k1 : (k : Int) < (xs.length : Int) := by omega
            have k2 : (k : Int) < (bl.length : Int) := by have := HI.out.lb; omega
            clear hnx hk hkl ho hq hp hnA hnB hnum
            go_wp2_with fail
            refine (HMOD.out _).mono ?_
            rintro e w' ⟨rfl, rfl⟩
            go_wp2
            go_quiet (first | (go_at_call 11; exact quiet_eq (HNA.out _ (SMT.ob (HT.out.quiet ((Keep.refl Nil _).drewN _)) HO.out))) | (go_at_call 53; exact quiet_eq (HNB.out _ (SMT.rob (HT.out.quiet ((Keep.refl Nil _).drewN _)) HP.out HQ.out))))
            obtain ⟨V, hV⟩ : ∃ V, V = W.drewN nq := ⟨_, rfl⟩
            rw [← hV]
            have hkV : Keep Nil W V := hV ▸ (Keep.refl Nil W).drewN _
            have HTV := hid (HT.out.quiet hkV)
            have HSV := hid (HS.out.quiet hkV)
            clear hV hkV c0 c1 g1 g2 g3 z0 z1 ra rp za zb q0
            obtain ⟨ra, za⟩ := HSV.out.cellA HO.out
            obtain ⟨rp, zb⟩ := HSV.out.cellB HP.out
            obtain ⟨pc, done, X', s', q', hst⟩ := s_step HTV.out HC.out HI.out.sl HI.out.wf (by have := HI.out.log; have := HXS.out.1; omega) HO.out HQ.out HP.out HJ.out
            have HST := hid hst
            clear hst
            go_wp2_with fail
            refine HST.out.a.mono ?_
            rintro e w3 ⟨rfl, o', ho1, ho2, ho3, ht3, hk3⟩
            have HT3 := hid ht3
            have HS3 := hid ((HSV.out.out hk3).set HO.out ho1)
            have HJ3 := hid (show OJ c.sl o'.t o'.s q' by rw [ho2, ho3]; exact HST.out.oj)
            clear ht3 hk3 ho1 ho2 ho3 ra rp za zb
            obtain ⟨rp, zb⟩ := HS3.out.cellB HP.out
            go_wp2_with fail
            refine (HST.out.b w3 _ HT3.out).mono ?_
            rintro e w4 ⟨rfl, ht4, hk4⟩
            have HT4 := hid ht4
            have HS4 := hid (HS3.out.out hk4)
            have HO4 := hid (show (xs.set k o')[k]? = some o' by have := HKL.out; simp [this])
            have HQ4 := hid (show (qs.set k q')[k]? = some q' by have := HKL.out; have := HI.out.lq; rw [List.getElem?_set_self (by omega)])
            clear ht4 hk4 rp zb
            obtain ⟨ra, za⟩ := HS4.out.cellA HO4.out
            obtain ⟨u, er, hrA, hrB⟩ := s_res (c := c) (b := b) (rb := rb) (p := p) HJ3.out
            have HRA := hid (show ∀ w1, OpenAt w1 o'.o b o'.t o'.s o'.a o'.cp → Calls Tryz.prog 10 #[.pointer (some ⟨o'.o, 0, none⟩)] w1 fun e w' => e = .returned (.tuple #[.int .i64 u, .int .i64 er]) ∧ Keep Nil w1 w' from hrA)
            have HRB := hid (show ∀ w1, ROAt w1 p rb q' → Calls Tryz.prog 55 #[.pointer (some ⟨p, 0, none⟩)] w1 fun e w' => e = .returned (.tuple #[.int .i64 u, .int .i64 er]) ∧ Keep Nil w1 w' from hrB)
            clear hrA hrB
            go_wp2_with fail
            refine (HRA.out w4 (SMT.ob HT4.out HO4.out)).mono ?_
            rintro e w5 ⟨rfl, hk5⟩
            have HT5 := hid (HT4.out.quiet hk5)
            have HS5 := hid (HS4.out.quiet hk5)
            clear hk5 ra za
            obtain ⟨rp, zb⟩ := HS5.out.cellB HP.out
            go_wp2_with fail
            refine (HRB.out w5 (SMT.rob HT5.out HP.out HQ4.out)).mono ?_
            rintro e w6 ⟨rfl, hk6⟩
            have HF := hid (show SM w1 w6 c b mb rb rm ll tb (i + 1) (.slice (some ⟨gA, 0, none⟩) xs.length cA) (.slice (some ⟨gB, 0, none⟩) bl.length cB) from ⟨L, X', xs.set k o', qs.set k q', bl, HT5.out.quiet hk6, HS5.out.quiet hk6, (HI.out.turn HST.out.len HST.out.wf HST.out.log).set HJ3.out⟩)
            have n1 : (nv != nv) = false := by simp
            have n2 : (pc != pc) = false := by simp
            have n3 : (done != done) = false := by simp
            have n4 : (u != u) = false := by simp
            have n5 : (er != er) = false := by simp
            clear hk6
            go_wp2
            go_meet
            exact ⟨_, _, rfl, rfl, HF⟩
      case rest =>
        as_aux_lemma =>
          obtain ⟨va2, vb2, hva2, hvb2, HSM2⟩ := hcut
          obtain rfl : va2 = _ := hva2.symm
          obtain rfl : vb2 = _ := hvb2.symm
          clear HT HS HX HLX HI q0 c0 c1 g1 g2 g3 z0 z1 hva2 hvb2
          obtain ⟨L2, X2, xs2, qs2, bl2, ht2, hr2, hi2⟩ := HSM2.out
          have HT2 := hid ht2
          have HI2 := hid hi2
          obtain ⟨c0, c1, z0⟩ := HSM2.out.box
          obtain ⟨own, hown⟩ : ∃ own, own = (X2.1.take c.sl).map ownOf := ⟨_, rfl⟩
          have hol : own.length = c.sl := by rw [hown]; have := hi2.sl; simp; omega
          have HOA := hid (hown ▸ s_ownA HT2.out HC.out HI2.out.sl HI2.out.wf)
          have HOB := hid (show ∀ w', Keep Nil wc w' → Calls Tryz.prog 56 #[.pointer (some ⟨rb, 0, none⟩)] w' (ROwnTo w' own) from fun w' hk => hown ▸ s_ownB (HT2.out.quiet hk) HC.out HI2.out.sl HI2.out.wf)
          clear ht2 hr2 hi2 hown
          go_wp2_with fail
          refine HOA.out.mono ?_
          rintro e w5 ⟨g, he, hg, hgz, hk5⟩
          rw [hol] at he
          subst he
          have HG := hid hg
          have HK5 := hid hk5
          have HGZ := hid hgz
          have c0 := hk5.cell c0 (fun h => h)
          have c1 := hk5.cell c1 (fun h => h)
          have z0 : tb < w5.heap.size := by have := hk5.size; omega
          clear hg hk5 hgz HOA
          go_wp2_with fail
          refine (HOB.out w5 HK5.out).mono ?_
          rintro e w6 ⟨ra, rc, he, hrd, hk6⟩
          rw [hol] at he
          subst he
          have HRB := hid hrd
          have HK6 := hid hk6
          clear hrd hk6 HOB c0 c1 z0
          go_wp2_with fail
          refine (eqI_yes _ _ own _ (by rw [hol]; exact hol ▸ own_rd HG.out HK6.out) (by rw [hol]; exact hol ▸ HRB.out) (by have := HSL.out.2; omega)).mono ?_
          rintro e w7 ⟨rfl, hk7⟩
          have HK7 := hid (HK5.out.trans (HK6.out.trans hk7 (fun _ _ h => h)) (fun _ _ h => h))
          have HG7 := hid ((HK6.out.trans hk7 (fun _ _ h => h)).at HG.out (fun h => h))
          clear hk7
          go_wp2
          go_loopw [27] (fun kv wz => ∃ (k : Nat) (ow : List Int), k ≤ c.sl ∧ kv = .int .i64 k ∧ ow.length = c.sl ∧ wz.heap[g]? = some (.cells (i64s ow).toArray 3 (0, 0)) ∧ Keep Nil wc wz) (fun kv _ => c.sl - (intOf kv).toNat)
          case atStart => exact ⟨0, own, Nat.zero_le _, rfl, hol, HG7.out, HK7.out⟩
          case round =>
            obtain ⟨k, ow, hk, rfl, how, hgw, hkw⟩ := hrel
            have HKW2 := hid hkw
            have HGW := hid hgw
            clear hkw
            by_cases hlk : k < c.sl
            · have dk : decide ((k : Int) < (c.sl : Int)) = true := decide_eq_true (by omega)
              have k0 : (0 : Int) ≤ (k : Int) := by omega
              have k1 : (k : Int) < (c.sl : Int) := by omega
              have wk : IntKind.i64.wrap ((k : Int) + 1) = (k : Int) + 1 := by rw [IntKind.wrap_i64]; have := HSL.out.2; omega
              obtain ⟨y, hy⟩ : ∃ y, ow[k]? = some y := ⟨_, List.getElem?_eq_getElem (by omega)⟩
              have cx : wr.cell? ⟨g, k, none⟩ = some (.int .i64 y) := by rw [cell_of hgw]; simp [i64s, hy]
              have fx : wr.frozen? ⟨g, k, none⟩ = false := free_of hgw k
              clear hgw hy
              go_wp2
              go_roundw
              case rel =>
                refine ⟨k + 1, ow.set k (-2), by omega, by go_num, by rw [List.length_set]; exact how, ?_, ?_⟩
                · rw [set_same HGW.out, i64s_set]
                · exact HKW2.out.trans ((Keep.refl (fun j => j = g) wr).setCell (p := ⟨g, k, none⟩) (.inl rfl) _) (fun j hj e => by have := HGZ.out; have e' : j = g := e; omega)
              case measure => simp [intOf]; omega
            · obtain rfl : k = c.sl := by omega
              have dk : decide ((c.sl : Int) < (c.sl : Int)) = false := decide_eq_false (by omega)
              clear hlk hgw
              go_wp2
              go_roundw
              case rel => exact ⟨i + 1, _, _, by omega, by omega, by go_num, rfl, rfl, hid (HSM2.out.quiet HKW2.out)⟩
              case measure => simp [intOf]; omega
    · as_aux_lemma =>
        have hcond : l.length ≤ i ∨ 80 ≤ i := by omega
        obtain ⟨L2, X2, xs2, qs2, bl2, ht2, hr2, hi2⟩ := HSM.out
        have HT2 := hid ht2
        have HI2 := hid hi2
        obtain ⟨c0, c1, z0⟩ := HSM.out.box
        have HF := hid (g_same (x := X2) (memL_objsB (OpB b) c b mb) (rmemL_objs (ROpO rb) c rb rm ll) HT2.out rfl rfl HC.out (by rw [HI2.out.len]; have := words_le c HC.out; omega) (by have := HI2.out.log; omega))
        clear ht2 hr2 hi2
        by_cases hl1 : i < l.length
        · have d1 : decide ((i : Int) < (l.length : Int)) = true := decide_eq_true (by omega)
          have d2 : decide ((i : Int) < 80) = false := decide_eq_false (by omega)
          have i1 : ((i : Int) < (l.length : Int)) = True := eq_true (by omega)
          have i2 : ((i : Int) < 80) = False := eq_false (by omega)
          clear hlt hcond hl1
          go_wp2_with fail
          refine HF.out.mono ?_
          rintro e w4 ⟨rfl, hk4⟩
          go_wp2_with fail
          refine awake_ok.mono ?_
          rintro e w5 ⟨rfl, hk5⟩
          go_wp2
          go_ret
          exact ⟨rfl, HKW.out.trans (HSM.out.own.trans (hk4.trans hk5 (fun _ _ h => h)) (fun _ _ h => h)) (fun _ _ h => h)⟩
        · have d1 : decide ((i : Int) < (l.length : Int)) = false := decide_eq_false (by omega)
          have i1 : ((i : Int) < (l.length : Int)) = False := eq_false (by omega)
          clear hlt hcond hl1
          go_wp2_with fail
          refine HF.out.mono ?_
          rintro e w4 ⟨rfl, hk4⟩
          go_wp2_with fail
          refine awake_ok.mono ?_
          rintro e w5 ⟨rfl, hk5⟩
          go_wp2
          go_ret
          exact ⟨rfl, HKW.out.trans (HSM.out.own.trans (hk4.trans hk5 (fun _ _ h => h)) (fun _ _ h => h)) (fun _ _ h => h)⟩
end
end Go.Proofs.YtjghenomeindcaaGreat
