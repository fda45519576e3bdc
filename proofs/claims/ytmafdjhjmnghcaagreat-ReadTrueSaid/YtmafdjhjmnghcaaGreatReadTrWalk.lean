/- ReadTrue: whatever a writer does meanwhile, what a read returns was so at some moment of it: the walk. -/
import Derived.Test.YtmafdjhjmnghcaaGreatReadTS
import Derived.Test.YtmafdjhjmnghcaaGreatOpenBools
import Derived.Deep.DeepCutAuto
set_option linter.unusedVariables false
set_option linter.unusedSimpArgs false
namespace Go.Proofs.YtmafdjhjmnghcaaGreat
open Go.RowKit Go.Lf
attribute [local go_sem] fld0 fld1 fld2 fld3 fld4 fld5 fld6 fld7 fld8 fld9 fldc fldl
section
theorem storesP_len (lk : Nat) (born : Bool) (l : List DeedV) : ∀ (m : List DeedP) (g : Nat → Int), (deedsP g m).length ≤ 6 * m.length
  | [], g => by simp [deedsP]
  | y :: m, g => by
    have h1 := storesP_len lk born l m g
    have h2 := storesP_len lk born l m (Go.Lf.upd g y.entry)
    rw [deedsP]
    split
    · simp; omega
    · split
      · simp; omega
      · simp; omega
theorem eight_rng {lk : Nat} (h1 : 1 ≤ lk) {l : List DeedV} (hl : ∀ y ∈ l, y.wf) : ∀ y ∈ eightP lk l, y.entry < lk ∧ 0 ≤ y.val ∧ y.val < 18446744073709551616 := by
  intro y hy
  obtain ⟨z, hz, rfl⟩ := List.mem_map.1 hy
  obtain ⟨-, -, w3⟩ := hl z (List.mem_of_mem_take hz)
  obtain ⟨v0, v1⟩ := u64_wf w3
  have e0 := Int.emod_nonneg z.entry (show (lk : Int) ≠ 0 by omega)
  have e1 := Int.emod_lt_of_pos z.entry (show (0 : Int) < (lk : Int) by omega)
  exact ⟨by show (z.entry % (lk : Int)).toNat < lk; omega, v0, v1⟩
theorem eight_len (lk : Nat) (l : List DeedV) : (eightP lk l).length ≤ 8 := by unfold eightP; rw [List.length_map, List.length_take]; omega
theorem stores_rng {lk : Nat} (h1 : 1 ≤ lk) (h16 : lk ≤ 16) (born : Bool) {l : List DeedV} (hl : ∀ y ∈ l, y.wf) : ∀ st ∈ storesP lk born l, st.rng lk := by
  unfold storesP
  split
  · exact born_rng h16 h1 _ (eight_len lk l) (eight_rng h1 hl)
  · exact deeds_rng h16 _ _ (fun e => ⟨Int.le_refl 0, by have := eight_len lk l; omega⟩) (eight_rng h1 hl)
theorem stores_wok {lk : Nat} (h1 : 1 ≤ lk) (h16 : lk ≤ 16) (born : Bool) {l : List DeedV} (hl : ∀ y ∈ l, y.wf) (v a : Int) : WOk (lk : Int) ⟨if born = true then 3 else 1, v, a, fun _ => 0⟩ (storesP lk born l) := by
  have he : ∀ y ∈ eightP lk l, (y.entry : Int) < (lk : Int) := fun y hy => by have := (eight_rng h1 hl y hy).1; omega
  unfold storesP
  cases born with
  | true => exact born_ok (by omega) (by omega) _ _ rfl (fun _ => rfl) (eight_len lk l) he
  | false => exact deeds_ok (by omega) (by omega) _ _ _ rfl (fun _ => rfl) (fun e => ⟨Int.le_refl 0, by have := eight_len lk l; omega⟩) he
theorem PI.init (n v a : Int) (S : Int) (tr : Int) : PI n ⟨S, v, a, fun _ => 0⟩ [] false false (RS.init 1 1 tr) 0 :=
  ⟨rfl, rfl, Int.le_refl 0, fun e => (by cases e), fun _ => ⟨init_good _ _ _ _, rfl, RI.triv rfl, fun _ => rfl⟩⟩
theorem snB_len (b : Bool) (sh : Int × Bool) (sn : List Int) : (snB b sh sn).length ≤ sn.length + 1 := by
  unfold snB; split
  · simp
  · omega
set_option maxRecDepth 100000 in
set_option maxHeartbeats 16000000 in
theorem walk_rtrue (w : World) (z : ConfV) (hz : ConfArg w z) (born : Bool) (v : Int) (bv : (Lit.int .u64 v).wf = true) (vd : Value) (ds : List DeedV) (rdd : Rd w 3 vd ds.length (deedCells ds)) (bd : ∀ y ∈ ds, DeedV.wf y) (mld : ds.length ≤ maxLen)
    (vo : Value) (os : List Bool) (rdo : Rd w 1 vo os.length (boolCells os)) (_bo : ∀ y ∈ os, True) (mlo : os.length ≤ maxLen) (tr : Int) (bt : (Lit.int .i64 tr).wf = true) :
    Calls Tryz.prog 8 #[z.val, .bool born, .int .u64 v, vd, vo, .int .i64 tr] w fun e w' => e = .returned (.bool true) ∧ Keep Nil w w' := by
  obtain ⟨v0, v1⟩ := u64_wf bv
  obtain ⟨tr0, tr1⟩ := i64_wf bt
  obtain ⟨da, dc, rfl, -, -⟩ := id rdd
  obtain ⟨oa, oc, rfl, -, -⟩ := id rdo
  have HRDD := hid rdd
  have HRDO := hid rdo
  have HBD := hid bd
  have HML := hid (And.intro mld mlo)
  have HZ := hid hz
  have HC0 := hid z.ok
  have r0 : 0 ≤ tr % 256 := Int.emod_nonneg _ (by decide)
  have r1 : tr % 256 ≤ 255 := by omega
  clear hz bv bt rdd rdo bd mld mlo _bo
  unfold ConfV.val
  go_enter Tryz.func8, Tryz.ntmps8
  go_wp2_with fail
  refine (small_ok z (HZ.out.keep ((Keep.refl Nil w).alloc _))).mono ?_
  rintro e w1 ⟨a1, cp1, rfl, hr1, hk1, -⟩
  have HR1 := hid hr1
  have HK1 := hid (show Keep Nil w w1 from ((Keep.refl Nil w).alloc _).trans hk1 (fun _ _ h => h))
  clear hr1 hk1
  go_wp2_with fail
  refine (small_new z HR1.out).mono ?_
  rintro e w2 hnew
  obtain ⟨b, mb, rfl, hs⟩ := SW.new HK1.out hnew
  obtain ⟨V1, hV1⟩ : ∃ V : Value, V = cfgV z.c (z.t1 % 7).toNat (z.t2 % 7).toNat (z.t3 % 7).toNat (z.t4 % 7).toNat (z.t5 % 7).toNat (z.t6 % 7).toNat a1 cp1 := ⟨_, rfl⟩
  rw [← hV1]
  obtain ⟨c, hc⟩ : ∃ c, c = z.c := ⟨_, rfl⟩
  rw [← hc] at hs HC0
  have HC := hid HC0.out
  have HS := hid hs
  clear hV1 hnew hs HR1 hc HC0 HK1 HZ
  go_wp2_with fail
  refine (sw_layout HS.out).mono ?_
  rintro e w3 ⟨L, rfl, hl, rfl⟩
  have HLAY := hid hl
  clear hl
  have hnt := HC.out.nT
  go_wp2_with fail
  refine (towers_ok HLAY.out).mono ?_
  rintro e w3 ⟨rfl, rfl⟩
  clear HLAY
  by_cases hz : c.nT = 0
  · have dz : (((c.nT : Nat) : Int) == 0) = true := beq_iff_eq.2 (by omega)
    clear hnt hz
    go_wp2_with fail
    refine (lawake_ok).mono ?_
    rintro e w21 ⟨rfl, hk⟩
    have HK9 := hid (HS.out.own.trans hk (fun _ _ h => h))
    clear hk
    go_wp2
    go_ret
    exact ⟨rfl, HK9.out⟩
  · have dz : (((c.nT : Nat) : Int) == 0) = false := beq_eq_false_iff_ne.2 (by omega)
    have HN := hid (show 0 < c.nT by omega)
    have HLK := hid (show 1 ≤ c.lk ∧ c.lk ≤ 16 from ⟨HC.out.lk1, HC.out.lk2⟩)
    obtain ⟨xs, xv, xa, hvl⟩ := init_view HC.out HN.out
    have HV0 := hid (show VS w w2 c b mb ⟨xs, xv, xa, fun _ => 0⟩ 0 from ⟨_, _, HS.out, WdOk.init HC.out, hvl, Nat.le_refl _⟩)
    clear hnt hz hvl
    go_wp2_with fail
    refine (sw_mem HS.out).mono ?_
    rintro e w4 ⟨rfl, rfl⟩
    go_wp2_with fail
    refine (word_ok HS.out HC.out HN.out 1 1 ((c.tow 0 : Int) + 1) (by decide) (by decide) (by decide) rfl).mono ?_
    rintro e w4 ⟨rfl, rfl⟩
    clear HS
    go_wp2_with fail
    refine (vs_put HV0.out HN.out (.V v) ⟨trivial, v0, v1⟩ _ v (by simp [WSt.addr]) rfl (by decide)).mono ?_
    rintro e w5 ⟨rfl, hv⟩
    have HV1 := hid hv
    obtain ⟨wsA, logA, hsA⟩ := hv.sw
    have HSA := hid hsA
    clear hv hsA HV0
    go_wp2_with fail
    refine (word_ok HSA.out HC.out HN.out 1 4 ((c.tow 0 : Int) + 4) (by decide) (by decide) (by decide) rfl).mono ?_
    rintro e w6 ⟨rfl, rfl⟩
    go_wp2_with fail
    refine (lstate_ok 1 0 0 (by decide) (by decide) (by decide) (by decide) (by decide) (by decide) (by decide) 1 (by decide)).mono ?_
    rintro e w6 ⟨rfl, rfl⟩
    go_wp2_with fail
    refine (vs_put HV1.out HN.out (.S 1) ⟨trivial, by decide, by decide⟩ _ 1 (by simp [WSt.addr]) rfl (by decide)).mono ?_
    rintro e w7 ⟨rfl, hv⟩
    have HV2 := hid (show VS w w7 c b mb ⟨1, v, xa, fun _ => 0⟩ 2 from hv)
    obtain ⟨wsB, logB, hsB⟩ := hv.sw
    have HSB := hid hsB
    clear hv hsB HV1 HSA
    go_upto_if 54 with fail
    go_cut [] (fun wx => Hid (VS w wx c b mb ⟨if born = true then 3 else 1, v, xa, fun _ => 0⟩ 3))
    case first =>
      cases born with
      | false =>
        go_wp2
        go_meet
        exact hid (by obtain ⟨ws, log, h1, h2, h3, h4⟩ := HV2.out.ex; exact ⟨ws, log, h1, h2, h3, by omega⟩)
      | true =>
        go_wp2_with fail
        refine (word_ok HSB.out HC.out HN.out 1 4 ((c.tow 0 : Int) + 4) (by decide) (by decide) (by decide) rfl).mono ?_
        rintro e w8 ⟨rfl, rfl⟩
        go_wp2_with fail
        refine (lstate_ok 3 0 0 (by decide) (by decide) (by decide) (by decide) (by decide) (by decide) (by decide) 3 (by decide)).mono ?_
        rintro e w8 ⟨rfl, rfl⟩
        go_wp2_with fail
        refine (vs_put HV2.out HN.out (.S 3) ⟨trivial, by decide, by decide⟩ _ 3 (by simp [WSt.addr]) rfl (by decide)).mono ?_
        rintro e w9 ⟨rfl, hv⟩
        have HV3 := hid (show VS w w9 c b mb ⟨3, v, xa, fun _ => 0⟩ 3 from hv)
        clear hv
        go_wp2
        go_meet
        exact HV3
    case rest =>
      have HV := hcut
      clear hcut HV2 HSB
      go_wp2_with fail
      refine (mod_ok tr 256 tr0 tr1 (by decide) (by decide) _).mono ?_
      rintro e w9 ⟨rfl, rfl⟩
      go_wp2_with fail
      refine (vs_new HV.out HC.out HN.out (tr % 256) r0 r1).mono ?_
      rintro e w10 ⟨r, rfl, hrv⟩
      have HRV := hid hrv
      obtain ⟨wsC, logC, hsC, -⟩ := hrv.sw
      have HSC := hid hsC
      clear hrv hsC HV
      go_wp2_with fail
      refine (stores_ok HSC.out HC.out HN.out born da dc ds (rd_keep HRDD.out HSC.out.own (fun _ _ h => h)) HBD.out HML.out.1).mono ?_
      rintro e w11 ⟨ta, tc, rfl, hrd, hcap, hk11, hbl⟩
      have HTS0 := hid (TS.start HRV.out hk11 hrd hcap hbl (stores_rng HLK.out.1 HLK.out.2 born HBD.out))
      have HWOK := hid (stores_wok HLK.out.1 HLK.out.2 born HBD.out v xa)
      have hall : (storesP c.lk born ds).length ≤ 60 := by
        unfold storesP
        have h8 := eight_len c.lk ds
        split
        · have := storesP_len c.lk born ds (eightP c.lk ds) (Go.Lf.upd (fun _ => 0) 0)
          simp [bornP]; omega
        · have := storesP_len c.lk born ds (eightP c.lk ds) (fun _ => 0)
          omega
      obtain ⟨all, hal⟩ : ∃ all, all = storesP c.lk born ds := ⟨_, rfl⟩
      rw [← hal] at HTS0 HWOK hall ⊢
      have HALL := hid hall
      clear hrd hcap hk11 hbl hal hall HRV HSC HRDD HBD
      go_wp2
      go_loopw [17, 18, 19, 20, 21, 22] (fun td bg he gn se i wz => ∃ (k : Nat) (rest : List WSt) (ta : Option Addr) (tc : Nat) (sn : List Int) (sa : Option Addr) (scp : Nat) (x : Vw) (s : RS) (bgb gnb : Bool), k ≤ 120 ∧ i = .int .i64 k ∧ td = .slice ta rest.length tc ∧ bg = .bool bgb ∧ he = .bool (!sn.isEmpty) ∧ gn = .bool gnb ∧ se = .slice sa sn.length scp ∧ TS w wz c b mb r x (3 + k) s rest ta tc sn sa scp ∧ WOk (c.lk : Int) x rest ∧ PI (c.lk : Int) x sn gnb bgb s k ∧ sn.length ≤ k ∧ rest.length ≤ 60) (fun _ _ _ _ _ i _ => 120 - (intOf i).toNat)
      case atStart => exact ⟨0, all, ta, tc, [], none, 0, _, _, false, false, Nat.zero_le _, rfl, rfl, rfl, rfl, rfl, rfl, HTS0.out, HWOK.out, PI.init _ _ _ _ _, Nat.zero_le _, HALL.out⟩
      case round =>
        obtain ⟨k, rest, ta, tc, sn, sa, scp, x, s, bgb, gnb, hk, rfl, htd, hbg, hhe, hgn, hse, hts, hwk, hpi, hsn, hre⟩ := hrel
        subst htd hbg hhe hgn hse
        have HTS := hid hts
        have HWK := hid hwk
        have HPI := hid hpi
        have HSN := hid (show sn.length ≤ 1000000 by omega)
        have HSN2 := hid hsn
        have HRE := hid hre
        clear hts hwk hpi hsn hre HTS0 HWOK HALL
        by_cases hlt : k < os.length
        · have d1 : decide ((k : Int) < (os.length : Int)) = true := decide_eq_true (by omega)
          have e1 : decide (k < os.length) = true := decide_eq_true hlt
          by_cases h120 : k < 120
          · have d2 : decide ((k : Int) < 120) = true := decide_eq_true (by omega)
            have e2 : decide (k < 120) = true := decide_eq_true h120
            by_cases hen : s.ended = true
            · have hnx := (HPI.out.over hen).1
              have he1 : (s.next != 0) = false := by rw [hnx]; rfl
              have he2 : (s.next == 0) = true := by rw [hnx]; rfl
              have hen0 := hen
              clear hnx hen hlt h120
              go_wp2_with fail
              refine (rnext_ok HTS.out.rv.at_).mono ?_
              rintro e w12 ⟨rfl, rfl⟩
              cases hen : s.ended with
              | false =>
                rw [hen0] at hen
                cases hen
              | true =>
                obtain ⟨hn0, hov⟩ := HPI.out.over hen
                have HRS := hid (rres_ok HTS.out.rv.at_ hen)
                rcases hov with ⟨her, hp1, hp2⟩ | ⟨her, hv0, hp0⟩
                · have hrs := HRS.out
                  rw [her] at hrs
                  cases hpp : s.present with
                  | false =>
                    have hgn := hp2 hpp
                    rw [hpp] at hrs
                    clear HPI hp1 hp2 HRS
                    subst hgn
                    go_wp2_with fail
                    refine hrs.mono ?_
                    rintro e w20 ⟨rfl, hk⟩
                    have HK8 := hid (HTS.out.rv.own.trans hk (fun _ _ h => h))
                    clear hk hrs
                    go_wp2_with fail
                    refine (lawake_ok).mono ?_
                    rintro e w21 ⟨rfl, hk⟩
                    have HK9 := hid (HK8.out.trans hk (fun _ _ h => h))
                    clear hk
                    go_wp2
                    go_ret
                    exact ⟨rfl, HK9.out⟩
                  | true =>
                    have hmem := hp1 hpp
                    rw [hpp] at hrs
                    obtain ⟨vv, hvv⟩ : ∃ vv, vv = s.value := ⟨_, rfl⟩
                    rw [← hvv] at hrs hmem
                    have hne : sn.isEmpty = false := by cases sn with | nil => cases hmem | cons a l => rfl
                    have hnb : (!sn.isEmpty) = true := by rw [hne]; rfl
                    rw [hnb]
                    have HMEM := hid hmem
                    clear HPI hp1 hp2 HRS hmem hvv hne hnb
                    go_wp2_with fail
                    refine hrs.mono ?_
                    rintro e w20 ⟨rfl, hk⟩
                    have HTS2 := hid (HTS.out.quiet hk)
                    clear hk hrs HTS
                    obtain ⟨j0, hj0, hj1⟩ : ∃ j0, sn[j0]? = some vv ∧ j0 < sn.length := by
                      obtain ⟨j0, hj0⟩ := List.getElem?_of_mem HMEM.out
                      exact ⟨j0, hj0, (List.getElem?_eq_some_iff.1 hj0).1⟩
                    obtain ⟨gb, go, gc, hgv, hgc⟩ := Rd.cell (row_rd HTS2.out.seen) (by omega)
                    simp only [Value.slice.injEq] at hgv
                    obtain ⟨hg1, -, hg2⟩ := hgv
                    have HGC := hid hgc
                    have HJ0 := hid (And.intro hj0 hj1)
                    clear hgc hj0 hj1
                    subst hg1 hg2
                    go_wp2
                    go_loopw [28] (fun q wj => ∃ j : Nat, q = .int .i64 j ∧ wj = w20 ∧ j ≤ j0) (fun q _ => j0 + 1 - (intOf q).toNat)
                    case atStart => exact ⟨0, (by first | rfl | trivial), (by first | rfl | trivial), Nat.zero_le _⟩
                    case round =>
                      obtain ⟨j, rfl, hwj, hjj⟩ := hrel
                      subst hwj
                      have hjl : j < sn.length := by have := HJ0.out.2; omega
                      obtain ⟨y, hy⟩ : ∃ y, sn[j]? = some y := ⟨_, List.getElem?_eq_getElem hjl⟩
                      have HY := hid hy
                      have cy := HGC.out j (.int .u64 y) (u64s_at hy)
                      have f1 : decide ((j : Int) < (sn.length : Int)) = true := decide_eq_true (by omega)
                      have f2 : decide (j < sn.length) = true := decide_eq_true hjl
                      have y0 : (0 : Int) ≤ (j : Int) := by omega
                      have y1 : (j : Int) < (sn.length : Int) := by omega
                      have HSL := hid (show sn.length ≤ 1000000 from HSN.out)
                      have wj1 : IntKind.i64.wrap ((j : Int) + 1) = (j : Int) + 1 := by rw [IntKind.wrap_i64]; have := HSL.out; omega
                      clear hy
                      by_cases hq : y = vv
                      · have bq : (y == vv) = true := beq_iff_eq.2 hq
                        clear hq
                        go_wp2_with fail
                        refine (lawake_ok).mono ?_
                        rintro e w21 ⟨rfl, hk⟩
                        have HK9 := hid (HTS2.out.rv.own.trans hk (fun _ _ h => h))
                        clear hk
                        go_wp2
                        go_ret
                        exact ⟨rfl, HK9.out⟩
                      · have bq : (y == vv) = false := beq_eq_false_iff_ne.2 hq
                        have HNE := hid (show j < j0 from by
                          rcases Nat.lt_or_eq_of_le hjj with h | h
                          · exact h
                          · subst h
                            have h1 := HJ0.out.1
                            rw [HY.out] at h1
                            exact absurd (Option.some.inj h1) hq)
                        clear hq hjj
                        go_wp2
                        go_roundw
                        case rel => exact ⟨j + 1, by go_num, (by first | rfl | trivial), by have := HNE.out; omega⟩
                        case measure => have := HNE.out; simp [intOf]; omega
                · have hrs := HRS.out
                  rw [her, hv0, hp0] at hrs
                  clear HPI HRS
                  go_wp2_with fail
                  refine hrs.mono ?_
                  rintro e w20 ⟨rfl, hk⟩
                  have HK8 := hid (HTS.out.rv.own.trans hk (fun _ _ h => h))
                  clear hk hrs
                  go_wp2_with fail
                  refine (lawake_ok).mono ?_
                  rintro e w21 ⟨rfl, hk⟩
                  have HK9 := hid (HK8.out.trans hk (fun _ _ h => h))
                  clear hk
                  go_wp2
                  go_ret
                  exact ⟨rfl, HK9.out⟩
            · have hen' : s.ended = false := by simpa using hen
              have hgd := (HPI.out.on hen').1
              have hn0 : s.next ≠ 0 := by rcases hgd.nx with e | e | e | e | e <;> omega
              have he1 : (s.next != 0) = true := by simpa using hn0
              have he2 : (s.next == 0) = false := by simpa using hn0
              obtain ⟨ob, hob⟩ : ∃ ob, os[k]? = some ob := ⟨_, List.getElem?_eq_getElem hlt⟩
              obtain ⟨bb, off, cc, hv, hcell⟩ := Rd.cell HRDO.out (by omega)
              simp only [Value.slice.injEq] at hv
              obtain ⟨hv1, -, hv2⟩ := hv
              have HCO := hid (hcell k (.bool ob) (boolCells_at hob))
              have k0 : (0 : Int) ≤ (k : Int) := by omega
              have k1 : (k : Int) < (os.length : Int) := by omega
              have wk1 : IntKind.i64.wrap ((k : Int) + 1) = (k : Int) + 1 := by rw [IntKind.wrap_i64]; omega
              have cb : wr.cell? ⟨bb, off + k, none⟩ = some (.bool ob) := HTS.out.rv.own.cell HCO.out (fun h => h)
              have HEN := hid hen'
              have HGD := hid hgd
              have HK120 := hid h120
              clear hen hgd hn0 hob hcell hen' hk
              subst hv1 hv2
              go_wp2_with fail
              refine (rnext_ok HTS.out.rv.at_).mono ?_
              rintro e w12 ⟨rfl, rfl⟩
              go_upto_region 20 with fail
              go_cut [18] (fun q wx => q = .bool (bgb || ob) ∧ wx = wr)
              case first =>
                cases bgb
                all_goals
                  go_wp2
                  go_meet
                  exact ⟨rfl, rfl⟩
              case rest =>
                obtain ⟨hq, hwx⟩ := hcut
                subst hq hwx
                obtain ⟨sv, sp, hsh⟩ : ∃ sv sp, x.shown (c.lk : Int) = (sv, sp) := ⟨_, _, rfl⟩
                go_wp2_with fail
                refine (ts_shown HTS.out HC.out HN.out sv sp hsh).mono ?_
                rintro e w13 ⟨rfl, hts⟩
                have HTS1 := hid hts
                have HSH := hid hsh
                clear hts hsh HTS cb
                obtain ⟨B, hB⟩ : ∃ B, B = (bgb || ob) := ⟨_, rfl⟩
                rw [← hB]
                cases B with
                | false =>
                  obtain ⟨rfl, rfl⟩ : bgb = false ∧ ob = false := by cases bgb <;> cases ob <;> simp at hB <;> exact ⟨rfl, rfl⟩
                  clear hB
                  have cb : w13.cell? ⟨bb, off + k, none⟩ = some (.bool false) := HTS1.out.rv.own.cell HCO.out (fun h => h)
                  cases rest with
                  | nil =>
                    have l0 : decide ((0 : Int) < (([] : List WSt).length : Int)) = false := rfl
                    have hpn := HPI.out.idles HEN.out
                    rw [HSH.out] at hpn
                    have HPN := hid (show PI (c.lk : Int) x (sn) gnb false s (k + 1) from by simpa [snB, gnB] using hpn)
                    clear hpn
                    have HTS3 := hid (HTS1.out.more (3 + k + 1) (by omega))
                    go_wp2
                    go_roundw
                    case rel => exact ⟨k + 1, [], ta, tc, (sn), sa, scp, x, s, false, gnb, by have := HK120.out; omega, by go_num, rfl, (by first | rfl | trivial), by rfl, (by first | rfl | trivial), (by first | rfl | (rw [List.length_append]; rfl)), by rw [show 3 + (k + 1) = 3 + k + 1 by omega]; exact HTS3.out, HWK.out, HPN.out, by have := HSN2.out; omega, by have := HRE.out; simp⟩
                    case measure => have := HK120.out; simp [intOf]; omega
                  | cons st rest' =>
                    obtain ⟨tb, toff, rfl, ca, cv, hdrop⟩ := HTS1.out.drop
                    have HDROP := hid hdrop
                    have hcap : rest'.length + 1 ≤ tc := HTS1.out.cap
                    have l2 : (0 : Int) < (rest'.length : Int) + 1 := by omega
                    have l3 : (1 : Int) ≤ (rest'.length : Int) + 1 := by omega
                    have l4 : (rest'.length : Int) + 1 ≤ (tc : Int) := by omega
                    have l5 : 1 ≤ rest'.length + 1 := by omega
                    have hpn := HPI.out.writes HEN.out HWK.out
                    rw [HSH.out] at hpn
                    have HPN := hid (show PI (c.lk : Int) (x.put st) (sn) gnb false s (k + 1) from by simpa [snB, gnB] using hpn)
                    have HWK2 := hid HWK.out.2.2
                    have hput := ts_put (HTS1.out.quiet (Keep.refl Nil w13).drew) HN.out _ st.val rfl rfl (by have := HK120.out; omega)
                    have HPUT := hid hput
                    clear hpn hput hdrop
                    go_wp2
                    go_still_tail 9, (by kernel_rfl)
                    change wpList _ _ _ _ _ w13.drew
                    go_wp2_with fail
                    refine HPUT.out.mono ?_
                    rintro e w17 ⟨rfl, hts⟩
                    have HTS4 := hid hts
                    clear hts HPUT ca cv cb
                    have HTS5 := hid (show TS w w17 c b mb r (x.put st) (3 + k + 1) s rest' (if tc = 1 then some ⟨tb, toff, none⟩ else some ⟨tb, toff + 2, none⟩) (tc - 1) (sn) sa scp from by
                      obtain ⟨tb2, toff2, htb, -, -, hd⟩ := HTS4.out.drop
                      injection htb with htb
                      injection htb with h1 h2
                      subst h1 h2
                      split
                      · rename_i ht1
                        exact hd _ _ (by omega) (.inr (List.eq_nil_of_length_eq_zero (by omega)))
                      · exact hd _ _ (by omega) (.inl rfl))
                    clear HTS4
                    go_wp2
                    go_roundw
                    case rel => exact ⟨k + 1, rest', _, _, (sn), sa, scp, _, s, false, gnb, by have := HK120.out; omega, by go_num, rfl, (by first | rfl | trivial), by rfl, (by first | rfl | trivial), (by first | rfl | (rw [List.length_append]; rfl)), by rw [show 3 + (k + 1) = 3 + k + 1 by omega]; exact HTS5.out, HWK2.out, HPN.out, by have := HSN2.out; omega, by have := HRE.out; (simp at this; omega)⟩
                    case measure => have := HK120.out; simp [intOf]; omega
                | true =>
                  have HB := hid hB
                  clear hB
                  have cb : w13.cell? ⟨bb, off + k, none⟩ = some (.bool ob) := HTS1.out.rv.own.cell HCO.out (fun h => h)
                  cases sp with
                  | false =>
                    cases ob with
                    | true =>
                      go_wp2_with fail
                      have hst := ts_step HTS1.out HC.out HN.out HPI.out.tw HPI.out.th HGD.out (by have := HK120.out; omega)
                      obtain ⟨s2, hs2⟩ : ∃ s2, s2 = s.step (c.lk : Int) (x.word s) := ⟨_, rfl⟩
                      have hpn := HPI.out.reads HEN.out HWK.out.ok (HTS1.out.rv.word_rng HN.out HGD.out) (by have := HK120.out; omega)
                      rw [HSH.out, ← hs2] at hpn
                      rw [← hs2] at hst
                      have HPN := hid (show PI (c.lk : Int) x (sn) true true s2 (k + 1) from by simpa [snB, gnB] using hpn)
                      refine hst.mono ?_
                      rintro e w16 ⟨rfl, hts⟩
                      have HTS3 := hid hts
                      clear hts hst hpn hs2
                      go_wp2
                      go_roundw
                      case rel => exact ⟨k + 1, rest, ta, tc, (sn), sa, scp, x, s2, true, true, by have := HK120.out; omega, by go_num, rfl, (by first | rfl | trivial), by rfl, (by first | rfl | trivial), (by first | rfl | (rw [List.length_append]; rfl)), by rw [show 3 + (k + 1) = 3 + k + 1 by omega]; exact HTS3.out, HWK.out, HPN.out, by have := HSN2.out; omega, by have := HRE.out; omega⟩
                      case measure => have := HK120.out; simp [intOf]; omega
                    | false =>
                      obtain rfl : bgb = true := by simpa using HB.out.symm
                      clear HB
                      cases rest with
                      | nil =>
                        have l0 : decide ((0 : Int) < (([] : List WSt).length : Int)) = false := rfl
                        have hpn := HPI.out.idles HEN.out
                        rw [HSH.out] at hpn
                        have HPN := hid (show PI (c.lk : Int) x (sn) true true s (k + 1) from by simpa [snB, gnB] using hpn)
                        clear hpn
                        have HTS3 := hid (HTS1.out.more (3 + k + 1) (by omega))
                        go_wp2
                        go_roundw
                        case rel => exact ⟨k + 1, [], ta, tc, (sn), sa, scp, x, s, true, true, by have := HK120.out; omega, by go_num, rfl, (by first | rfl | trivial), by rfl, (by first | rfl | trivial), (by first | rfl | (rw [List.length_append]; rfl)), by rw [show 3 + (k + 1) = 3 + k + 1 by omega]; exact HTS3.out, HWK.out, HPN.out, by have := HSN2.out; omega, by have := HRE.out; simp⟩
                        case measure => have := HK120.out; simp [intOf]; omega
                      | cons st rest' =>
                        obtain ⟨tb, toff, rfl, ca, cv, hdrop⟩ := HTS1.out.drop
                        have HDROP := hid hdrop
                        have hcap : rest'.length + 1 ≤ tc := HTS1.out.cap
                        have l2 : (0 : Int) < (rest'.length : Int) + 1 := by omega
                        have l3 : (1 : Int) ≤ (rest'.length : Int) + 1 := by omega
                        have l4 : (rest'.length : Int) + 1 ≤ (tc : Int) := by omega
                        have l5 : 1 ≤ rest'.length + 1 := by omega
                        have hpn := HPI.out.writes HEN.out HWK.out
                        rw [HSH.out] at hpn
                        have HPN := hid (show PI (c.lk : Int) (x.put st) (sn) true true s (k + 1) from by simpa [snB, gnB] using hpn)
                        have HWK2 := hid HWK.out.2.2
                        have hput := ts_put (HTS1.out.quiet (Keep.refl Nil w13).drew) HN.out _ st.val rfl rfl (by have := HK120.out; omega)
                        have HPUT := hid hput
                        clear hpn hput hdrop
                        go_wp2
                        go_still_tail 9, (by kernel_rfl)
                        change wpList _ _ _ _ _ w13.drew
                        go_wp2_with fail
                        refine HPUT.out.mono ?_
                        rintro e w17 ⟨rfl, hts⟩
                        have HTS4 := hid hts
                        clear hts HPUT ca cv cb
                        have HTS5 := hid (show TS w w17 c b mb r (x.put st) (3 + k + 1) s rest' (if tc = 1 then some ⟨tb, toff, none⟩ else some ⟨tb, toff + 2, none⟩) (tc - 1) (sn) sa scp from by
                          obtain ⟨tb2, toff2, htb, -, -, hd⟩ := HTS4.out.drop
                          injection htb with htb
                          injection htb with h1 h2
                          subst h1 h2
                          split
                          · rename_i ht1
                            exact hd _ _ (by omega) (.inr (List.eq_nil_of_length_eq_zero (by omega)))
                          · exact hd _ _ (by omega) (.inl rfl))
                        clear HTS4
                        go_wp2
                        go_roundw
                        case rel => exact ⟨k + 1, rest', _, _, (sn), sa, scp, _, s, true, true, by have := HK120.out; omega, by go_num, rfl, (by first | rfl | trivial), by rfl, (by first | rfl | trivial), (by first | rfl | (rw [List.length_append]; rfl)), by rw [show 3 + (k + 1) = 3 + k + 1 by omega]; exact HTS5.out, HWK2.out, HPN.out, by have := HSN2.out; omega, by have := HRE.out; (simp at this; omega)⟩
                        case measure => have := HK120.out; simp [intOf]; omega
                  | true =>
                    go_wp2_with (at_builtin; refine wpList_app _ rfl (.tmp 104) (.tmp 106) 40 rfl 26 _ 1 8 Tryz.underlying40 infoU64 rfl (by decide) (.slice sa sn.length scp) sn.length (u64s sn) rfl ?own (.slice (some ⟨w13.heap.size, 0, none⟩) 1 1) 1 [.int .u64 sv] rfl ?rd ?one ?byt ?len ?_)
                    case own => exact row_keep HTS1.out.seen ((Keep.refl Nil w13).alloc _) (fun _ _ h => h)
                    case rd => exact rd_new _ _ _ _ _ _
                    case one => simp [Value.oneCell']
                    case byt => have := HSN.out; omega
                    case len => have := HSN.out; unfold maxLen; omega
                    intro sa2 scp2 w14 ho hgr hs
                    have HTS2 := hid (HTS1.out.app sv ho hgr hs)
                    clear ho hgr hs cb
                    have cb : w14.cell? ⟨bb, off + k, none⟩ = some (.bool ob) := HTS2.out.rv.own.cell HCO.out (fun h => h)
                    cases ob with
                    | true =>
                      go_wp2_with fail
                      have hst := ts_step HTS2.out HC.out HN.out HPI.out.tw HPI.out.th HGD.out (by have := HK120.out; omega)
                      obtain ⟨s2, hs2⟩ : ∃ s2, s2 = s.step (c.lk : Int) (x.word s) := ⟨_, rfl⟩
                      have hpn := HPI.out.reads HEN.out HWK.out.ok (HTS2.out.rv.word_rng HN.out HGD.out) (by have := HK120.out; omega)
                      rw [HSH.out, ← hs2] at hpn
                      rw [← hs2] at hst
                      have HPN := hid (show PI (c.lk : Int) x (sn ++ [sv]) gnb true s2 (k + 1) from by simpa [snB, gnB] using hpn)
                      refine hst.mono ?_
                      rintro e w16 ⟨rfl, hts⟩
                      have HTS3 := hid hts
                      clear hts hst hpn hs2
                      go_wp2
                      go_roundw
                      case rel => exact ⟨k + 1, rest, ta, tc, (sn ++ [sv]), sa2, scp2, x, s2, true, gnb, by have := HK120.out; omega, by go_num, rfl, (by first | rfl | trivial), by simp, (by first | rfl | trivial), (by first | rfl | (rw [List.length_append]; rfl)), by rw [show 3 + (k + 1) = 3 + k + 1 by omega]; exact HTS3.out, HWK.out, HPN.out, by have := HSN2.out; simp; omega, by have := HRE.out; omega⟩
                      case measure => have := HK120.out; simp [intOf]; omega
                    | false =>
                      obtain rfl : bgb = true := by simpa using HB.out.symm
                      clear HB
                      cases rest with
                      | nil =>
                        have l0 : decide ((0 : Int) < (([] : List WSt).length : Int)) = false := rfl
                        have hpn := HPI.out.idles HEN.out
                        rw [HSH.out] at hpn
                        have HPN := hid (show PI (c.lk : Int) x (sn ++ [sv]) gnb true s (k + 1) from by simpa [snB, gnB] using hpn)
                        clear hpn
                        have HTS3 := hid (HTS2.out.more (3 + k + 1) (by omega))
                        go_wp2
                        go_roundw
                        case rel => exact ⟨k + 1, [], ta, tc, (sn ++ [sv]), sa2, scp2, x, s, true, gnb, by have := HK120.out; omega, by go_num, rfl, (by first | rfl | trivial), by simp, (by first | rfl | trivial), (by first | rfl | (rw [List.length_append]; rfl)), by rw [show 3 + (k + 1) = 3 + k + 1 by omega]; exact HTS3.out, HWK.out, HPN.out, by have := HSN2.out; simp; omega, by have := HRE.out; simp⟩
                        case measure => have := HK120.out; simp [intOf]; omega
                      | cons st rest' =>
                        obtain ⟨tb, toff, rfl, ca, cv, hdrop⟩ := HTS2.out.drop
                        have HDROP := hid hdrop
                        have hcap : rest'.length + 1 ≤ tc := HTS2.out.cap
                        have l2 : (0 : Int) < (rest'.length : Int) + 1 := by omega
                        have l3 : (1 : Int) ≤ (rest'.length : Int) + 1 := by omega
                        have l4 : (rest'.length : Int) + 1 ≤ (tc : Int) := by omega
                        have l5 : 1 ≤ rest'.length + 1 := by omega
                        have hpn := HPI.out.writes HEN.out HWK.out
                        rw [HSH.out] at hpn
                        have HPN := hid (show PI (c.lk : Int) (x.put st) (sn ++ [sv]) gnb true s (k + 1) from by simpa [snB, gnB] using hpn)
                        have HWK2 := hid HWK.out.2.2
                        have hput := ts_put (HTS2.out.quiet (Keep.refl Nil w14).drew) HN.out _ st.val rfl rfl (by have := HK120.out; omega)
                        have HPUT := hid hput
                        clear hpn hput hdrop
                        go_wp2
                        go_still_tail 9, (by kernel_rfl)
                        change wpList _ _ _ _ _ w14.drew
                        go_wp2_with fail
                        refine HPUT.out.mono ?_
                        rintro e w17 ⟨rfl, hts⟩
                        have HTS4 := hid hts
                        clear hts HPUT ca cv cb
                        have HTS5 := hid (show TS w w17 c b mb r (x.put st) (3 + k + 1) s rest' (if tc = 1 then some ⟨tb, toff, none⟩ else some ⟨tb, toff + 2, none⟩) (tc - 1) (sn ++ [sv]) sa2 scp2 from by
                          obtain ⟨tb2, toff2, htb, -, -, hd⟩ := HTS4.out.drop
                          injection htb with htb
                          injection htb with h1 h2
                          subst h1 h2
                          split
                          · rename_i ht1
                            exact hd _ _ (by omega) (.inr (List.eq_nil_of_length_eq_zero (by omega)))
                          · exact hd _ _ (by omega) (.inl rfl))
                        clear HTS4
                        go_wp2
                        go_roundw
                        case rel => exact ⟨k + 1, rest', _, _, (sn ++ [sv]), sa2, scp2, _, s, true, gnb, by have := HK120.out; omega, by go_num, rfl, (by first | rfl | trivial), by simp, (by first | rfl | trivial), (by first | rfl | (rw [List.length_append]; rfl)), by rw [show 3 + (k + 1) = 3 + k + 1 by omega]; exact HTS5.out, HWK2.out, HPN.out, by have := HSN2.out; simp; omega, by have := HRE.out; (simp at this; omega)⟩
                        case measure => have := HK120.out; simp [intOf]; omega
          · have d2 : decide ((k : Int) < 120) = false := decide_eq_false (by omega)
            have e2 : decide (k < 120) = false := decide_eq_false h120
            have he1 := True.intro
            have he2 := True.intro
            clear hlt h120 hk
            cases hen : s.ended with
            | false =>
              clear HPI
              go_wp2_with fail
              refine (rres_state HTS.out.rv.at_ hen).mono ?_
              rintro e w20 ⟨rfl, rfl⟩
              go_wp2_with fail
              refine (lawake_ok).mono ?_
              rintro e w21 ⟨rfl, hk⟩
              have HK9 := hid (HTS.out.rv.own.trans hk (fun _ _ h => h))
              clear hk
              go_wp2
              go_ret
              exact ⟨rfl, HK9.out⟩
            | true =>
              obtain ⟨hn0, hov⟩ := HPI.out.over hen
              have HRS := hid (rres_ok HTS.out.rv.at_ hen)
              rcases hov with ⟨her, hp1, hp2⟩ | ⟨her, hv0, hp0⟩
              · have hrs := HRS.out
                rw [her] at hrs
                cases hpp : s.present with
                | false =>
                  have hgn := hp2 hpp
                  rw [hpp] at hrs
                  clear HPI hp1 hp2 HRS
                  subst hgn
                  go_wp2_with fail
                  refine hrs.mono ?_
                  rintro e w20 ⟨rfl, hk⟩
                  have HK8 := hid (HTS.out.rv.own.trans hk (fun _ _ h => h))
                  clear hk hrs
                  go_wp2_with fail
                  refine (lawake_ok).mono ?_
                  rintro e w21 ⟨rfl, hk⟩
                  have HK9 := hid (HK8.out.trans hk (fun _ _ h => h))
                  clear hk
                  go_wp2
                  go_ret
                  exact ⟨rfl, HK9.out⟩
                | true =>
                  have hmem := hp1 hpp
                  rw [hpp] at hrs
                  obtain ⟨vv, hvv⟩ : ∃ vv, vv = s.value := ⟨_, rfl⟩
                  rw [← hvv] at hrs hmem
                  have hne : sn.isEmpty = false := by cases sn with | nil => cases hmem | cons a l => rfl
                  have hnb : (!sn.isEmpty) = true := by rw [hne]; rfl
                  rw [hnb]
                  have HMEM := hid hmem
                  clear HPI hp1 hp2 HRS hmem hvv hne hnb
                  go_wp2_with fail
                  refine hrs.mono ?_
                  rintro e w20 ⟨rfl, hk⟩
                  have HTS2 := hid (HTS.out.quiet hk)
                  clear hk hrs HTS
                  obtain ⟨j0, hj0, hj1⟩ : ∃ j0, sn[j0]? = some vv ∧ j0 < sn.length := by
                    obtain ⟨j0, hj0⟩ := List.getElem?_of_mem HMEM.out
                    exact ⟨j0, hj0, (List.getElem?_eq_some_iff.1 hj0).1⟩
                  obtain ⟨gb, go, gc, hgv, hgc⟩ := Rd.cell (row_rd HTS2.out.seen) (by omega)
                  simp only [Value.slice.injEq] at hgv
                  obtain ⟨hg1, -, hg2⟩ := hgv
                  have HGC := hid hgc
                  have HJ0 := hid (And.intro hj0 hj1)
                  clear hgc hj0 hj1
                  subst hg1 hg2
                  go_wp2
                  go_loopw [28] (fun q wj => ∃ j : Nat, q = .int .i64 j ∧ wj = w20 ∧ j ≤ j0) (fun q _ => j0 + 1 - (intOf q).toNat)
                  case atStart => exact ⟨0, (by first | rfl | trivial), (by first | rfl | trivial), Nat.zero_le _⟩
                  case round =>
                    obtain ⟨j, rfl, hwj, hjj⟩ := hrel
                    subst hwj
                    have hjl : j < sn.length := by have := HJ0.out.2; omega
                    obtain ⟨y, hy⟩ : ∃ y, sn[j]? = some y := ⟨_, List.getElem?_eq_getElem hjl⟩
                    have HY := hid hy
                    have cy := HGC.out j (.int .u64 y) (u64s_at hy)
                    have f1 : decide ((j : Int) < (sn.length : Int)) = true := decide_eq_true (by omega)
                    have f2 : decide (j < sn.length) = true := decide_eq_true hjl
                    have y0 : (0 : Int) ≤ (j : Int) := by omega
                    have y1 : (j : Int) < (sn.length : Int) := by omega
                    have HSL := hid (show sn.length ≤ 1000000 from HSN.out)
                    have wj1 : IntKind.i64.wrap ((j : Int) + 1) = (j : Int) + 1 := by rw [IntKind.wrap_i64]; have := HSL.out; omega
                    clear hy
                    by_cases hq : y = vv
                    · have bq : (y == vv) = true := beq_iff_eq.2 hq
                      clear hq
                      go_wp2_with fail
                      refine (lawake_ok).mono ?_
                      rintro e w21 ⟨rfl, hk⟩
                      have HK9 := hid (HTS2.out.rv.own.trans hk (fun _ _ h => h))
                      clear hk
                      go_wp2
                      go_ret
                      exact ⟨rfl, HK9.out⟩
                    · have bq : (y == vv) = false := beq_eq_false_iff_ne.2 hq
                      have HNE := hid (show j < j0 from by
                        rcases Nat.lt_or_eq_of_le hjj with h | h
                        · exact h
                        · subst h
                          have h1 := HJ0.out.1
                          rw [HY.out] at h1
                          exact absurd (Option.some.inj h1) hq)
                      clear hq hjj
                      go_wp2
                      go_roundw
                      case rel => exact ⟨j + 1, by go_num, (by first | rfl | trivial), by have := HNE.out; omega⟩
                      case measure => have := HNE.out; simp [intOf]; omega
              · have hrs := HRS.out
                rw [her, hv0, hp0] at hrs
                clear HPI HRS
                go_wp2_with fail
                refine hrs.mono ?_
                rintro e w20 ⟨rfl, hk⟩
                have HK8 := hid (HTS.out.rv.own.trans hk (fun _ _ h => h))
                clear hk hrs
                go_wp2_with fail
                refine (lawake_ok).mono ?_
                rintro e w21 ⟨rfl, hk⟩
                have HK9 := hid (HK8.out.trans hk (fun _ _ h => h))
                clear hk
                go_wp2
                go_ret
                exact ⟨rfl, HK9.out⟩
        · have d1 : decide ((k : Int) < (os.length : Int)) = false := decide_eq_false (by omega)
          have e1 : decide (k < os.length) = false := decide_eq_false hlt
          have he1 := True.intro
          have he2 := True.intro
          clear hlt hk
          cases hen : s.ended with
          | false =>
            clear HPI
            go_wp2_with fail
            refine (rres_state HTS.out.rv.at_ hen).mono ?_
            rintro e w20 ⟨rfl, rfl⟩
            go_wp2_with fail
            refine (lawake_ok).mono ?_
            rintro e w21 ⟨rfl, hk⟩
            have HK9 := hid (HTS.out.rv.own.trans hk (fun _ _ h => h))
            clear hk
            go_wp2
            go_ret
            exact ⟨rfl, HK9.out⟩
          | true =>
            obtain ⟨hn0, hov⟩ := HPI.out.over hen
            have HRS := hid (rres_ok HTS.out.rv.at_ hen)
            rcases hov with ⟨her, hp1, hp2⟩ | ⟨her, hv0, hp0⟩
            · have hrs := HRS.out
              rw [her] at hrs
              cases hpp : s.present with
              | false =>
                have hgn := hp2 hpp
                rw [hpp] at hrs
                clear HPI hp1 hp2 HRS
                subst hgn
                go_wp2_with fail
                refine hrs.mono ?_
                rintro e w20 ⟨rfl, hk⟩
                have HK8 := hid (HTS.out.rv.own.trans hk (fun _ _ h => h))
                clear hk hrs
                go_wp2_with fail
                refine (lawake_ok).mono ?_
                rintro e w21 ⟨rfl, hk⟩
                have HK9 := hid (HK8.out.trans hk (fun _ _ h => h))
                clear hk
                go_wp2
                go_ret
                exact ⟨rfl, HK9.out⟩
              | true =>
                have hmem := hp1 hpp
                rw [hpp] at hrs
                obtain ⟨vv, hvv⟩ : ∃ vv, vv = s.value := ⟨_, rfl⟩
                rw [← hvv] at hrs hmem
                have hne : sn.isEmpty = false := by cases sn with | nil => cases hmem | cons a l => rfl
                have hnb : (!sn.isEmpty) = true := by rw [hne]; rfl
                rw [hnb]
                have HMEM := hid hmem
                clear HPI hp1 hp2 HRS hmem hvv hne hnb
                go_wp2_with fail
                refine hrs.mono ?_
                rintro e w20 ⟨rfl, hk⟩
                have HTS2 := hid (HTS.out.quiet hk)
                clear hk hrs HTS
                obtain ⟨j0, hj0, hj1⟩ : ∃ j0, sn[j0]? = some vv ∧ j0 < sn.length := by
                  obtain ⟨j0, hj0⟩ := List.getElem?_of_mem HMEM.out
                  exact ⟨j0, hj0, (List.getElem?_eq_some_iff.1 hj0).1⟩
                obtain ⟨gb, go, gc, hgv, hgc⟩ := Rd.cell (row_rd HTS2.out.seen) (by omega)
                simp only [Value.slice.injEq] at hgv
                obtain ⟨hg1, -, hg2⟩ := hgv
                have HGC := hid hgc
                have HJ0 := hid (And.intro hj0 hj1)
                clear hgc hj0 hj1
                subst hg1 hg2
                go_wp2
                go_loopw [28] (fun q wj => ∃ j : Nat, q = .int .i64 j ∧ wj = w20 ∧ j ≤ j0) (fun q _ => j0 + 1 - (intOf q).toNat)
                case atStart => exact ⟨0, (by first | rfl | trivial), (by first | rfl | trivial), Nat.zero_le _⟩
                case round =>
                  obtain ⟨j, rfl, hwj, hjj⟩ := hrel
                  subst hwj
                  have hjl : j < sn.length := by have := HJ0.out.2; omega
                  obtain ⟨y, hy⟩ : ∃ y, sn[j]? = some y := ⟨_, List.getElem?_eq_getElem hjl⟩
                  have HY := hid hy
                  have cy := HGC.out j (.int .u64 y) (u64s_at hy)
                  have f1 : decide ((j : Int) < (sn.length : Int)) = true := decide_eq_true (by omega)
                  have f2 : decide (j < sn.length) = true := decide_eq_true hjl
                  have y0 : (0 : Int) ≤ (j : Int) := by omega
                  have y1 : (j : Int) < (sn.length : Int) := by omega
                  have HSL := hid (show sn.length ≤ 1000000 from HSN.out)
                  have wj1 : IntKind.i64.wrap ((j : Int) + 1) = (j : Int) + 1 := by rw [IntKind.wrap_i64]; have := HSL.out; omega
                  clear hy
                  by_cases hq : y = vv
                  · have bq : (y == vv) = true := beq_iff_eq.2 hq
                    clear hq
                    go_wp2_with fail
                    refine (lawake_ok).mono ?_
                    rintro e w21 ⟨rfl, hk⟩
                    have HK9 := hid (HTS2.out.rv.own.trans hk (fun _ _ h => h))
                    clear hk
                    go_wp2
                    go_ret
                    exact ⟨rfl, HK9.out⟩
                  · have bq : (y == vv) = false := beq_eq_false_iff_ne.2 hq
                    have HNE := hid (show j < j0 from by
                      rcases Nat.lt_or_eq_of_le hjj with h | h
                      · exact h
                      · subst h
                        have h1 := HJ0.out.1
                        rw [HY.out] at h1
                        exact absurd (Option.some.inj h1) hq)
                    clear hq hjj
                    go_wp2
                    go_roundw
                    case rel => exact ⟨j + 1, by go_num, (by first | rfl | trivial), by have := HNE.out; omega⟩
                    case measure => have := HNE.out; simp [intOf]; omega
            · have hrs := HRS.out
              rw [her, hv0, hp0] at hrs
              clear HPI HRS
              go_wp2_with fail
              refine hrs.mono ?_
              rintro e w20 ⟨rfl, hk⟩
              have HK8 := hid (HTS.out.rv.own.trans hk (fun _ _ h => h))
              clear hk hrs
              go_wp2_with fail
              refine (lawake_ok).mono ?_
              rintro e w21 ⟨rfl, hk⟩
              have HK9 := hid (HK8.out.trans hk (fun _ _ h => h))
              clear hk
              go_wp2
              go_ret
              exact ⟨rfl, HK9.out⟩
end
end Go.Proofs.YtmafdjhjmnghcaaGreat
