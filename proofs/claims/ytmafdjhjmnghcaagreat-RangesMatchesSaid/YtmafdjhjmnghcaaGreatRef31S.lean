/- leapfrogref31: a locking's step; Unlock, Held: contracts. -/
import Derived.Test.YtmafdjhjmnghcaaGreatRef31
import Derived.BigRegion
set_option linter.unusedVariables false
set_option linter.unusedSimpArgs false
namespace Go.Proofs.YtmafdjhjmnghcaaGreat
open Go.RowKit Go.Lf
/-- A step of a locking. -/
def R31To (w : World) (B : Nat → Prop) (c : Cfg) (rb rm l o : Nat) (ws' : List Int) (log' : List Acc) (pc : Int) (p : KS × Int) (e : Ending) (w' : World) : Prop :=
  e = .returned (.tuple #[.int .u8 pc, .bool (p.2 == 0)]) ∧ ∃ B', (RStoreF c rb rm l).lie w' B' (ws', log') ∧ RKAt w' o rb (KS.nx p) ∧ Keep (fun k => B k ∨ k = o) w w' ∧ Foot w B B'
/-- The reference's store has turned; the locking has not. -/
structure KL (w : World) (B : Nat → Prop) (c : Cfg) (rb rm l o : Nat) (G : Nat → Prop) (ws' : List Int) (log' : List Acc) (w1 : World) (B1 F1 : Nat → Prop) : Prop where
  rp : RP w1 B1 c rb rm l F1 G ws' log'
  nB : ¬ B1 o
  keep : Keep B w w1
  foot : Foot w B B1
section
variable {w w' w1 w2 : World} {B B1 F1 : Nat → Prop} {c : Cfg} {rb rm l o pb : Nat} {F G : Nat → Prop} {ws ws' : List Int} {log log' : List Acc} {s : KS} {t pc : Int} {p : KS × Int}
theorem KL.of (h : RP w B c rb rm l F G ws log) (nB : ¬ B o) (hz : o < w.heap.size) (hto : RefTo w rm F ws' log' w1) : ∃ B1 F1, KL w B c rb rm l o G ws' log' w1 B1 F1 := by
  obtain ⟨F1, B1, h1, h2, h3⟩ := h.turn3 hto
  exact ⟨B1, F1, h1, fun e => (h3 o e).elim nB (fun e => by omega), h2, h3⟩
theorem KL.done (h : KL w B c rb rm l o G ws' log' w1 B1 F1) (hr : RKAt w2 o rb (KS.nx p)) (hk : Keep (fun k => k = o) w1 w2) : R31To w B c rb rm l o ws' log' pc p (.returned (.tuple #[.int .u8 pc, .bool (p.2 == 0)])) w2 :=
  ⟨rfl, B1, ⟨F1, G, h.rp.keep hk (fun k hk1 e => h.nB (by have e2 : k = o := e; rw [← e2]; exact hk1))⟩, hr, (h.keep.mono (T := fun k => B k ∨ k = o) (fun _ _ h => .inl h)).trans (hk.mono (T := fun k => B k ∨ k = o) (fun _ _ h => .inr h)) (fun _ _ h => h), h.foot⟩
theorem R31To.pre {e : Ending} (hk : Keep Nil w w1) (h : R31To w1 B c rb rm l o ws' log' pc p e w2) : R31To w B c rb rm l o ws' log' pc p e w2 := by
  obtain ⟨h1, B', h2, h3, h4, h5⟩ := h
  exact ⟨h1, B', h2, h3, (hk.mono (T := fun k => B k ∨ k = o) (fun _ _ h => h.elim)).trans h4 (fun _ _ h => h), fun k e => (h5 k e).imp id (fun e => by have := hk.size; omega)⟩
/-- What a step has read of the layout. -/
structure KPre (w : World) (B : Nat → Prop) (c : Cfg) (rb rm l o pb : Nat) (F G : Nat → Prop) (ws : List Int) (log : List Acc) (s : KS) : Prop where
  rp : RP w B c rb rm l F G ws log
  at_ : RKAt w o rb s
  nB : ¬ B o
  box : w.heap[pb]? = some (.cells (plcC c) 51 (0, 0))
  nP : ¬ B pb
  po : pb ≠ o
theorem KPre.quiet (h : KPre w B c rb rm l o pb F G ws log s) (hk : Keep Nil w w1) : KPre w1 B c rb rm l o pb F G ws log s :=
  ⟨h.rp.quiet hk, hk.at h.at_ (fun h => h), h.nB, hk.at h.box (fun h => h), h.nP, h.po⟩
set_option maxRecDepth 100000 in
set_option maxHeartbeats 16000000 in
theorem r31step (h : RP w B c rb rm l F G ws log) (ho : RKAt w o rb s) (nB : ¬ B o) (hok : c.ok) (hg : s.good c.lk) (hlog : log.length + 1 < 1000000000) (x : Int) (hx : ws[s.at c.master c.locks]? = some x) :
    Calls Tryz.prog 55 #[.pointer (some ⟨o, 0, none⟩)] w (R31To w B c rb rm l o (s.ws c.master c.locks ws x) (log ++ [s.acc c.master c.locks x]) s.next (s.act c.lk x)) := by
  obtain ⟨P, hP⟩ : ∃ P, P = s.act c.lk x := ⟨_, rfl⟩
  obtain ⟨WS, hWS⟩ : ∃ WS, WS = s.ws c.master c.locks ws x := ⟨_, rfl⟩
  obtain ⟨AC, hAC⟩ : ∃ AC, AC = s.acc c.master c.locks x := ⟨_, rfl⟩
  rw [← hP, ← hWS, ← hAC]
  have HP := hid hP
  have HWS := hid hWS
  have HAC := hid hAC
  have H := hid h
  have HO := hid ho
  have HNB := hid nB
  have HG := hid hg
  have HX := hid hx
  have HL := hid hlog
  have HC := hid hok
  have dn0 : (s.next == 0) = false := beq_eq_false_iff_ne.2 (by rcases hg.nx with e | e | e | e | e | e | e | e <;> omega)
  have p0 : w.cell? ⟨o, 0, none⟩ = some (.pointer (some ⟨rb, 0, none⟩)) := by rw [cell_of ho]; rfl
  have p6 : w.cell? ⟨o, 6, none⟩ = some (.int .i64 s.entry) := by rw [cell_of ho]; rfl
  have p7 : w.cell? ⟨o, 7, none⟩ = some (.int .i64 s.free) := by rw [cell_of ho]; rfl
  have z0 := lt_of_block ho
  have b0 := h.c0
  have b1 := h.c1
  have bz := h.bl
  have hl := h.rlc3
  have q16 := hl.c16
  have q17 := hl.c17
  have q18 := hl.c18
  have q19 := hl.c19
  have q20 := hl.c20
  have q21 := hl.c21
  have q22 := hl.c22
  have q23 := hl.c23
  have q24 := hl.c24
  have q25 := hl.c25
  have lz := hl.lt
  clear hP hWS hAC h ho nB hok hg hlog hx hl
  go_enter Tryz.func55, Tryz.ntmps55
  go_wp2_with fail
  refine (r31next HO.out).mono ?_
  rintro e w1 ⟨rfl, rfl⟩
  go_upto_region 4 with fail
  go_region
  obtain ⟨V, hV⟩ : ∃ V, V = (w.alloc (.cells #[.int .i64 0, .int .i64 (c.engine : Int), .int .i64 (c.master : Int), .int .i64 (c.locks : Int), .int .i64 (c.descs : Int), .int .i64 (c.pools : Int), .int .i64 (c.links : Int), .int .i64 (c.heads : Int), .int .i64 (c.towers : Int), .int .i64 (c.words : Int)] 51)).drew := ⟨_, rfl⟩
  rw [← hV]
  have HKV := hid (show Keep Nil w V from hV ▸ ((Keep.refl Nil w).alloc _).drew)
  have hbx : V.heap[w.heap.size]? = some (.cells (plcC c) 51 (0, 0)) := by rw [hV]; exact heap_alloc_new w _
  obtain ⟨pb, hpb⟩ : ∃ pb, pb = w.heap.size := ⟨_, rfl⟩
  rw [← hpb] at hbx ⊢
  have HPRE := hid (show KPre V B c rb rm l o pb F G ws log s from ⟨H.out.quiet HKV.out, HKV.out.at HO.out (fun h => h), HNB.out, hbx, fun e => by have := H.out.lt pb e; omega, by omega⟩)
  clear hV hbx hpb p0 p6 p7 b0 b1 bz q16 q17 q18 q19 q20 q21 q22 q23 q24 q25 lz dn0 z0
  have u1 : V.cell? ⟨o, 1, none⟩ = some (.int .i64 s.th) := by rw [cell_of HPRE.out.at_]; rfl
  have u3 : V.cell? ⟨o, 3, none⟩ = some (.int .u64 s.lo) := by rw [cell_of HPRE.out.at_]; rfl
  have u4 : V.cell? ⟨o, 4, none⟩ = some (.int .u64 s.hi) := by rw [cell_of HPRE.out.at_]; rfl
  have u6 : V.cell? ⟨o, 6, none⟩ = some (.int .i64 s.entry) := by rw [cell_of HPRE.out.at_]; rfl
  have u7 : V.cell? ⟨o, 7, none⟩ = some (.int .i64 s.free) := by rw [cell_of HPRE.out.at_]; rfl
  have v2 : V.cell? ⟨pb, 2, none⟩ = some (.int .i64 (c.master : Int)) := by rw [cell_of HPRE.out.box]; rfl
  have v3 : V.cell? ⟨pb, 3, none⟩ = some (.int .i64 (c.locks : Int)) := by rw [cell_of HPRE.out.box]; rfl
  have uz := lt_of_block HPRE.out.at_
  have vz := lt_of_block HPRE.out.box
  have HLK := hid (show c.lk ≤ 16 ∧ c.locks ≤ 65536 ∧ c.master ≤ 65536 from by
    have := rl_words HC.out
    obtain ⟨a1, a2, a3, a4, a5, a6, a7, a8, a9⟩ := plc_lt c
    have hq0 : c.master + 1 = c.locks := rfl
    exact ⟨HC.out.lk2, by omega, by omega⟩)
  obtain ⟨k16, kl, km⟩ := HLK.out
  have hfr := HG.out.fr
  have wf1 : IntKind.i64.wrap (3 * s.free) = 3 * s.free := by rw [IntKind.wrap_i64]; omega
  have wf2 : IntKind.i64.wrap ((c.locks : Int) + 3 * s.free) = (c.locks : Int) + 3 * s.free := by rw [IntKind.wrap_i64]; omega
  have hth := HG.out.t0
  have wt : IntKind.u64.wrap s.th = s.th := by rw [IntKind.wrap_u64]; omega
  have wt1 : IntKind.u64.wrap (s.th + 1) = s.th + 1 := by rw [IntKind.wrap_u64]; omega
  have wff : IntKind.i64.wrap (s.fails + 1) = s.fails + 1 := by have := HG.out.fl; rw [IntKind.wrap_i64]; omega
  rcases HG.out.nx with hn | hn | hn | hn | hn | hn | hn | hn
  · have dn2 : (s.next == 2) = true := beq_iff_eq.2 hn
    have hat : s.at c.master c.locks = c.master := if_pos hn
    have hx := HX.out
    rw [hat] at hx
    have HXM := hid (show ws[((c.master : Int)).toNat]? = some x from by rw [Int.toNat_natCast]; exact hx)
    by_cases hx0 : x = 0
    · have HWSE := hid (show WS = ws.set c.master (s.th + 1) from by rw [HWS.out]; unfold KS.ws KS.put; rw [if_pos hn, if_pos hx0, hat])
      have HACE := hid (show AC = ⟨s.th, (c.master : Int), 4, 0, s.th + 1, true⟩ from by rw [HAC.out]; unfold KS.acc; rw [if_pos hn, if_pos hx0, hat])
      have HPE := hid (show P = ({ s with entry := 0, free := -1, conf := false }, 37) from by rw [HP.out]; unfold KS.act; rw [if_pos hn, if_pos hx0])
      have HX0 := hid (show ws[((c.master : Int)).toNat]? = some 0 from by rw [HXM.out, hx0])
      clear hat hx hx0 hn
      go_wp2
      go_quiet (fail)
      obtain ⟨U, hU⟩ : ∃ U, U = V.drewN nq := ⟨_, rfl⟩
      rw [← hU]
      have HKU := hid (show Keep Nil V U from hU ▸ (Keep.refl Nil V).drewN _)
      have HU := hid (HPRE.out.quiet HKU.out)
      have u1 := HKU.out.cell u1 (fun h => h)
      have u3 := HKU.out.cell u3 (fun h => h)
      have u4 := HKU.out.cell u4 (fun h => h)
      have v2 := HKU.out.cell v2 (fun h => h)
      have uz := lt_of_block HU.out.at_
      have vz := lt_of_block HU.out.box
      clear hU u6 u7 v3
      have KD := hid ((Keep.refl Nil U).drew)
      have HD := hid (HU.out.quiet KD.out)
      go_upto_region 8 with fail
      go_region_held3 (fun w' => w'.cell? ⟨o, 1, none⟩ = some (.int .i64 s.th) ∧ w'.cell? ⟨pb, 2, none⟩ = some (.int .i64 (c.master : Int))) (first | (exact s9; done) | go_keep)
        (first
          | (go_at_call 99; (with_reducible refine (rcas_yes HD.out.rp.mem s.th (c.master : Int) 0 (s.th + 1) HG.out.t0.1 HG.out.t0.2 (Int.natCast_nonneg _) HX0.out (by have := HL.out; omega)).mono ?_); rintro e w10 ⟨rfl, hto⟩; have hq := KL.of HD.out.rp HD.out.nB (lt_of_block HD.out.at_) hto; have R10 := hq.choose_spec.choose_spec.keep.at HD.out.at_ HD.out.nB; have P10 := hq.choose_spec.choose_spec.keep.at HD.out.box HD.out.nP; have s9 : w10.cell? ⟨o, 1, none⟩ = some (.int .i64 s.th) ∧ w10.cell? ⟨pb, 2, none⟩ = some (.int .i64 (c.master : Int)) := ⟨(by rw [cell_of R10]; rfl), (by rw [cell_of P10]; rfl)⟩; have HQ := hid (And.intro hq R10); clear hto hq R10 P10))
      rw [Int.toNat_natCast] at HQ
      obtain ⟨⟨B1, F1, hkl⟩, r10⟩ := HQ.out
      have HKL := hid (And.intro hkl (show RKAt w10 o rb s from r10))
      clear hkl r10
      have t5 : w10.cell? ⟨o, 5, none⟩ = some (.int .u8 s.next) := by rw [cell_of HKL.out.2]; rfl
      have t6 : w10.cell? ⟨o, 6, none⟩ = some (.int .i64 s.entry) := by rw [cell_of HKL.out.2]; rfl
      have t7 : w10.cell? ⟨o, 7, none⟩ = some (.int .i64 s.free) := by rw [cell_of HKL.out.2]; rfl
      have t9 : w10.cell? ⟨o, 9, none⟩ = some (.bool s.conf) := by rw [cell_of HKL.out.2]; rfl
      have g5 : w10.frozen? ⟨o, 5, none⟩ = false := free_of HKL.out.2 5
      have g6 : w10.frozen? ⟨o, 6, none⟩ = false := free_of HKL.out.2 6
      have g7 : w10.frozen? ⟨o, 7, none⟩ = false := free_of HKL.out.2 7
      have g9 : w10.frozen? ⟨o, 9, none⟩ = false := free_of HKL.out.2 9
      have tz : o < w10.heap.size := lt_of_block HKL.out.2
      go_wp2
      go_quiet (fail)
      go_wp2
      go_ret2
      refine R31To.pre (HKV.out.trans (HKU.out.trans KD.out (fun _ _ h => h)) (fun _ _ h => h)) ?_
      rw [HWSE.out, HACE.out, HPE.out]
      exact HKL.out.1.done (((Keep.refl Nil _).drewN nq).at (set_same (set_same (set_same (set_same HKL.out.2 (i := 5) (.int .u8 37)) (i := 6) (.int .i64 0)) (i := 7) (.int .i64 (-1))) (i := 9) (.bool false)) (fun h => h)) ((((kone.trans kone (fun _ _ h => h)).trans kone (fun _ _ h => h)).trans kone (fun _ _ h => h)).drewN nq)
    · have HWSE := hid (show WS = ws from by rw [HWS.out]; unfold KS.ws KS.put; rw [if_pos hn, if_neg hx0])
      have HACE := hid (show AC = ⟨s.th, (c.master : Int), 4, x, x, false⟩ from by rw [HAC.out]; unfold KS.acc; rw [if_pos hn, if_neg hx0, hat])
      have HPE := hid (show P = ({ s with fails := s.fails + 1 } : KS).again from by rw [HP.out]; unfold KS.act; rw [if_pos hn, if_neg hx0])
      have HNE := hid hx0
      clear hat hx hx0 hn
      go_wp2
      go_quiet (fail)
      obtain ⟨U, hU⟩ : ∃ U, U = V.drewN nq := ⟨_, rfl⟩
      rw [← hU]
      have HKU := hid (show Keep Nil V U from hU ▸ (Keep.refl Nil V).drewN _)
      have HU := hid (HPRE.out.quiet HKU.out)
      have u1 := HKU.out.cell u1 (fun h => h)
      have u3 := HKU.out.cell u3 (fun h => h)
      have u4 := HKU.out.cell u4 (fun h => h)
      have v2 := HKU.out.cell v2 (fun h => h)
      have uz := lt_of_block HU.out.at_
      have vz := lt_of_block HU.out.box
      clear hU u6 u7 v3
      have KD := hid ((Keep.refl Nil U).drew)
      have HD := hid (HU.out.quiet KD.out)
      go_upto_region 8 with fail
      go_region_held3 (fun w' => w'.cell? ⟨o, 1, none⟩ = some (.int .i64 s.th) ∧ w'.cell? ⟨pb, 2, none⟩ = some (.int .i64 (c.master : Int))) (first | (exact s9; done) | go_keep)
        (first
          | (go_at_call 99; (with_reducible refine (rcas_no HD.out.rp.mem s.th (c.master : Int) x 0 (s.th + 1) HG.out.t0.1 HG.out.t0.2 (Int.natCast_nonneg _) HXM.out HNE.out (by have := HL.out; omega)).mono ?_); rintro e w10 ⟨rfl, hto⟩; have hq := KL.of HD.out.rp HD.out.nB (lt_of_block HD.out.at_) hto; have R10 := hq.choose_spec.choose_spec.keep.at HD.out.at_ HD.out.nB; have P10 := hq.choose_spec.choose_spec.keep.at HD.out.box HD.out.nP; have s9 : w10.cell? ⟨o, 1, none⟩ = some (.int .i64 s.th) ∧ w10.cell? ⟨pb, 2, none⟩ = some (.int .i64 (c.master : Int)) := ⟨(by rw [cell_of R10]; rfl), (by rw [cell_of P10]; rfl)⟩; have HQ := hid (And.intro hq R10); clear hto hq R10 P10))
      obtain ⟨⟨B1, F1, hkl⟩, r10⟩ := HQ.out
      have HKL := hid (And.intro hkl (show RKAt w10 o rb s from r10))
      clear hkl r10
      have t10 : w10.cell? ⟨o, 10, none⟩ = some (.int .i64 s.fails) := by rw [cell_of HKL.out.2]; rfl
      have g10 : w10.frozen? ⟨o, 10, none⟩ = false := free_of HKL.out.2 10
      have tz : o < w10.heap.size := lt_of_block HKL.out.2
      go_wp2_with fail
      refine (r31tried (s := { s with fails := s.fails + 1 }) (show RKAt _ o rb { s with fails := s.fails + 1 } from set_same HKL.out.2 (i := 10) (.int .i64 (s.fails + 1)))).mono ?_
      rintro e w11 ⟨rfl, hr, hk⟩
      rw [← HPE.out] at hr
      have HR := hid hr
      have HK11 := hid (kone.trans hk (fun _ _ h => h))
      clear hr hk
      have c5 : w11.cell? ⟨o, 5, none⟩ = some (.int .u8 (KS.nx P).next) := by rw [cell_of HR.out]; rfl
      have z11 := lt_of_block HR.out
      go_wp2
      go_quiet (fail)
      go_wp2
      go_ret2
      refine R31To.pre (HKV.out.trans (HKU.out.trans KD.out (fun _ _ h => h)) (fun _ _ h => h)) ?_
      rw [HWSE.out, HACE.out]
      exact HKL.out.1.done (((Keep.refl Nil _).drewN nq).at HR.out (fun h => h)) (HK11.out.drewN nq)
  · have dn2 : (s.next == 2) = false := beq_eq_false_iff_ne.2 (by omega)
    have dn37 : (s.next == 37) = true := beq_iff_eq.2 hn
    obtain ⟨e0, e1⟩ := HG.out.en (by omega)
    have hat : s.at c.master c.locks = c.locks + 3 * s.entry.toNat := by unfold KS.at; rw [if_neg (by omega), if_pos hn]
    have hp : s.put x = none := by unfold KS.put; rw [if_neg (by omega), if_neg (by omega), if_neg (by omega), if_neg (by omega), if_neg (by omega)]
    have HWSE := hid (show WS = ws from by rw [HWS.out]; unfold KS.ws; rw [hp])
    obtain ⟨AD, hAD⟩ : ∃ AD : Int, AD = (c.locks : Int) + 3 * s.entry := ⟨_, rfl⟩
    have HACE := hid (show AC = ⟨s.th, AD, 1, x, x, false⟩ from by
      rw [HAC.out]; unfold KS.acc; rw [if_neg (by omega), hp, hat]; simp only [Acc.mk.injEq]; exact ⟨trivial, by omega, trivial, trivial, trivial, trivial⟩)
    have HXM := hid (show ws[AD.toNat]? = some x from by have hx := HX.out; rw [hat] at hx; rw [hAD, show ((c.locks : Int) + 3 * s.entry).toNat = c.locks + 3 * s.entry.toNat by omega]; exact hx)
    have HA0 := hid (show 0 ≤ AD by omega)
    have we1 : IntKind.i64.wrap (3 * s.entry) = 3 * s.entry := by rw [IntKind.wrap_i64]; omega
    have we2 : IntKind.i64.wrap ((c.locks : Int) + 3 * s.entry) = AD := by rw [hAD, IntKind.wrap_i64]; omega
    have HEN := hid (And.intro e0 e1)
    by_cases hx0 : x = 0
    · have dx : (x != 0) = false := by simpa using hx0
      by_cases hf : s.free < 0
      · have df : decide (s.free < 0) = true := decide_eq_true hf
        have HPE := hid (show P = ({ s with free := s.entry } : KS).follow c.lk from by rw [HP.out]; unfold KS.act; rw [if_neg (by omega), if_pos hn, if_pos hx0, if_pos hf])
        clear hat hp hAD hn hf hx0 e0 e1
        go_wp2
        go_quiet (fail)
        obtain ⟨U, hU⟩ : ∃ U, U = V.drewN nq := ⟨_, rfl⟩
        rw [← hU]
        have HKU := hid (show Keep Nil V U from hU ▸ (Keep.refl Nil V).drewN _)
        have HU := hid (HPRE.out.quiet HKU.out)
        have u1 := HKU.out.cell u1 (fun h => h)
        have u3 := HKU.out.cell u3 (fun h => h)
        have u4 := HKU.out.cell u4 (fun h => h)
        have v2 := HKU.out.cell v2 (fun h => h)
        have uz := lt_of_block HU.out.at_
        have vz := lt_of_block HU.out.box
        clear hU u6 u7 v3
        go_wp2_with fail
        refine (rload_ok HU.out.rp.mem s.th AD x HG.out.t0.1 HG.out.t0.2 HA0.out HXM.out (by have := HL.out; omega)).mono ?_
        rintro e w10 ⟨rfl, hto⟩
        obtain ⟨B1, F1, hkl⟩ := KL.of HU.out.rp HU.out.nB (lt_of_block HU.out.at_) hto
        have HKL := hid (And.intro hkl (show RKAt w10 o rb s from hkl.keep.at HU.out.at_ HU.out.nB))
        clear hto hkl
        have HLO := hid (show l ≠ o from fun e => by
          have h1 := HKL.out.1.rp.rlc3.c16
          rw [e, cell_of HKL.out.2] at h1
          cases h1)
        have t6 : w10.cell? ⟨o, 6, none⟩ = some (.int .i64 s.entry) := by rw [cell_of HKL.out.2]; rfl
        have t7 : w10.cell? ⟨o, 7, none⟩ = some (.int .i64 s.free) := by rw [cell_of HKL.out.2]; rfl
        have g6 : w10.frozen? ⟨o, 6, none⟩ = false := free_of HKL.out.2 6
        have g7 : w10.frozen? ⟨o, 7, none⟩ = false := free_of HKL.out.2 7
        have tz : o < w10.heap.size := lt_of_block HKL.out.2
        go_wp2_with fail
        refine (r31entry (s := { s with free := s.entry }) (show RKAt _ o rb { s with free := s.entry } from set_same HKL.out.2 (i := 7) (.int .i64 s.entry)) (kone.cell HKL.out.1.rp.c0 (fun e => HKL.out.1.nB (e ▸ (HKL.out.1.rp.foot rb).2 (.inl rfl)))) (kone.cell HKL.out.1.rp.rlc3.c13 HLO.out) (fun e => HKL.out.1.nB (e ▸ (HKL.out.1.rp.foot rb).2 (.inl rfl))) HLO.out (by have := (kone (w := w10) (o := o) (i := 7) (v := .int .i64 s.entry)).size; have := HKL.out.1.rp.bl; omega) (by have := (kone (w := w10) (o := o) (i := 7) (v := .int .i64 s.entry)).size; have := HKL.out.1.rp.rlc3.lt; omega) HEN.out.1 (by have := HEN.out.2; have := HLK.out.1; show s.entry ≤ 16; omega) HG.out.fl).mono ?_
        rintro e w11 ⟨rfl, hr, hk⟩
        rw [← HPE.out] at hr
        have HR := hid hr
        have HK11 := hid (kone.trans hk (fun _ _ h => h))
        clear hr hk
        have c5 : w11.cell? ⟨o, 5, none⟩ = some (.int .u8 (KS.nx P).next) := by rw [cell_of HR.out]; rfl
        have z11 := lt_of_block HR.out
        go_wp2
        go_quiet (fail)
        go_wp2
        go_ret2
        refine R31To.pre (HKV.out.trans HKU.out (fun _ _ h => h)) ?_
        rw [HWSE.out, HACE.out]
        exact HKL.out.1.done (((Keep.refl Nil _).drewN nq).at HR.out (fun h => h)) (HK11.out.drewN nq)
      · have df : decide (s.free < 0) = false := decide_eq_false hf
        have HPE := hid (show P = (s : KS).follow c.lk from by rw [HP.out]; unfold KS.act; rw [if_neg (by omega), if_pos hn, if_pos hx0, if_neg hf])
        clear hat hp hAD hn hf hx0 e0 e1
        go_wp2
        go_quiet (fail)
        obtain ⟨U, hU⟩ : ∃ U, U = V.drewN nq := ⟨_, rfl⟩
        rw [← hU]
        have HKU := hid (show Keep Nil V U from hU ▸ (Keep.refl Nil V).drewN _)
        have HU := hid (HPRE.out.quiet HKU.out)
        have u1 := HKU.out.cell u1 (fun h => h)
        have u3 := HKU.out.cell u3 (fun h => h)
        have u4 := HKU.out.cell u4 (fun h => h)
        have v2 := HKU.out.cell v2 (fun h => h)
        have uz := lt_of_block HU.out.at_
        have vz := lt_of_block HU.out.box
        clear hU u6 u7 v3
        go_wp2_with fail
        refine (rload_ok HU.out.rp.mem s.th AD x HG.out.t0.1 HG.out.t0.2 HA0.out HXM.out (by have := HL.out; omega)).mono ?_
        rintro e w10 ⟨rfl, hto⟩
        obtain ⟨B1, F1, hkl⟩ := KL.of HU.out.rp HU.out.nB (lt_of_block HU.out.at_) hto
        have HKL := hid (And.intro hkl (show RKAt w10 o rb s from hkl.keep.at HU.out.at_ HU.out.nB))
        clear hto hkl
        have HLO := hid (show l ≠ o from fun e => by
          have h1 := HKL.out.1.rp.rlc3.c16
          rw [e, cell_of HKL.out.2] at h1
          cases h1)
        have t6 : w10.cell? ⟨o, 6, none⟩ = some (.int .i64 s.entry) := by rw [cell_of HKL.out.2]; rfl
        have t7 : w10.cell? ⟨o, 7, none⟩ = some (.int .i64 s.free) := by rw [cell_of HKL.out.2]; rfl
        have g6 : w10.frozen? ⟨o, 6, none⟩ = false := free_of HKL.out.2 6
        have g7 : w10.frozen? ⟨o, 7, none⟩ = false := free_of HKL.out.2 7
        have tz : o < w10.heap.size := lt_of_block HKL.out.2
        go_wp2_with fail
        refine (r31entry HKL.out.2 HKL.out.1.rp.c0 HKL.out.1.rp.rlc3.c13 (fun e => HKL.out.1.nB (e ▸ (HKL.out.1.rp.foot rb).2 (.inl rfl))) HLO.out HKL.out.1.rp.bl HKL.out.1.rp.rlc3.lt HEN.out.1 (by have := HEN.out.2; have := HLK.out.1; omega) HG.out.fl).mono ?_
        rintro e w11 ⟨rfl, hr, hk⟩
        rw [← HPE.out] at hr
        have HR := hid hr
        have HK11 := hid hk
        clear hr hk
        have c5 : w11.cell? ⟨o, 5, none⟩ = some (.int .u8 (KS.nx P).next) := by rw [cell_of HR.out]; rfl
        have z11 := lt_of_block HR.out
        go_wp2
        go_quiet (fail)
        go_wp2
        go_ret2
        refine R31To.pre (HKV.out.trans HKU.out (fun _ _ h => h)) ?_
        rw [HWSE.out, HACE.out]
        exact HKL.out.1.done (((Keep.refl Nil _).drewN nq).at HR.out (fun h => h)) (HK11.out.drewN nq)
    · have dx : (x != 0) = true := by simpa using hx0
      have HPE := hid (show P = (s, 38) from by rw [HP.out]; unfold KS.act; rw [if_neg (by omega), if_pos hn, if_neg hx0])
      clear hat hp hAD hn hx0 e0 e1
      go_wp2
      go_quiet (fail)
      obtain ⟨U, hU⟩ : ∃ U, U = V.drewN nq := ⟨_, rfl⟩
      rw [← hU]
      have HKU := hid (show Keep Nil V U from hU ▸ (Keep.refl Nil V).drewN _)
      have HU := hid (HPRE.out.quiet HKU.out)
      have u1 := HKU.out.cell u1 (fun h => h)
      have u3 := HKU.out.cell u3 (fun h => h)
      have u4 := HKU.out.cell u4 (fun h => h)
      have v2 := HKU.out.cell v2 (fun h => h)
      have uz := lt_of_block HU.out.at_
      have vz := lt_of_block HU.out.box
      clear hU u6 u7 v3
      go_wp2_with fail
      refine (rload_ok HU.out.rp.mem s.th AD x HG.out.t0.1 HG.out.t0.2 HA0.out HXM.out (by have := HL.out; omega)).mono ?_
      rintro e w10 ⟨rfl, hto⟩
      obtain ⟨B1, F1, hkl⟩ := KL.of HU.out.rp HU.out.nB (lt_of_block HU.out.at_) hto
      have HKL := hid (And.intro hkl (show RKAt w10 o rb s from hkl.keep.at HU.out.at_ HU.out.nB))
      clear hto hkl
      have t5 : w10.cell? ⟨o, 5, none⟩ = some (.int .u8 s.next) := by rw [cell_of HKL.out.2]; rfl
      have g5 : w10.frozen? ⟨o, 5, none⟩ = false := free_of HKL.out.2 5
      have tz : o < w10.heap.size := lt_of_block HKL.out.2
      go_wp2
      go_quiet (fail)
      go_wp2
      go_ret2
      refine R31To.pre (HKV.out.trans HKU.out (fun _ _ h => h)) ?_
      rw [HWSE.out, HACE.out, HPE.out]
      exact HKL.out.1.done (((Keep.refl Nil _).drewN nq).at (set_same HKL.out.2 (i := 5) (.int .u8 38)) (fun h => h)) (kone.drewN nq)
  · have dn2 : (s.next == 2) = false := beq_eq_false_iff_ne.2 (by omega)
    have dn37 : (s.next == 37) = false := beq_eq_false_iff_ne.2 (by omega)
    have dn38 : (s.next == 38) = true := beq_iff_eq.2 hn
    obtain ⟨e0, e1⟩ := HG.out.en (by omega)
    have hat : s.at c.master c.locks = c.locks + 3 * s.entry.toNat + 1 := by unfold KS.at; rw [if_neg (by omega), if_neg (by omega), if_pos hn]
    have hp : s.put x = none := by unfold KS.put; rw [if_neg (by omega), if_neg (by omega), if_neg (by omega), if_neg (by omega), if_neg (by omega)]
    have HWSE := hid (show WS = ws from by rw [HWS.out]; unfold KS.ws; rw [hp])
    obtain ⟨AD, hAD⟩ : ∃ AD : Int, AD = (c.locks : Int) + 3 * s.entry + 1 := ⟨_, rfl⟩
    have HACE := hid (show AC = ⟨s.th, AD, 1, x, x, false⟩ from by
      rw [HAC.out]; unfold KS.acc; rw [if_neg (by omega), hp, hat]; simp only [Acc.mk.injEq]; exact ⟨trivial, by omega, trivial, trivial, trivial, trivial⟩)
    have HXM := hid (show ws[AD.toNat]? = some x from by have hx := HX.out; rw [hat] at hx; rw [hAD, show ((c.locks : Int) + 3 * s.entry + 1).toNat = c.locks + 3 * s.entry.toNat + 1 by omega]; exact hx)
    have HA0 := hid (show 0 ≤ AD by omega)
    have we1 : IntKind.i64.wrap (3 * s.entry) = 3 * s.entry := by rw [IntKind.wrap_i64]; omega
    have we2 : IntKind.i64.wrap ((c.locks : Int) + 3 * s.entry) = (c.locks : Int) + 3 * s.entry := by rw [IntKind.wrap_i64]; omega
    have we3 : IntKind.i64.wrap ((c.locks : Int) + 3 * s.entry + 1) = AD := by rw [hAD, IntKind.wrap_i64]; omega
    have HEN := hid (And.intro e0 e1)
    have HPE := hid (show P = ({ s with low := x }, 39) from by rw [HP.out]; unfold KS.act; rw [if_neg (by omega), if_neg (by omega), if_pos hn])
    clear hat hp hAD hn e0 e1
    go_wp2
    go_quiet (fail)
    obtain ⟨U, hU⟩ : ∃ U, U = V.drewN nq := ⟨_, rfl⟩
    rw [← hU]
    have HKU := hid (show Keep Nil V U from hU ▸ (Keep.refl Nil V).drewN _)
    have HU := hid (HPRE.out.quiet HKU.out)
    have u1 := HKU.out.cell u1 (fun h => h)
    have u3 := HKU.out.cell u3 (fun h => h)
    have u4 := HKU.out.cell u4 (fun h => h)
    have v2 := HKU.out.cell v2 (fun h => h)
    have uz := lt_of_block HU.out.at_
    have vz := lt_of_block HU.out.box
    clear hU u6 u7 v3
    go_wp2_with fail
    refine (rload_ok HU.out.rp.mem s.th AD x HG.out.t0.1 HG.out.t0.2 HA0.out HXM.out (by have := HL.out; omega)).mono ?_
    rintro e w10 ⟨rfl, hto⟩
    obtain ⟨B1, F1, hkl⟩ := KL.of HU.out.rp HU.out.nB (lt_of_block HU.out.at_) hto
    have HKL := hid (And.intro hkl (show RKAt w10 o rb s from hkl.keep.at HU.out.at_ HU.out.nB))
    clear hto hkl
    have t5 : w10.cell? ⟨o, 5, none⟩ = some (.int .u8 s.next) := by rw [cell_of HKL.out.2]; rfl
    have t8 : w10.cell? ⟨o, 8, none⟩ = some (.int .u64 s.low) := by rw [cell_of HKL.out.2]; rfl
    have g5 : w10.frozen? ⟨o, 5, none⟩ = false := free_of HKL.out.2 5
    have g8 : w10.frozen? ⟨o, 8, none⟩ = false := free_of HKL.out.2 8
    have tz : o < w10.heap.size := lt_of_block HKL.out.2
    go_wp2
    go_quiet (fail)
    go_wp2
    go_ret2
    refine R31To.pre (HKV.out.trans HKU.out (fun _ _ h => h)) ?_
    rw [HWSE.out, HACE.out, HPE.out]
    exact HKL.out.1.done (((Keep.refl Nil _).drewN nq).at (set_same (set_same HKL.out.2 (i := 8) (.int .u64 x)) (i := 5) (.int .u8 39)) (fun h => h)) ((kone.trans kone (fun _ _ h => h)).drewN nq)
  · have dn2 : (s.next == 2) = false := beq_eq_false_iff_ne.2 (by omega)
    have dn37 : (s.next == 37) = false := beq_eq_false_iff_ne.2 (by omega)
    have dn38 : (s.next == 38) = false := beq_eq_false_iff_ne.2 (by omega)
    have dn39 : (s.next == 39) = true := beq_iff_eq.2 hn
    obtain ⟨e0, e1⟩ := HG.out.en (by omega)
    have hat : s.at c.master c.locks = c.locks + 3 * s.entry.toNat + 2 := by unfold KS.at; rw [if_neg (by omega), if_neg (by omega), if_neg (by omega), if_pos hn]
    have hp : s.put x = none := by unfold KS.put; rw [if_neg (by omega), if_neg (by omega), if_neg (by omega), if_neg (by omega), if_neg (by omega)]
    have HWSE := hid (show WS = ws from by rw [HWS.out]; unfold KS.ws; rw [hp])
    obtain ⟨AD, hAD⟩ : ∃ AD : Int, AD = (c.locks : Int) + 3 * s.entry + 2 := ⟨_, rfl⟩
    have HACE := hid (show AC = ⟨s.th, AD, 1, x, x, false⟩ from by
      rw [HAC.out]; unfold KS.acc; rw [if_neg (by omega), hp, hat]; simp only [Acc.mk.injEq]; exact ⟨trivial, by omega, trivial, trivial, trivial, trivial⟩)
    have HXM := hid (show ws[AD.toNat]? = some x from by have hx := HX.out; rw [hat] at hx; rw [hAD, show ((c.locks : Int) + 3 * s.entry + 2).toNat = c.locks + 3 * s.entry.toNat + 2 by omega]; exact hx)
    have HA0 := hid (show 0 ≤ AD by omega)
    have we1 : IntKind.i64.wrap (3 * s.entry) = 3 * s.entry := by rw [IntKind.wrap_i64]; omega
    have we2 : IntKind.i64.wrap ((c.locks : Int) + 3 * s.entry) = (c.locks : Int) + 3 * s.entry := by rw [IntKind.wrap_i64]; omega
    have we3 : IntKind.i64.wrap ((c.locks : Int) + 3 * s.entry + 2) = AD := by rw [hAD, IntKind.wrap_i64]; omega
    have HEN := hid (And.intro e0 e1)
    by_cases hlo : s.lo ≤ x
    · have dl1 : decide (s.lo ≤ x) = true := decide_eq_true hlo
      by_cases hlw : s.low ≤ s.hi
      · have dl2 : decide (s.low ≤ s.hi) = true := decide_eq_true hlw
        have HPE := hid (show P = s.clash from by rw [HP.out]; unfold KS.act; rw [if_neg (by omega), if_neg (by omega), if_neg (by omega), if_pos hn, if_pos ⟨hlw, hlo⟩])
        clear hlo hlw
        clear hat hp hAD hn e0 e1
        go_wp2
        go_quiet (fail)
        obtain ⟨U, hU⟩ : ∃ U, U = V.drewN nq := ⟨_, rfl⟩
        rw [← hU]
        have HKU := hid (show Keep Nil V U from hU ▸ (Keep.refl Nil V).drewN _)
        have HU := hid (HPRE.out.quiet HKU.out)
        have u1 := HKU.out.cell u1 (fun h => h)
        have u3 := HKU.out.cell u3 (fun h => h)
        have u4 := HKU.out.cell u4 (fun h => h)
        have v2 := HKU.out.cell v2 (fun h => h)
        have uz := lt_of_block HU.out.at_
        have vz := lt_of_block HU.out.box
        clear hU u6 u7 v3
        go_wp2_with fail
        refine (rload_ok HU.out.rp.mem s.th AD x HG.out.t0.1 HG.out.t0.2 HA0.out HXM.out (by have := HL.out; omega)).mono ?_
        rintro e w10 ⟨rfl, hto⟩
        obtain ⟨B1, F1, hkl⟩ := KL.of HU.out.rp HU.out.nB (lt_of_block HU.out.at_) hto
        have HKL := hid (And.intro hkl (show RKAt w10 o rb s from hkl.keep.at HU.out.at_ HU.out.nB))
        clear hto hkl
        have HLO := hid (show l ≠ o from fun e => by
          have h1 := HKL.out.1.rp.rlc3.c16
          rw [e, cell_of HKL.out.2] at h1
          cases h1)
        have t3 : w10.cell? ⟨o, 3, none⟩ = some (.int .u64 s.lo) := by rw [cell_of HKL.out.2]; rfl
        have t4 : w10.cell? ⟨o, 4, none⟩ = some (.int .u64 s.hi) := by rw [cell_of HKL.out.2]; rfl
        have t8 : w10.cell? ⟨o, 8, none⟩ = some (.int .u64 s.low) := by rw [cell_of HKL.out.2]; rfl
        have g3 : w10.frozen? ⟨o, 3, none⟩ = false := free_of HKL.out.2 3
        have g4 : w10.frozen? ⟨o, 4, none⟩ = false := free_of HKL.out.2 4
        have g8 : w10.frozen? ⟨o, 8, none⟩ = false := free_of HKL.out.2 8
        have tz : o < w10.heap.size := lt_of_block HKL.out.2
        go_wp2
        go_quiet (fail)
        obtain ⟨Y, hY⟩ : ∃ Y, Y = w10.drewN nq := ⟨_, rfl⟩
        rw [← hY]
        have KY := hid (show Keep Nil w10 Y from hY ▸ (Keep.refl Nil w10).drewN _)
        have HKY := hid (show RKAt Y o rb s from KY.out.at HKL.out.2 (fun h => h))
        have HRY := hid (HKL.out.1.rp.quiet KY.out)
        have tz : o < Y.heap.size := lt_of_block HKY.out
        clear hY t3 t4 t8 g3 g4 g8
        go_wp2_with fail
        refine (r31conflict HKY.out HG.out.fl).mono ?_
        rintro e w11 ⟨rfl, hr, hk⟩
        rw [← HPE.out] at hr
        have HR := hid hr
        have HK11 := hid (show Keep (fun k => k = o) w10 w11 from (KY.out.mono (T := fun k => k = o) (fun _ _ h => h.elim)).trans hk (fun _ _ h => h))
        clear hr hk
        have c5 : w11.cell? ⟨o, 5, none⟩ = some (.int .u8 (KS.nx P).next) := by rw [cell_of HR.out]; rfl
        have z11 := lt_of_block HR.out
        go_wp2
        go_quiet (fail)
        go_wp2
        go_ret2
        refine R31To.pre (HKV.out.trans HKU.out (fun _ _ h => h)) ?_
        rw [HWSE.out, HACE.out]
        exact HKL.out.1.done (((Keep.refl Nil _).drewN nq).at HR.out (fun h => h)) (HK11.out.drewN nq)
      · have dl2 : decide (s.low ≤ s.hi) = false := decide_eq_false hlw
        have HPE := hid (show P = s.follow c.lk from by rw [HP.out]; unfold KS.act; rw [if_neg (by omega), if_neg (by omega), if_neg (by omega), if_pos hn, if_neg (fun h => hlw h.1)])
        clear hlo hlw
        clear hat hp hAD hn e0 e1
        go_wp2
        go_quiet (fail)
        obtain ⟨U, hU⟩ : ∃ U, U = V.drewN nq := ⟨_, rfl⟩
        rw [← hU]
        have HKU := hid (show Keep Nil V U from hU ▸ (Keep.refl Nil V).drewN _)
        have HU := hid (HPRE.out.quiet HKU.out)
        have u1 := HKU.out.cell u1 (fun h => h)
        have u3 := HKU.out.cell u3 (fun h => h)
        have u4 := HKU.out.cell u4 (fun h => h)
        have v2 := HKU.out.cell v2 (fun h => h)
        have uz := lt_of_block HU.out.at_
        have vz := lt_of_block HU.out.box
        clear hU u6 u7 v3
        go_wp2_with fail
        refine (rload_ok HU.out.rp.mem s.th AD x HG.out.t0.1 HG.out.t0.2 HA0.out HXM.out (by have := HL.out; omega)).mono ?_
        rintro e w10 ⟨rfl, hto⟩
        obtain ⟨B1, F1, hkl⟩ := KL.of HU.out.rp HU.out.nB (lt_of_block HU.out.at_) hto
        have HKL := hid (And.intro hkl (show RKAt w10 o rb s from hkl.keep.at HU.out.at_ HU.out.nB))
        clear hto hkl
        have HLO := hid (show l ≠ o from fun e => by
          have h1 := HKL.out.1.rp.rlc3.c16
          rw [e, cell_of HKL.out.2] at h1
          cases h1)
        have t3 : w10.cell? ⟨o, 3, none⟩ = some (.int .u64 s.lo) := by rw [cell_of HKL.out.2]; rfl
        have t4 : w10.cell? ⟨o, 4, none⟩ = some (.int .u64 s.hi) := by rw [cell_of HKL.out.2]; rfl
        have t8 : w10.cell? ⟨o, 8, none⟩ = some (.int .u64 s.low) := by rw [cell_of HKL.out.2]; rfl
        have g3 : w10.frozen? ⟨o, 3, none⟩ = false := free_of HKL.out.2 3
        have g4 : w10.frozen? ⟨o, 4, none⟩ = false := free_of HKL.out.2 4
        have g8 : w10.frozen? ⟨o, 8, none⟩ = false := free_of HKL.out.2 8
        have tz : o < w10.heap.size := lt_of_block HKL.out.2
        go_wp2
        go_quiet (fail)
        obtain ⟨Y, hY⟩ : ∃ Y, Y = w10.drewN nq := ⟨_, rfl⟩
        rw [← hY]
        have KY := hid (show Keep Nil w10 Y from hY ▸ (Keep.refl Nil w10).drewN _)
        have HKY := hid (show RKAt Y o rb s from KY.out.at HKL.out.2 (fun h => h))
        have HRY := hid (HKL.out.1.rp.quiet KY.out)
        have tz : o < Y.heap.size := lt_of_block HKY.out
        clear hY t3 t4 t8 g3 g4 g8
        go_wp2_with fail
        refine (r31entry HKY.out HRY.out.c0 HRY.out.rlc3.c13 (fun e => HKL.out.1.nB (e ▸ (HKL.out.1.rp.foot rb).2 (.inl rfl))) HLO.out HRY.out.bl HRY.out.rlc3.lt HEN.out.1 (by have := HEN.out.2; have := HLK.out.1; omega) HG.out.fl).mono ?_
        rintro e w11 ⟨rfl, hr, hk⟩
        rw [← HPE.out] at hr
        have HR := hid hr
        have HK11 := hid (show Keep (fun k => k = o) w10 w11 from (KY.out.mono (T := fun k => k = o) (fun _ _ h => h.elim)).trans hk (fun _ _ h => h))
        clear hr hk
        have c5 : w11.cell? ⟨o, 5, none⟩ = some (.int .u8 (KS.nx P).next) := by rw [cell_of HR.out]; rfl
        have z11 := lt_of_block HR.out
        go_wp2
        go_quiet (fail)
        go_wp2
        go_ret2
        refine R31To.pre (HKV.out.trans HKU.out (fun _ _ h => h)) ?_
        rw [HWSE.out, HACE.out]
        exact HKL.out.1.done (((Keep.refl Nil _).drewN nq).at HR.out (fun h => h)) (HK11.out.drewN nq)
    · have dl1 : decide (s.lo ≤ x) = false := decide_eq_false hlo
      have HPE := hid (show P = s.follow c.lk from by rw [HP.out]; unfold KS.act; rw [if_neg (by omega), if_neg (by omega), if_neg (by omega), if_pos hn, if_neg (fun h => hlo h.2)])
      clear hlo
      clear hat hp hAD hn e0 e1
      go_wp2
      go_quiet (fail)
      obtain ⟨U, hU⟩ : ∃ U, U = V.drewN nq := ⟨_, rfl⟩
      rw [← hU]
      have HKU := hid (show Keep Nil V U from hU ▸ (Keep.refl Nil V).drewN _)
      have HU := hid (HPRE.out.quiet HKU.out)
      have u1 := HKU.out.cell u1 (fun h => h)
      have u3 := HKU.out.cell u3 (fun h => h)
      have u4 := HKU.out.cell u4 (fun h => h)
      have v2 := HKU.out.cell v2 (fun h => h)
      have uz := lt_of_block HU.out.at_
      have vz := lt_of_block HU.out.box
      clear hU u6 u7 v3
      go_wp2_with fail
      refine (rload_ok HU.out.rp.mem s.th AD x HG.out.t0.1 HG.out.t0.2 HA0.out HXM.out (by have := HL.out; omega)).mono ?_
      rintro e w10 ⟨rfl, hto⟩
      obtain ⟨B1, F1, hkl⟩ := KL.of HU.out.rp HU.out.nB (lt_of_block HU.out.at_) hto
      have HKL := hid (And.intro hkl (show RKAt w10 o rb s from hkl.keep.at HU.out.at_ HU.out.nB))
      clear hto hkl
      have HLO := hid (show l ≠ o from fun e => by
        have h1 := HKL.out.1.rp.rlc3.c16
        rw [e, cell_of HKL.out.2] at h1
        cases h1)
      have t3 : w10.cell? ⟨o, 3, none⟩ = some (.int .u64 s.lo) := by rw [cell_of HKL.out.2]; rfl
      have t4 : w10.cell? ⟨o, 4, none⟩ = some (.int .u64 s.hi) := by rw [cell_of HKL.out.2]; rfl
      have t8 : w10.cell? ⟨o, 8, none⟩ = some (.int .u64 s.low) := by rw [cell_of HKL.out.2]; rfl
      have g3 : w10.frozen? ⟨o, 3, none⟩ = false := free_of HKL.out.2 3
      have g4 : w10.frozen? ⟨o, 4, none⟩ = false := free_of HKL.out.2 4
      have g8 : w10.frozen? ⟨o, 8, none⟩ = false := free_of HKL.out.2 8
      have tz : o < w10.heap.size := lt_of_block HKL.out.2
      go_wp2
      go_quiet (fail)
      obtain ⟨Y, hY⟩ : ∃ Y, Y = w10.drewN nq := ⟨_, rfl⟩
      rw [← hY]
      have KY := hid (show Keep Nil w10 Y from hY ▸ (Keep.refl Nil w10).drewN _)
      have HKY := hid (show RKAt Y o rb s from KY.out.at HKL.out.2 (fun h => h))
      have HRY := hid (HKL.out.1.rp.quiet KY.out)
      have tz : o < Y.heap.size := lt_of_block HKY.out
      clear hY t3 t4 t8 g3 g4 g8
      go_wp2_with fail
      refine (r31entry HKY.out HRY.out.c0 HRY.out.rlc3.c13 (fun e => HKL.out.1.nB (e ▸ (HKL.out.1.rp.foot rb).2 (.inl rfl))) HLO.out HRY.out.bl HRY.out.rlc3.lt HEN.out.1 (by have := HEN.out.2; have := HLK.out.1; omega) HG.out.fl).mono ?_
      rintro e w11 ⟨rfl, hr, hk⟩
      rw [← HPE.out] at hr
      have HR := hid hr
      have HK11 := hid (show Keep (fun k => k = o) w10 w11 from (KY.out.mono (T := fun k => k = o) (fun _ _ h => h.elim)).trans hk (fun _ _ h => h))
      clear hr hk
      have c5 : w11.cell? ⟨o, 5, none⟩ = some (.int .u8 (KS.nx P).next) := by rw [cell_of HR.out]; rfl
      have z11 := lt_of_block HR.out
      go_wp2
      go_quiet (fail)
      go_wp2
      go_ret2
      refine R31To.pre (HKV.out.trans HKU.out (fun _ _ h => h)) ?_
      rw [HWSE.out, HACE.out]
      exact HKL.out.1.done (((Keep.refl Nil _).drewN nq).at HR.out (fun h => h)) (HK11.out.drewN nq)
  · have dn2 : (s.next == 2) = false := beq_eq_false_iff_ne.2 (by omega)
    have dn37 : (s.next == 37) = false := beq_eq_false_iff_ne.2 (by omega)
    have dn38 : (s.next == 38) = false := beq_eq_false_iff_ne.2 (by omega)
    have dn39 : (s.next == 39) = false := beq_eq_false_iff_ne.2 (by omega)
    have dn40 : (s.next == 40) = true := beq_iff_eq.2 hn
    have f0 := HG.out.fs (by omega)
    have hat : s.at c.master c.locks = c.locks + 3 * s.free.toNat + 1 := by unfold KS.at; rw [if_neg (by omega), if_neg (by omega), if_neg (by omega), if_neg (by omega), if_pos hn]
    have hp : s.put x = some (s.lo) := by unfold KS.put; rw [if_neg (by omega), if_pos hn]
    have HWSE := hid (show WS = ws.set (c.locks + 3 * s.free.toNat + 1) (s.lo) from by rw [HWS.out]; unfold KS.ws; rw [hp, hat])
    obtain ⟨AD, hAD⟩ : ∃ AD : Int, AD = (c.locks : Int) + 3 * s.free + 1 := ⟨_, rfl⟩
    have HACE := hid (show AC = ⟨s.th, AD, 2, x, s.lo, false⟩ from by
      rw [HAC.out]; unfold KS.acc; rw [if_neg (by omega), hp, hat]; simp only [Acc.mk.injEq]; exact ⟨trivial, by omega, trivial, trivial, trivial, trivial⟩)
    have HPE := hid (show P = (s, 41) from by rw [HP.out]; unfold KS.act; rw [if_neg (by omega), if_neg (by omega), if_neg (by omega), if_neg (by omega), if_pos hn])
    have HADN := hid (show AD.toNat = c.locks + 3 * s.free.toNat + 1 by omega)
    have HXM := hid (show ws[AD.toNat]? = some x from by have hx := HX.out; rw [hat] at hx; rw [HADN.out]; exact hx)
    have HA0 := hid (show 0 ≤ AD by omega)
    have wf3 : IntKind.i64.wrap ((c.locks : Int) + 3 * s.free + 1) = AD := by rw [hAD, IntKind.wrap_i64]; omega
    clear hat hp hAD hn f0
    go_wp2
    go_quiet (fail)
    obtain ⟨U, hU⟩ : ∃ U, U = V.drewN nq := ⟨_, rfl⟩
    rw [← hU]
    have HKU := hid (show Keep Nil V U from hU ▸ (Keep.refl Nil V).drewN _)
    have HU := hid (HPRE.out.quiet HKU.out)
    have u1 := HKU.out.cell u1 (fun h => h)
    have u3 := HKU.out.cell u3 (fun h => h)
    have u4 := HKU.out.cell u4 (fun h => h)
    have v2 := HKU.out.cell v2 (fun h => h)
    have uz := lt_of_block HU.out.at_
    have vz := lt_of_block HU.out.box
    clear hU u6 u7 v3
    have KD := hid ((Keep.refl Nil U).drew)
    have HD := hid (HU.out.quiet KD.out)
    go_upto_region 29 with fail
    go_region_held3 (fun w' => w'.cell? ⟨o, 1, none⟩ = some (.int .i64 s.th) ∧ w'.cell? ⟨o, 3, none⟩ = some (.int .u64 s.lo)) (first | (exact s9; done) | go_keep)
      (first
        | (go_at_call 98; (with_reducible refine (rstore_ok HD.out.rp.mem s.th AD x (s.lo) HG.out.t0.1 HG.out.t0.2 HA0.out HXM.out (by have := HL.out; omega)).mono ?_); rintro e w10 ⟨rfl, hto⟩; have hq := KL.of HD.out.rp HD.out.nB (lt_of_block HD.out.at_) hto; have R10 := hq.choose_spec.choose_spec.keep.at HD.out.at_ HD.out.nB; have s9 : w10.cell? ⟨o, 1, none⟩ = some (.int .i64 s.th) ∧ w10.cell? ⟨o, 3, none⟩ = some (.int .u64 s.lo) := ⟨(by rw [cell_of R10]; rfl), (by rw [cell_of R10]; rfl)⟩; have HQ := hid (And.intro hq R10); clear hto hq R10))
    rw [HADN.out] at HQ
    obtain ⟨⟨B1, F1, hkl⟩, r10⟩ := HQ.out
    have HKL := hid (And.intro hkl (show RKAt w10 o rb s from r10))
    clear hkl r10
    have t5 : w10.cell? ⟨o, 5, none⟩ = some (.int .u8 s.next) := by rw [cell_of HKL.out.2]; rfl
    have g5 : w10.frozen? ⟨o, 5, none⟩ = false := free_of HKL.out.2 5
    have tz : o < w10.heap.size := lt_of_block HKL.out.2
    go_wp2
    go_quiet (fail)
    go_wp2
    go_ret2
    refine R31To.pre (HKV.out.trans (HKU.out.trans KD.out (fun _ _ h => h)) (fun _ _ h => h)) ?_
    rw [HWSE.out, HACE.out, HPE.out]
    exact HKL.out.1.done (((Keep.refl Nil _).drewN nq).at (set_same HKL.out.2 (i := 5) (.int .u8 41)) (fun h => h)) (kone.drewN nq)
  · have dn2 : (s.next == 2) = false := beq_eq_false_iff_ne.2 (by omega)
    have dn37 : (s.next == 37) = false := beq_eq_false_iff_ne.2 (by omega)
    have dn38 : (s.next == 38) = false := beq_eq_false_iff_ne.2 (by omega)
    have dn39 : (s.next == 39) = false := beq_eq_false_iff_ne.2 (by omega)
    have dn40 : (s.next == 40) = false := beq_eq_false_iff_ne.2 (by omega)
    have dn41 : (s.next == 41) = true := beq_iff_eq.2 hn
    have f0 := HG.out.fs (by omega)
    have hat : s.at c.master c.locks = c.locks + 3 * s.free.toNat + 2 := by unfold KS.at; rw [if_neg (by omega), if_neg (by omega), if_neg (by omega), if_neg (by omega), if_neg (by omega), if_pos hn]
    have hp : s.put x = some (s.hi) := by unfold KS.put; rw [if_neg (by omega), if_neg (by omega), if_pos hn]
    have HWSE := hid (show WS = ws.set (c.locks + 3 * s.free.toNat + 2) (s.hi) from by rw [HWS.out]; unfold KS.ws; rw [hp, hat])
    obtain ⟨AD, hAD⟩ : ∃ AD : Int, AD = (c.locks : Int) + 3 * s.free + 2 := ⟨_, rfl⟩
    have HACE := hid (show AC = ⟨s.th, AD, 2, x, s.hi, false⟩ from by
      rw [HAC.out]; unfold KS.acc; rw [if_neg (by omega), hp, hat]; simp only [Acc.mk.injEq]; exact ⟨trivial, by omega, trivial, trivial, trivial, trivial⟩)
    have HPE := hid (show P = (s, 42) from by rw [HP.out]; unfold KS.act; rw [if_neg (by omega), if_neg (by omega), if_neg (by omega), if_neg (by omega), if_neg (by omega), if_pos hn])
    have HADN := hid (show AD.toNat = c.locks + 3 * s.free.toNat + 2 by omega)
    have HXM := hid (show ws[AD.toNat]? = some x from by have hx := HX.out; rw [hat] at hx; rw [HADN.out]; exact hx)
    have HA0 := hid (show 0 ≤ AD by omega)
    have wf3 : IntKind.i64.wrap ((c.locks : Int) + 3 * s.free + 2) = AD := by rw [hAD, IntKind.wrap_i64]; omega
    clear hat hp hAD hn f0
    go_wp2
    go_quiet (fail)
    obtain ⟨U, hU⟩ : ∃ U, U = V.drewN nq := ⟨_, rfl⟩
    rw [← hU]
    have HKU := hid (show Keep Nil V U from hU ▸ (Keep.refl Nil V).drewN _)
    have HU := hid (HPRE.out.quiet HKU.out)
    have u1 := HKU.out.cell u1 (fun h => h)
    have u3 := HKU.out.cell u3 (fun h => h)
    have u4 := HKU.out.cell u4 (fun h => h)
    have v2 := HKU.out.cell v2 (fun h => h)
    have uz := lt_of_block HU.out.at_
    have vz := lt_of_block HU.out.box
    clear hU u6 u7 v3
    have KD := hid ((Keep.refl Nil U).drew)
    have HD := hid (HU.out.quiet KD.out)
    go_upto_region 32 with fail
    go_region_held3 (fun w' => w'.cell? ⟨o, 1, none⟩ = some (.int .i64 s.th) ∧ w'.cell? ⟨o, 4, none⟩ = some (.int .u64 s.hi)) (first | (exact s9; done) | go_keep)
      (first
        | (go_at_call 98; (with_reducible refine (rstore_ok HD.out.rp.mem s.th AD x (s.hi) HG.out.t0.1 HG.out.t0.2 HA0.out HXM.out (by have := HL.out; omega)).mono ?_); rintro e w10 ⟨rfl, hto⟩; have hq := KL.of HD.out.rp HD.out.nB (lt_of_block HD.out.at_) hto; have R10 := hq.choose_spec.choose_spec.keep.at HD.out.at_ HD.out.nB; have s9 : w10.cell? ⟨o, 1, none⟩ = some (.int .i64 s.th) ∧ w10.cell? ⟨o, 4, none⟩ = some (.int .u64 s.hi) := ⟨(by rw [cell_of R10]; rfl), (by rw [cell_of R10]; rfl)⟩; have HQ := hid (And.intro hq R10); clear hto hq R10))
    rw [HADN.out] at HQ
    obtain ⟨⟨B1, F1, hkl⟩, r10⟩ := HQ.out
    have HKL := hid (And.intro hkl (show RKAt w10 o rb s from r10))
    clear hkl r10
    have t5 : w10.cell? ⟨o, 5, none⟩ = some (.int .u8 s.next) := by rw [cell_of HKL.out.2]; rfl
    have g5 : w10.frozen? ⟨o, 5, none⟩ = false := free_of HKL.out.2 5
    have tz : o < w10.heap.size := lt_of_block HKL.out.2
    go_wp2
    go_quiet (fail)
    go_wp2
    go_ret2
    refine R31To.pre (HKV.out.trans (HKU.out.trans KD.out (fun _ _ h => h)) (fun _ _ h => h)) ?_
    rw [HWSE.out, HACE.out, HPE.out]
    exact HKL.out.1.done (((Keep.refl Nil _).drewN nq).at (set_same HKL.out.2 (i := 5) (.int .u8 42)) (fun h => h)) (kone.drewN nq)
  · have dn2 : (s.next == 2) = false := beq_eq_false_iff_ne.2 (by omega)
    have dn37 : (s.next == 37) = false := beq_eq_false_iff_ne.2 (by omega)
    have dn38 : (s.next == 38) = false := beq_eq_false_iff_ne.2 (by omega)
    have dn39 : (s.next == 39) = false := beq_eq_false_iff_ne.2 (by omega)
    have dn40 : (s.next == 40) = false := beq_eq_false_iff_ne.2 (by omega)
    have dn41 : (s.next == 41) = false := beq_eq_false_iff_ne.2 (by omega)
    have dn42 : (s.next == 42) = true := beq_iff_eq.2 hn
    have f0 := HG.out.fs (by omega)
    have hat : s.at c.master c.locks = c.locks + 3 * s.free.toNat := by unfold KS.at; rw [if_neg (by omega), if_neg (by omega), if_neg (by omega), if_neg (by omega), if_neg (by omega), if_neg (by omega), if_pos hn]
    have hp : s.put x = some (1) := by unfold KS.put; rw [if_neg (by omega), if_neg (by omega), if_neg (by omega), if_pos hn]
    have HWSE := hid (show WS = ws.set (c.locks + 3 * s.free.toNat) (1) from by rw [HWS.out]; unfold KS.ws; rw [hp, hat])
    obtain ⟨AD, hAD⟩ : ∃ AD : Int, AD = (c.locks : Int) + 3 * s.free := ⟨_, rfl⟩
    have HACE := hid (show AC = ⟨s.th, AD, 2, x, 1, false⟩ from by
      rw [HAC.out]; unfold KS.acc; rw [if_neg (by omega), hp, hat]; simp only [Acc.mk.injEq]; exact ⟨trivial, by omega, trivial, trivial, trivial, trivial⟩)
    have HPE := hid (show P = (s, 3) from by rw [HP.out]; unfold KS.act; rw [if_neg (by omega), if_neg (by omega), if_neg (by omega), if_neg (by omega), if_neg (by omega), if_neg (by omega), if_pos hn])
    have HADN := hid (show AD.toNat = c.locks + 3 * s.free.toNat by omega)
    have HXM := hid (show ws[AD.toNat]? = some x from by have hx := HX.out; rw [hat] at hx; rw [HADN.out]; exact hx)
    have HA0 := hid (show 0 ≤ AD by omega)
    rw [← hAD] at wf2
    have wf2 : IntKind.i64.wrap ((c.locks : Int) + 3 * s.free) = AD := by rw [← hAD]; exact wf2
    clear hat hp hAD hn f0
    go_wp2
    go_quiet (fail)
    obtain ⟨U, hU⟩ : ∃ U, U = V.drewN nq := ⟨_, rfl⟩
    rw [← hU]
    have HKU := hid (show Keep Nil V U from hU ▸ (Keep.refl Nil V).drewN _)
    have HU := hid (HPRE.out.quiet HKU.out)
    have u1 := HKU.out.cell u1 (fun h => h)
    have u3 := HKU.out.cell u3 (fun h => h)
    have u4 := HKU.out.cell u4 (fun h => h)
    have v2 := HKU.out.cell v2 (fun h => h)
    have uz := lt_of_block HU.out.at_
    have vz := lt_of_block HU.out.box
    clear hU u6 u7 v3
    go_wp2_with fail
    refine (rstore_ok HU.out.rp.mem s.th AD x 1 HG.out.t0.1 HG.out.t0.2 HA0.out HXM.out (by have := HL.out; omega)).mono ?_
    rintro e w10 ⟨rfl, hto⟩
    rw [HADN.out] at hto
    obtain ⟨B1, F1, hkl⟩ := KL.of HU.out.rp HU.out.nB (lt_of_block HU.out.at_) hto
    have HKL := hid (And.intro hkl (show RKAt w10 o rb s from hkl.keep.at HU.out.at_ HU.out.nB))
    clear hto hkl
    have t5 : w10.cell? ⟨o, 5, none⟩ = some (.int .u8 s.next) := by rw [cell_of HKL.out.2]; rfl
    have g5 : w10.frozen? ⟨o, 5, none⟩ = false := free_of HKL.out.2 5
    have tz : o < w10.heap.size := lt_of_block HKL.out.2
    go_wp2
    go_quiet (fail)
    go_wp2
    go_ret2
    refine R31To.pre (HKV.out.trans HKU.out (fun _ _ h => h)) ?_
    rw [HWSE.out, HACE.out, HPE.out]
    exact HKL.out.1.done (((Keep.refl Nil _).drewN nq).at (set_same HKL.out.2 (i := 5) (.int .u8 3)) (fun h => h)) (kone.drewN nq)
  · have dn2 : (s.next == 2) = false := beq_eq_false_iff_ne.2 (by omega)
    have dn37 : (s.next == 37) = false := beq_eq_false_iff_ne.2 (by omega)
    have dn38 : (s.next == 38) = false := beq_eq_false_iff_ne.2 (by omega)
    have dn39 : (s.next == 39) = false := beq_eq_false_iff_ne.2 (by omega)
    have dn40 : (s.next == 40) = false := beq_eq_false_iff_ne.2 (by omega)
    have dn41 : (s.next == 41) = false := beq_eq_false_iff_ne.2 (by omega)
    have dn42 : (s.next == 42) = false := beq_eq_false_iff_ne.2 (by omega)
    have dn3 : (s.next == 3) = true := beq_iff_eq.2 hn
    have hat : s.at c.master c.locks = c.master := by unfold KS.at; rw [if_neg (by omega), if_neg (by omega), if_neg (by omega), if_neg (by omega), if_neg (by omega), if_neg (by omega), if_neg (by omega)]
    have hp : s.put x = some 0 := by unfold KS.put; rw [if_neg (by omega), if_neg (by omega), if_neg (by omega), if_neg (by omega), if_pos hn]
    have HWSE := hid (show WS = ws.set c.master 0 from by rw [HWS.out]; unfold KS.ws; rw [hp, hat])
    have HACE := hid (show AC = ⟨s.th, (c.master : Int), 2, x, 0, false⟩ from by rw [HAC.out]; unfold KS.acc; rw [if_neg (by omega), hp, hat])
    have HXM := hid (show ws[((c.master : Int)).toNat]? = some x from by have hx := HX.out; rw [hat] at hx; rw [Int.toNat_natCast]; exact hx)
    cases hcf : s.conf with
    | true =>
      have HCF := hid hcf
      have HPE := hid (show P = s.again from by rw [HP.out]; unfold KS.act; rw [if_neg (by omega), if_neg (by omega), if_neg (by omega), if_neg (by omega), if_neg (by omega), if_neg (by omega), if_neg (by omega), if_pos hcf])
      clear hat hp hn hcf
      go_wp2
      go_quiet (fail)
      obtain ⟨U, hU⟩ : ∃ U, U = V.drewN nq := ⟨_, rfl⟩
      rw [← hU]
      have HKU := hid (show Keep Nil V U from hU ▸ (Keep.refl Nil V).drewN _)
      have HU := hid (HPRE.out.quiet HKU.out)
      have u1 := HKU.out.cell u1 (fun h => h)
      have u3 := HKU.out.cell u3 (fun h => h)
      have u4 := HKU.out.cell u4 (fun h => h)
      have v2 := HKU.out.cell v2 (fun h => h)
      have uz := lt_of_block HU.out.at_
      have vz := lt_of_block HU.out.box
      clear hU u6 u7 v3
      have KD := hid ((Keep.refl Nil U).drew)
      have HD := hid (HU.out.quiet KD.out)
      go_upto_region 38 with fail
      go_region_held3 (fun w' => w'.cell? ⟨o, 1, none⟩ = some (.int .i64 s.th) ∧ w'.cell? ⟨pb, 2, none⟩ = some (.int .i64 (c.master : Int))) (first | (exact s9; done) | go_keep)
        (first
          | (go_at_call 98; (with_reducible refine (rstore_ok HD.out.rp.mem s.th (c.master : Int) x 0 HG.out.t0.1 HG.out.t0.2 (Int.natCast_nonneg _) HXM.out (by have := HL.out; omega)).mono ?_); rintro e w10 ⟨rfl, hto⟩; have hq := KL.of HD.out.rp HD.out.nB (lt_of_block HD.out.at_) hto; have R10 := hq.choose_spec.choose_spec.keep.at HD.out.at_ HD.out.nB; have P10 := hq.choose_spec.choose_spec.keep.at HD.out.box HD.out.nP; have s9 : w10.cell? ⟨o, 1, none⟩ = some (.int .i64 s.th) ∧ w10.cell? ⟨pb, 2, none⟩ = some (.int .i64 (c.master : Int)) := ⟨(by rw [cell_of R10]; rfl), (by rw [cell_of P10]; rfl)⟩; have HQ := hid (And.intro hq R10); clear hto hq R10 P10))
      rw [Int.toNat_natCast] at HQ
      obtain ⟨⟨B1, F1, hkl⟩, r10⟩ := HQ.out
      have HKL := hid (And.intro hkl (show RKAt w10 o rb s from r10))
      clear hkl r10
      have t5 : w10.cell? ⟨o, 5, none⟩ = some (.int .u8 s.next) := by rw [cell_of HKL.out.2]; rfl
      have t9 : w10.cell? ⟨o, 9, none⟩ = some (.bool s.conf) := by rw [cell_of HKL.out.2]; rfl
      have g5 : w10.frozen? ⟨o, 5, none⟩ = false := free_of HKL.out.2 5
      have g9 : w10.frozen? ⟨o, 9, none⟩ = false := free_of HKL.out.2 9
      have tz : o < w10.heap.size := lt_of_block HKL.out.2
      rw [HCF.out] at t9
      go_wp2_with fail
      refine (r31tried (s := { s with next := 0 }) (show RKAt _ o rb { s with next := 0 } from set_same HKL.out.2 (i := 5) (.int .u8 0))).mono ?_
      rintro e w11 ⟨rfl, hr, hk⟩
      rw [show KS.nx (KS.again { s with next := 0 }) = KS.nx s.again from by unfold KS.again KS.nx; split <;> rfl, ← HPE.out] at hr
      have HR := hid hr
      have HK11 := hid (kone.trans hk (fun _ _ h => h))
      clear hr hk
      have c5 : w11.cell? ⟨o, 5, none⟩ = some (.int .u8 (KS.nx P).next) := by rw [cell_of HR.out]; rfl
      have z11 := lt_of_block HR.out
      go_wp2
      go_quiet (fail)
      go_wp2
      go_ret2
      refine R31To.pre (HKV.out.trans (HKU.out.trans KD.out (fun _ _ h => h)) (fun _ _ h => h)) ?_
      rw [HWSE.out, HACE.out]
      exact HKL.out.1.done (((Keep.refl Nil _).drewN nq).at HR.out (fun h => h)) (HK11.out.drewN nq)
    | false =>
      have HCF := hid hcf
      have HPE := hid (show P = (s, 0) from by rw [HP.out]; unfold KS.act; rw [if_neg (by omega), if_neg (by omega), if_neg (by omega), if_neg (by omega), if_neg (by omega), if_neg (by omega), if_neg (by omega), if_neg (by rw [hcf]; decide)])
      clear hat hp hn hcf
      go_wp2
      go_quiet (fail)
      obtain ⟨U, hU⟩ : ∃ U, U = V.drewN nq := ⟨_, rfl⟩
      rw [← hU]
      have HKU := hid (show Keep Nil V U from hU ▸ (Keep.refl Nil V).drewN _)
      have HU := hid (HPRE.out.quiet HKU.out)
      have u1 := HKU.out.cell u1 (fun h => h)
      have u3 := HKU.out.cell u3 (fun h => h)
      have u4 := HKU.out.cell u4 (fun h => h)
      have v2 := HKU.out.cell v2 (fun h => h)
      have uz := lt_of_block HU.out.at_
      have vz := lt_of_block HU.out.box
      clear hU u6 u7 v3
      have KD := hid ((Keep.refl Nil U).drew)
      have HD := hid (HU.out.quiet KD.out)
      go_upto_region 38 with fail
      go_region_held3 (fun w' => w'.cell? ⟨o, 1, none⟩ = some (.int .i64 s.th) ∧ w'.cell? ⟨pb, 2, none⟩ = some (.int .i64 (c.master : Int))) (first | (exact s9; done) | go_keep)
        (first
          | (go_at_call 98; (with_reducible refine (rstore_ok HD.out.rp.mem s.th (c.master : Int) x 0 HG.out.t0.1 HG.out.t0.2 (Int.natCast_nonneg _) HXM.out (by have := HL.out; omega)).mono ?_); rintro e w10 ⟨rfl, hto⟩; have hq := KL.of HD.out.rp HD.out.nB (lt_of_block HD.out.at_) hto; have R10 := hq.choose_spec.choose_spec.keep.at HD.out.at_ HD.out.nB; have P10 := hq.choose_spec.choose_spec.keep.at HD.out.box HD.out.nP; have s9 : w10.cell? ⟨o, 1, none⟩ = some (.int .i64 s.th) ∧ w10.cell? ⟨pb, 2, none⟩ = some (.int .i64 (c.master : Int)) := ⟨(by rw [cell_of R10]; rfl), (by rw [cell_of P10]; rfl)⟩; have HQ := hid (And.intro hq R10); clear hto hq R10 P10))
      rw [Int.toNat_natCast] at HQ
      obtain ⟨⟨B1, F1, hkl⟩, r10⟩ := HQ.out
      have HKL := hid (And.intro hkl (show RKAt w10 o rb s from r10))
      clear hkl r10
      have t5 : w10.cell? ⟨o, 5, none⟩ = some (.int .u8 s.next) := by rw [cell_of HKL.out.2]; rfl
      have t9 : w10.cell? ⟨o, 9, none⟩ = some (.bool s.conf) := by rw [cell_of HKL.out.2]; rfl
      have g5 : w10.frozen? ⟨o, 5, none⟩ = false := free_of HKL.out.2 5
      have g9 : w10.frozen? ⟨o, 9, none⟩ = false := free_of HKL.out.2 9
      have tz : o < w10.heap.size := lt_of_block HKL.out.2
      rw [HCF.out] at t9
      go_wp2
      go_quiet (fail)
      go_wp2
      go_ret2
      refine R31To.pre (HKV.out.trans (HKU.out.trans KD.out (fun _ _ h => h)) (fun _ _ h => h)) ?_
      rw [HWSE.out, HACE.out, HPE.out]
      exact HKL.out.1.done (((Keep.refl Nil _).drewN nq).at (set_same HKL.out.2 (i := 5) (.int .u8 0)) (fun h => h)) (kone.drewN nq)
end
end Go.Proofs.YtmafdjhjmnghcaaGreat
