/- event.Check: the walk. -/
import Derived.Test.YtldjlcdccnnogaaGreatEvW
set_option linter.unusedVariables false
set_option linter.unusedSimpArgs false
namespace Go.Proofs.YtldjlcdccnnogaaGreat
open Go.RowKit Go.Lf
theorem zero104 : ThA Tryz.zeroCells104 [] := by
  have e : Tryz.zeroCells104 = (List.replicate 64 [Value.int .u8 0, .int .u64 0]).flatten.toArray := by kernel_rfl
  rw [e]
  exact ThA.init
theorem ok_1 {s t v : Int} {e : EvS} (h : EvR.ok ⟨s, t, 1, v⟩ e) : e = .out ∧ v < 64 := by
  rcases h with ⟨-, a, b⟩ | ⟨h, -⟩ | ⟨h, -⟩ | ⟨h, -⟩
  · exact ⟨a, b⟩
  all_goals simp at h
theorem ok_2 {s t v : Int} {e : EvS} (h : EvR.ok ⟨s, t, 2, v⟩ e) : ∃ f, e = .inn v f := by
  rcases h with ⟨h, -⟩ | ⟨-, h⟩ | ⟨h, -⟩ | ⟨h, -⟩
  · simp at h
  · exact h
  all_goals simp at h
theorem ok_3 {s t v : Int} {e : EvS} (h : EvR.ok ⟨s, t, 3, v⟩ e) : e = .out ∧ v ≠ 0 := by
  rcases h with ⟨h, -⟩ | ⟨h, -⟩ | ⟨-, a, b⟩ | ⟨h, -⟩
  · simp at h
  · simp at h
  · exact ⟨a, b⟩
  · simp at h
theorem ok_4 {s t v : Int} {e : EvS} (h : EvR.ok ⟨s, t, 4, v⟩ e) : ∃ f, e = .wt v f := by
  rcases h with ⟨h, -⟩ | ⟨h, -⟩ | ⟨h, -⟩ | ⟨-, h⟩
  · simp at h
  · simp at h
  · simp at h
  · exact h
structure EChk (w wz : World) (tb r : Nat) (l : List EvR) : Prop where
  ar : ∃ arr, wz.heap[tb]? = some (.cells arr 104 (0, 0)) ∧ ThA arr l
  ru : ERules wz r
  kp : Keep Nil w wz
  lw : w.heap.size ≤ tb
  lr : tb < r
section
variable {w w' : World}
set_option maxRecDepth 100000 in
set_option maxHeartbeats 8000000 in
theorem echeck_ok (l : List EvR) (h : EvGood l) (v : Value) (rd : Rd w 4 v l.length (evCells l)) (hm : l.length ≤ 100000) : Calls Tryz.prog 18 #[v] w fun e w' => e = .returned (.tuple #[.int .i64 0, .int .i64 0]) ∧ Keep Nil w w' := by
  obtain ⟨a, cp, rfl, -, -⟩ := id rd
  have HRD := hid rd
  have HG := hid h
  have HKP := hid (Keep.refl Nil w)
  clear rd h
  go_enter Tryz.func18, Tryz.ntmps18
  go_upto_region 2 with fail
  have HB := hid (heap_alloc_new w (.cells Tryz.zeroCells104 104 (0, 0)))
  have HK := hid ((Keep.refl Nil w).alloc (.cells Tryz.zeroCells104 104 (0, 0)))
  generalize hW : w.alloc (.cells Tryz.zeroCells104 104 (0, 0)) = W0 at *
  go_wp2_with fail
  refine (erules_ok W0).mono ?_
  rintro e w1 ⟨r, rfl, hr, hk, hz⟩
  obtain ⟨tb, htb⟩ : ∃ tb, tb = w.heap.size := ⟨_, rfl⟩
  rw [← htb] at HB ⊢
  have HE := hid (show EChk w w1 tb r (l.take 0) from ⟨⟨_, hk.at HB.out (fun h => h), zero104⟩, hr, HK.out.trans hk (fun _ _ h => h), by omega, by have := lt_of_block HB.out; omega⟩)
  clear hr hk hz htb hW HB HK
  go_wp2
  go_loopw [14] (fun iv wz => ∃ k : Nat, k ≤ l.length ∧ iv = .int .i64 (k : Int) ∧ Hid (EChk w wz tb r (l.take k))) (fun iv _ => l.length - (intOf iv).toNat)
  case atStart => exact ⟨0, Nat.zero_le _, rfl, HE⟩
  case round =>
    obtain ⟨k, hk, rfl, HC⟩ := hrel
    clear HE
    by_cases hlt : k < l.length
    · have i1 : ((k : Int) < (l.length : Int)) = True := eq_true (by omega)
      have d1 : decide ((k : Int) < (l.length : Int)) = true := decide_eq_true (by omega)
      have wi : IntKind.i64.wrap ((k : Int) + 1) = (k : Int) + 1 := by rw [IntKind.wrap_i64]; omega
      obtain ⟨x, hx⟩ : ∃ x, l[k]? = some x := ⟨_, List.getElem?_eq_getElem hlt⟩
      obtain ⟨hwf, haf, hrl, -⟩ := HG.out.at hx
      obtain ⟨ab, ao, ac, hve, hcl⟩ := Rd.cell HRD.out (by omega)
      simp only [Value.slice.injEq] at hve
      obtain ⟨rfl, -, rfl⟩ := hve
      have HCL := hid hcl
      have q : ∀ j u, x.cells[j]? = some u → wr.cell? ⟨ab, ao + k * 4 + j, none⟩ = some u := fun j u hu => by rw [Nat.add_assoc]; exact HC.out.kp.cell (hcl _ _ (evCells_at hx hu)) (fun h => h)
      obtain ⟨s, t, kd, v⟩ := x
      have HTK := hid (take_snoc_ev hx)
      have q0 : wr.cell? ⟨ab, ao + k * 4, none⟩ = some (.int .i64 s) := q 0 _ rfl
      have q1 : wr.cell? ⟨ab, ao + k * 4 + 1, none⟩ = some (.int .i64 t) := q 1 _ rfl
      have q2 : wr.cell? ⟨ab, ao + k * 4 + 2, none⟩ = some (.int .u8 kd) := q 2 _ rfl
      have q3 : wr.cell? ⟨ab, ao + k * 4 + 3, none⟩ = some (.int .u64 v) := q 3 _ rfl
      have i0 : (0 : Int) ≤ (k : Int) := by omega
      obtain ⟨s0, s1, t0, t1, v0, v1⟩ := hwf
      simp only at s0 s1 t0 t1 v0 v1
      obtain ⟨tn, rfl⟩ : ∃ tn : Nat, t = tn := ⟨t.toNat, by omega⟩
      have d2 : decide (s < 0) = false := decide_eq_false (by omega)
      have d3 : decide ((tn : Int) < 0) = false := decide_eq_false (by omega)
      have d4 : decide ((tn : Int) ≥ 64) = false := decide_eq_false (by omega)
      have d5 : decide ((64 : Int) ≤ (tn : Int)) = false := decide_eq_false (by omega)
      have HAF := hid haf
      have HRL := hid hrl
      have HX := hid hx
      clear q hcl haf hrl hx
      go_upto_region 6 with fail
      obtain ⟨W, hW⟩ : ∃ W, W = wr.alloc (.cells #[.int .i64 s, .int .i64 tn, .int .u8 kd, .int .u64 v] 43) := ⟨_, rfl⟩
      rw [← hW]
      have hkW : Keep Nil wr W := hW ▸ (Keep.refl Nil wr).alloc _
      have hxb : W.heap[wr.heap.size]? = some (.cells #[.int .i64 s, .int .i64 tn, .int .u8 kd, .int .u64 v] 43 (0, 0)) := hW ▸ heap_alloc_new wr _
      have hxz : W.heap.size = wr.heap.size + 1 := by rw [hW, World.size_alloc]
      obtain ⟨xb, hxbe⟩ : ∃ xb, xb = wr.heap.size := ⟨_, rfl⟩
      rw [← hxbe] at hxb hxz ⊢
      obtain ⟨⟨arr, har, hth⟩, hru, hkp, htb, hrb⟩ := HC.out
      have htx : tb ≠ xb := by have := lt_of_block har; omega
      have HKW := hid (hkp.trans hkW (fun _ _ h => h))
      have HAR := hid (hkW.at har (fun h => h))
      obtain ⟨c1, c2, c3, c4, hm4⟩ := hru
      have HER := hid (show ERules W r from ⟨c1, c2, c3, c4, hm4.keep hkW (fun h => h)⟩)
      have HTH := hid hth
      have HTB := hid (And.intro htb hrb)
      have HXB := hid hxb
      have x0 : W.cell? ⟨xb, 0, none⟩ = some (.int .i64 s) := by rw [cell_of hxb]; rfl
      have x1 : W.cell? ⟨xb, 1, none⟩ = some (.int .i64 tn) := by rw [cell_of hxb]; rfl
      have x2 : W.cell? ⟨xb, 2, none⟩ = some (.int .u8 kd) := by rw [cell_of hxb]; rfl
      have x3 : W.cell? ⟨xb, 3, none⟩ = some (.int .u64 v) := by rw [cell_of hxb]; rfl
      obtain ⟨e1, u, e2, e3⟩ := hth.at_ tn (by omega)
      have HE1 := hid e1
      have HE2 := hid e2
      have HE3 := hid e3
      have zx : xb < W.heap.size := by omega
      have zt : tb < W.heap.size := lt_of_block (hkW.at har (fun h => h))
      clear hW hkW hxb hxz hxbe har hth hkp htb hrb hm4 e1 e2 e3 q0 q1 q2 q3 HC
      have hcases : k = 0 ∨ (0 < k ∧ ∃ y, l[k - 1]? = some y ∧ y.step < s) ∨ (0 < k ∧ kd = 4 ∧ ∃ y : EvR, l[k - 1]? = some y ∧ y.step = s ∧ y.kind = 3 ∧ y.th = tn) := by
        by_cases hk0 : k = 0
        · exact .inl hk0
        · obtain ⟨y, hy⟩ : ∃ y, l[k - 1]? = some y := ⟨_, List.getElem?_eq_getElem (by omega)⟩
          rcases HAF.out y (by omega) hy with h | ⟨h1, h2, h3, h4⟩
          · exact .inr (.inl ⟨by omega, y, hy, h⟩)
          · exact .inr (.inr ⟨by omega, h3, y, hy, h1.symm, h2, h4.symm⟩)
      have hkd : kd = 1 ∨ kd = 2 ∨ kd = 3 ∨ kd = 4 := EvR.ok_kind HRL.out
      rcases hcases with hk0 | ⟨hk0, y, hy, hys⟩ | ⟨hk0, rfl, y, hy, hys, hy3, hyt⟩
      · as_aux_lemma =>
          have p0 : decide ((k : Int) > 0) = false := decide_eq_false (by omega)
          have p1 : decide ((0 : Int) < (k : Int)) = false := decide_eq_false (by omega)
          rcases hkd with rfl | rfl | rfl | rfl
          · as_aux_lemma =>
              obtain ⟨hE, hv⟩ := ok_1 HRL.out
              have HCALL := hid (fun (W' : World) (hb : W'.heap[tb]? = some (.cells arr 104 (0, 0))) => evr_enter (o := tn * 2) hb (by rw [HE1.out, hE]; rfl) s tn 1 v u HE2.out hv)
              have hlk : (Instr.lookup 105 (.map (some r)) (.int .u8 1) true).run Tryz.prog W = .ok (.tuple #[.func (.func 64) #[] #[], .bool true]) W := by
                obtain ⟨c1, c2, c3, c4, hm⟩ := HER.out
                exact run_fget2 Tryz.underlying105 Tryz.underlying5 hm 1 (i := 0) rfl
              have HTH2 := hid (HTH.out.begin (x := ⟨s, tn, 1, v⟩) (t := tn) rfl (by omega) (by simp))
              clear hE
              go_upto_region 9 with fail
              go_quiet (fail)
              obtain ⟨V, hV⟩ : ∃ V, V = W.drewN nq := ⟨_, rfl⟩
              rw [← hV]
              have hkV : Keep Nil W V := hV ▸ (Keep.refl Nil W).drewN nq
              clear hV
              go_upto_region 13 with fail
              have HKV := hid hkV
              have HAV := hid (hkV.at HAR.out (fun h => h))
              have v0 := hkV.cell x0 (fun h => h)
              have v1 := hkV.cell x1 (fun h => h)
              have v2 := hkV.cell x2 (fun h => h)
              have v3 := hkV.cell x3 (fun h => h)
              have zxv : xb < V.heap.size := by have := hkV.size; omega
              have ztv : tb < V.heap.size := by have := hkV.size; omega
              clear hkV x0 x1 x2 x3 zx zt hlk
              go_region_held3 (fun w' => w'.cell? ⟨xb, 0, none⟩ = some (.int .i64 s) ∧ w'.cell? ⟨xb, 1, none⟩ = some (.int .i64 tn) ∧ w'.cell? ⟨xb, 2, none⟩ = some (.int .u8 1) ∧ w'.cell? ⟨xb, 3, none⟩ = some (.int .u64 v)) (first | (exact s9; done) | go_keep)
                (first | (go_at_call 64; refine (HCALL.out _ (show V.drew.heap[tb]? = _ from HAV.out)).mono ?_; rintro e w5 ⟨rfl, hb5, k5⟩; have s9 := And.intro (k5.cell v0 (fun e => htx e.symm)) (And.intro (k5.cell v1 (fun e => htx e.symm)) (And.intro (k5.cell v2 (fun e => htx e.symm)) (k5.cell v3 (fun e => htx e.symm)))); have zx5 : xb < w5.heap.size := (by have := k5.size; have h0 : V.drew.heap.size = V.heap.size := rfl; omega); have HB5 := hid hb5; have HK5 := hid k5; clear hb5 k5))
              all_goals
                have hk5 : Keep (fun k => k = tb) W w5 := (HKV.out.mono (T := fun k => k = tb) (fun _ _ h => h.elim)).trans (((Keep.refl _ V).drew).trans HK5.out (fun _ _ h => h)) (fun _ _ h => h)
                have HF := hid (show EChk w w5 tb r (l.take (k + 1)) from by
                  rw [HTK.out]
                  refine ⟨⟨_, HB5.out, HTH2.out⟩, ?_, HKW.out.trans hk5 (fun q hq e => by have := HTB.out; omega), HTB.out.1, HTB.out.2⟩
                  obtain ⟨c1, c2, c3, c4, hm⟩ := HER.out
                  exact ⟨c1, c2, c3, c4, hm.keep hk5 (fun e => by have := HTB.out; omega)⟩)
                clear hk5 s9
                go_wp2
                go_roundw
                case rel => exact ⟨k + 1, by omega, by go_num, HF⟩
                case measure => simp [intOf]; omega
          · as_aux_lemma =>
              obtain ⟨f0, hE⟩ := ok_2 HRL.out
              have hu : u = v := by have := HE3.out; rw [hE] at this; exact this
              subst hu
              have HCALL := hid (fun (W' : World) (hb : W'.heap[tb]? = some (.cells arr 104 (0, 0))) => evr_exit (o := tn * 2) hb (by rw [HE1.out, hE]; rfl) s tn 2 u HE2.out)
              have hlk : (Instr.lookup 105 (.map (some r)) (.int .u8 2) true).run Tryz.prog W = .ok (.tuple #[.func (.func 65) #[] #[], .bool true]) W := by
                obtain ⟨c1, c2, c3, c4, hm⟩ := HER.out
                exact run_fget2 Tryz.underlying105 Tryz.underlying5 hm 2 (i := 1) rfl
              have HTH2 := hid (HTH.out.end (x := ⟨s, tn, 2, u⟩) (t := tn) rfl (by omega) (by simp))
              clear hE
              go_upto_region 9 with fail
              go_quiet (fail)
              obtain ⟨V, hV⟩ : ∃ V, V = W.drewN nq := ⟨_, rfl⟩
              rw [← hV]
              have hkV : Keep Nil W V := hV ▸ (Keep.refl Nil W).drewN nq
              clear hV
              go_upto_region 13 with fail
              have HKV := hid hkV
              have HAV := hid (hkV.at HAR.out (fun h => h))
              have v0 := hkV.cell x0 (fun h => h)
              have v1 := hkV.cell x1 (fun h => h)
              have v2 := hkV.cell x2 (fun h => h)
              have v3 := hkV.cell x3 (fun h => h)
              have zxv : xb < V.heap.size := by have := hkV.size; omega
              have ztv : tb < V.heap.size := by have := hkV.size; omega
              clear hkV x0 x1 x2 x3 zx zt hlk
              go_region_held3 (fun w' => w'.cell? ⟨xb, 0, none⟩ = some (.int .i64 s) ∧ w'.cell? ⟨xb, 1, none⟩ = some (.int .i64 tn) ∧ w'.cell? ⟨xb, 2, none⟩ = some (.int .u8 2) ∧ w'.cell? ⟨xb, 3, none⟩ = some (.int .u64 u)) (first | (exact s9; done) | go_keep)
                (first | (go_at_call 65; refine (HCALL.out _ (show V.drew.heap[tb]? = _ from HAV.out)).mono ?_; rintro e w5 ⟨rfl, hb5, k5⟩; have s9 := And.intro (k5.cell v0 (fun e => htx e.symm)) (And.intro (k5.cell v1 (fun e => htx e.symm)) (And.intro (k5.cell v2 (fun e => htx e.symm)) (k5.cell v3 (fun e => htx e.symm)))); have zx5 : xb < w5.heap.size := (by have := k5.size; have h0 : V.drew.heap.size = V.heap.size := rfl; omega); have HB5 := hid hb5; have HK5 := hid k5; clear hb5 k5))
              all_goals
                have hk5 : Keep (fun k => k = tb) W w5 := (HKV.out.mono (T := fun k => k = tb) (fun _ _ h => h.elim)).trans (((Keep.refl _ V).drew).trans HK5.out (fun _ _ h => h)) (fun _ _ h => h)
                have HF := hid (show EChk w w5 tb r (l.take (k + 1)) from by
                  rw [HTK.out]
                  refine ⟨⟨_, HB5.out, HTH2.out⟩, ?_, HKW.out.trans hk5 (fun q hq e => by have := HTB.out; omega), HTB.out.1, HTB.out.2⟩
                  obtain ⟨c1, c2, c3, c4, hm⟩ := HER.out
                  exact ⟨c1, c2, c3, c4, hm.keep hk5 (fun e => by have := HTB.out; omega)⟩)
                clear hk5 s9
                go_wp2
                go_roundw
                case rel => exact ⟨k + 1, by omega, by go_num, HF⟩
                case measure => simp [intOf]; omega
          · as_aux_lemma =>
              obtain ⟨hE, hv⟩ := ok_3 HRL.out
              have HCALL := hid (fun (W' : World) (hb : W'.heap[tb]? = some (.cells arr 104 (0, 0))) => evr_wait (o := tn * 2) hb (by rw [HE1.out, hE]; rfl) s tn 3 v u HE2.out hv)
              have hlk : (Instr.lookup 105 (.map (some r)) (.int .u8 3) true).run Tryz.prog W = .ok (.tuple #[.func (.func 66) #[] #[], .bool true]) W := by
                obtain ⟨c1, c2, c3, c4, hm⟩ := HER.out
                exact run_fget2 Tryz.underlying105 Tryz.underlying5 hm 3 (i := 2) rfl
              have HTH2 := hid (HTH.out.begin (x := ⟨s, tn, 3, v⟩) (t := tn) rfl (by omega) (by simp))
              clear hE
              go_upto_region 9 with fail
              go_quiet (fail)
              obtain ⟨V, hV⟩ : ∃ V, V = W.drewN nq := ⟨_, rfl⟩
              rw [← hV]
              have hkV : Keep Nil W V := hV ▸ (Keep.refl Nil W).drewN nq
              clear hV
              go_upto_region 13 with fail
              have HKV := hid hkV
              have HAV := hid (hkV.at HAR.out (fun h => h))
              have v0 := hkV.cell x0 (fun h => h)
              have v1 := hkV.cell x1 (fun h => h)
              have v2 := hkV.cell x2 (fun h => h)
              have v3 := hkV.cell x3 (fun h => h)
              have zxv : xb < V.heap.size := by have := hkV.size; omega
              have ztv : tb < V.heap.size := by have := hkV.size; omega
              clear hkV x0 x1 x2 x3 zx zt hlk
              go_region_held3 (fun w' => w'.cell? ⟨xb, 0, none⟩ = some (.int .i64 s) ∧ w'.cell? ⟨xb, 1, none⟩ = some (.int .i64 tn) ∧ w'.cell? ⟨xb, 2, none⟩ = some (.int .u8 3) ∧ w'.cell? ⟨xb, 3, none⟩ = some (.int .u64 v)) (first | (exact s9; done) | go_keep)
                (first | (go_at_call 66; refine (HCALL.out _ (show V.drew.heap[tb]? = _ from HAV.out)).mono ?_; rintro e w5 ⟨rfl, hb5, k5⟩; have s9 := And.intro (k5.cell v0 (fun e => htx e.symm)) (And.intro (k5.cell v1 (fun e => htx e.symm)) (And.intro (k5.cell v2 (fun e => htx e.symm)) (k5.cell v3 (fun e => htx e.symm)))); have zx5 : xb < w5.heap.size := (by have := k5.size; have h0 : V.drew.heap.size = V.heap.size := rfl; omega); have HB5 := hid hb5; have HK5 := hid k5; clear hb5 k5))
              all_goals
                have hk5 : Keep (fun k => k = tb) W w5 := (HKV.out.mono (T := fun k => k = tb) (fun _ _ h => h.elim)).trans (((Keep.refl _ V).drew).trans HK5.out (fun _ _ h => h)) (fun _ _ h => h)
                have HF := hid (show EChk w w5 tb r (l.take (k + 1)) from by
                  rw [HTK.out]
                  refine ⟨⟨_, HB5.out, HTH2.out⟩, ?_, HKW.out.trans hk5 (fun q hq e => by have := HTB.out; omega), HTB.out.1, HTB.out.2⟩
                  obtain ⟨c1, c2, c3, c4, hm⟩ := HER.out
                  exact ⟨c1, c2, c3, c4, hm.keep hk5 (fun e => by have := HTB.out; omega)⟩)
                clear hk5 s9
                go_wp2
                go_roundw
                case rel => exact ⟨k + 1, by omega, by go_num, HF⟩
                case measure => simp [intOf]; omega
          · as_aux_lemma =>
              obtain ⟨f0, hE⟩ := ok_4 HRL.out
              have hu : u = v := by have := HE3.out; rw [hE] at this; exact this
              subst hu
              have HCALL := hid (fun (W' : World) (hb : W'.heap[tb]? = some (.cells arr 104 (0, 0))) => evr_done (o := tn * 2) hb (by rw [HE1.out, hE]; rfl) s tn 4 u HE2.out)
              have hlk : (Instr.lookup 105 (.map (some r)) (.int .u8 4) true).run Tryz.prog W = .ok (.tuple #[.func (.func 67) #[] #[], .bool true]) W := by
                obtain ⟨c1, c2, c3, c4, hm⟩ := HER.out
                exact run_fget2 Tryz.underlying105 Tryz.underlying5 hm 4 (i := 3) rfl
              have HTH2 := hid (HTH.out.end (x := ⟨s, tn, 4, u⟩) (t := tn) rfl (by omega) (by simp))
              clear hE
              go_upto_region 9 with fail
              go_quiet (fail)
              obtain ⟨V, hV⟩ : ∃ V, V = W.drewN nq := ⟨_, rfl⟩
              rw [← hV]
              have hkV : Keep Nil W V := hV ▸ (Keep.refl Nil W).drewN nq
              clear hV
              go_upto_region 13 with fail
              have HKV := hid hkV
              have HAV := hid (hkV.at HAR.out (fun h => h))
              have v0 := hkV.cell x0 (fun h => h)
              have v1 := hkV.cell x1 (fun h => h)
              have v2 := hkV.cell x2 (fun h => h)
              have v3 := hkV.cell x3 (fun h => h)
              have zxv : xb < V.heap.size := by have := hkV.size; omega
              have ztv : tb < V.heap.size := by have := hkV.size; omega
              clear hkV x0 x1 x2 x3 zx zt hlk
              go_region_held3 (fun w' => w'.cell? ⟨xb, 0, none⟩ = some (.int .i64 s) ∧ w'.cell? ⟨xb, 1, none⟩ = some (.int .i64 tn) ∧ w'.cell? ⟨xb, 2, none⟩ = some (.int .u8 4) ∧ w'.cell? ⟨xb, 3, none⟩ = some (.int .u64 u)) (first | (exact s9; done) | go_keep)
                (first | (go_at_call 67; refine (HCALL.out _ (show V.drew.heap[tb]? = _ from HAV.out)).mono ?_; rintro e w5 ⟨rfl, hb5, k5⟩; have s9 := And.intro (k5.cell v0 (fun e => htx e.symm)) (And.intro (k5.cell v1 (fun e => htx e.symm)) (And.intro (k5.cell v2 (fun e => htx e.symm)) (k5.cell v3 (fun e => htx e.symm)))); have zx5 : xb < w5.heap.size := (by have := k5.size; have h0 : V.drew.heap.size = V.heap.size := rfl; omega); have HB5 := hid hb5; have HK5 := hid k5; clear hb5 k5))
              all_goals
                have hk5 : Keep (fun k => k = tb) W w5 := (HKV.out.mono (T := fun k => k = tb) (fun _ _ h => h.elim)).trans (((Keep.refl _ V).drew).trans HK5.out (fun _ _ h => h)) (fun _ _ h => h)
                have HF := hid (show EChk w w5 tb r (l.take (k + 1)) from by
                  rw [HTK.out]
                  refine ⟨⟨_, HB5.out, HTH2.out⟩, ?_, HKW.out.trans hk5 (fun q hq e => by have := HTB.out; omega), HTB.out.1, HTB.out.2⟩
                  obtain ⟨c1, c2, c3, c4, hm⟩ := HER.out
                  exact ⟨c1, c2, c3, c4, hm.keep hk5 (fun e => by have := HTB.out; omega)⟩)
                clear hk5 s9
                go_wp2
                go_roundw
                case rel => exact ⟨k + 1, by omega, by go_num, HF⟩
                case measure => simp [intOf]; omega
      · as_aux_lemma =>
          have p0 : decide ((k : Int) > 0) = true := decide_eq_true (by omega)
          have p1 : decide ((0 : Int) < (k : Int)) = true := decide_eq_true (by omega)
          have wm : IntKind.i64.wrap ((k : Int) - 1) = ((k - 1 : Nat) : Int) := by rw [IntKind.wrap_i64]; omega
          have j0 : (0 : Int) ≤ ((k - 1 : Nat) : Int) := by omega
          have j1 : ((k - 1 : Nat) : Int) < (l.length : Int) := by omega
          have yq : ∀ j u, y.cells[j]? = some u → W.cell? ⟨ab, ao + (k - 1) * 4 + j, none⟩ = some u := fun j u hu => by rw [Nat.add_assoc]; exact HKW.out.cell (HCL.out _ _ (evCells_at hy hu)) (fun h => h)
          obtain ⟨ys, yt, yk, yv⟩ := y
          simp only at hys
          have yq0 : W.cell? ⟨ab, ao + (k - 1) * 4, none⟩ = some (.int .i64 ys) := yq 0 _ rfl
          have p2 : decide (s ≤ ys) = false := decide_eq_false (by omega)
          clear yq hy
          rcases hkd with rfl | rfl | rfl | rfl
          · as_aux_lemma =>
              obtain ⟨hE, hv⟩ := ok_1 HRL.out
              have HCALL := hid (fun (W' : World) (hb : W'.heap[tb]? = some (.cells arr 104 (0, 0))) => evr_enter (o := tn * 2) hb (by rw [HE1.out, hE]; rfl) s tn 1 v u HE2.out hv)
              have hlk : (Instr.lookup 105 (.map (some r)) (.int .u8 1) true).run Tryz.prog W = .ok (.tuple #[.func (.func 64) #[] #[], .bool true]) W := by
                obtain ⟨c1, c2, c3, c4, hm⟩ := HER.out
                exact run_fget2 Tryz.underlying105 Tryz.underlying5 hm 1 (i := 0) rfl
              have HTH2 := hid (HTH.out.begin (x := ⟨s, tn, 1, v⟩) (t := tn) rfl (by omega) (by simp))
              clear hE
              go_upto_region 9 with fail
              go_quiet (fail)
              obtain ⟨V, hV⟩ : ∃ V, V = W.drewN nq := ⟨_, rfl⟩
              rw [← hV]
              have hkV : Keep Nil W V := hV ▸ (Keep.refl Nil W).drewN nq
              clear hV
              go_upto_region 13 with fail
              have HKV := hid hkV
              have HAV := hid (hkV.at HAR.out (fun h => h))
              have v0 := hkV.cell x0 (fun h => h)
              have v1 := hkV.cell x1 (fun h => h)
              have v2 := hkV.cell x2 (fun h => h)
              have v3 := hkV.cell x3 (fun h => h)
              have zxv : xb < V.heap.size := by have := hkV.size; omega
              have ztv : tb < V.heap.size := by have := hkV.size; omega
              clear hkV x0 x1 x2 x3 zx zt hlk
              go_region_held3 (fun w' => w'.cell? ⟨xb, 0, none⟩ = some (.int .i64 s) ∧ w'.cell? ⟨xb, 1, none⟩ = some (.int .i64 tn) ∧ w'.cell? ⟨xb, 2, none⟩ = some (.int .u8 1) ∧ w'.cell? ⟨xb, 3, none⟩ = some (.int .u64 v)) (first | (exact s9; done) | go_keep)
                (first | (go_at_call 64; refine (HCALL.out _ (show V.drew.heap[tb]? = _ from HAV.out)).mono ?_; rintro e w5 ⟨rfl, hb5, k5⟩; have s9 := And.intro (k5.cell v0 (fun e => htx e.symm)) (And.intro (k5.cell v1 (fun e => htx e.symm)) (And.intro (k5.cell v2 (fun e => htx e.symm)) (k5.cell v3 (fun e => htx e.symm)))); have zx5 : xb < w5.heap.size := (by have := k5.size; have h0 : V.drew.heap.size = V.heap.size := rfl; omega); have HB5 := hid hb5; have HK5 := hid k5; clear hb5 k5))
              all_goals
                have hk5 : Keep (fun k => k = tb) W w5 := (HKV.out.mono (T := fun k => k = tb) (fun _ _ h => h.elim)).trans (((Keep.refl _ V).drew).trans HK5.out (fun _ _ h => h)) (fun _ _ h => h)
                have HF := hid (show EChk w w5 tb r (l.take (k + 1)) from by
                  rw [HTK.out]
                  refine ⟨⟨_, HB5.out, HTH2.out⟩, ?_, HKW.out.trans hk5 (fun q hq e => by have := HTB.out; omega), HTB.out.1, HTB.out.2⟩
                  obtain ⟨c1, c2, c3, c4, hm⟩ := HER.out
                  exact ⟨c1, c2, c3, c4, hm.keep hk5 (fun e => by have := HTB.out; omega)⟩)
                clear hk5 s9
                go_wp2
                go_roundw
                case rel => exact ⟨k + 1, by omega, by go_num, HF⟩
                case measure => simp [intOf]; omega
          · as_aux_lemma =>
              obtain ⟨f0, hE⟩ := ok_2 HRL.out
              have hu : u = v := by have := HE3.out; rw [hE] at this; exact this
              subst hu
              have HCALL := hid (fun (W' : World) (hb : W'.heap[tb]? = some (.cells arr 104 (0, 0))) => evr_exit (o := tn * 2) hb (by rw [HE1.out, hE]; rfl) s tn 2 u HE2.out)
              have hlk : (Instr.lookup 105 (.map (some r)) (.int .u8 2) true).run Tryz.prog W = .ok (.tuple #[.func (.func 65) #[] #[], .bool true]) W := by
                obtain ⟨c1, c2, c3, c4, hm⟩ := HER.out
                exact run_fget2 Tryz.underlying105 Tryz.underlying5 hm 2 (i := 1) rfl
              have HTH2 := hid (HTH.out.end (x := ⟨s, tn, 2, u⟩) (t := tn) rfl (by omega) (by simp))
              clear hE
              go_upto_region 9 with fail
              go_quiet (fail)
              obtain ⟨V, hV⟩ : ∃ V, V = W.drewN nq := ⟨_, rfl⟩
              rw [← hV]
              have hkV : Keep Nil W V := hV ▸ (Keep.refl Nil W).drewN nq
              clear hV
              go_upto_region 13 with fail
              have HKV := hid hkV
              have HAV := hid (hkV.at HAR.out (fun h => h))
              have v0 := hkV.cell x0 (fun h => h)
              have v1 := hkV.cell x1 (fun h => h)
              have v2 := hkV.cell x2 (fun h => h)
              have v3 := hkV.cell x3 (fun h => h)
              have zxv : xb < V.heap.size := by have := hkV.size; omega
              have ztv : tb < V.heap.size := by have := hkV.size; omega
              clear hkV x0 x1 x2 x3 zx zt hlk
              go_region_held3 (fun w' => w'.cell? ⟨xb, 0, none⟩ = some (.int .i64 s) ∧ w'.cell? ⟨xb, 1, none⟩ = some (.int .i64 tn) ∧ w'.cell? ⟨xb, 2, none⟩ = some (.int .u8 2) ∧ w'.cell? ⟨xb, 3, none⟩ = some (.int .u64 u)) (first | (exact s9; done) | go_keep)
                (first | (go_at_call 65; refine (HCALL.out _ (show V.drew.heap[tb]? = _ from HAV.out)).mono ?_; rintro e w5 ⟨rfl, hb5, k5⟩; have s9 := And.intro (k5.cell v0 (fun e => htx e.symm)) (And.intro (k5.cell v1 (fun e => htx e.symm)) (And.intro (k5.cell v2 (fun e => htx e.symm)) (k5.cell v3 (fun e => htx e.symm)))); have zx5 : xb < w5.heap.size := (by have := k5.size; have h0 : V.drew.heap.size = V.heap.size := rfl; omega); have HB5 := hid hb5; have HK5 := hid k5; clear hb5 k5))
              all_goals
                have hk5 : Keep (fun k => k = tb) W w5 := (HKV.out.mono (T := fun k => k = tb) (fun _ _ h => h.elim)).trans (((Keep.refl _ V).drew).trans HK5.out (fun _ _ h => h)) (fun _ _ h => h)
                have HF := hid (show EChk w w5 tb r (l.take (k + 1)) from by
                  rw [HTK.out]
                  refine ⟨⟨_, HB5.out, HTH2.out⟩, ?_, HKW.out.trans hk5 (fun q hq e => by have := HTB.out; omega), HTB.out.1, HTB.out.2⟩
                  obtain ⟨c1, c2, c3, c4, hm⟩ := HER.out
                  exact ⟨c1, c2, c3, c4, hm.keep hk5 (fun e => by have := HTB.out; omega)⟩)
                clear hk5 s9
                go_wp2
                go_roundw
                case rel => exact ⟨k + 1, by omega, by go_num, HF⟩
                case measure => simp [intOf]; omega
          · as_aux_lemma =>
              obtain ⟨hE, hv⟩ := ok_3 HRL.out
              have HCALL := hid (fun (W' : World) (hb : W'.heap[tb]? = some (.cells arr 104 (0, 0))) => evr_wait (o := tn * 2) hb (by rw [HE1.out, hE]; rfl) s tn 3 v u HE2.out hv)
              have hlk : (Instr.lookup 105 (.map (some r)) (.int .u8 3) true).run Tryz.prog W = .ok (.tuple #[.func (.func 66) #[] #[], .bool true]) W := by
                obtain ⟨c1, c2, c3, c4, hm⟩ := HER.out
                exact run_fget2 Tryz.underlying105 Tryz.underlying5 hm 3 (i := 2) rfl
              have HTH2 := hid (HTH.out.begin (x := ⟨s, tn, 3, v⟩) (t := tn) rfl (by omega) (by simp))
              clear hE
              go_upto_region 9 with fail
              go_quiet (fail)
              obtain ⟨V, hV⟩ : ∃ V, V = W.drewN nq := ⟨_, rfl⟩
              rw [← hV]
              have hkV : Keep Nil W V := hV ▸ (Keep.refl Nil W).drewN nq
              clear hV
              go_upto_region 13 with fail
              have HKV := hid hkV
              have HAV := hid (hkV.at HAR.out (fun h => h))
              have v0 := hkV.cell x0 (fun h => h)
              have v1 := hkV.cell x1 (fun h => h)
              have v2 := hkV.cell x2 (fun h => h)
              have v3 := hkV.cell x3 (fun h => h)
              have zxv : xb < V.heap.size := by have := hkV.size; omega
              have ztv : tb < V.heap.size := by have := hkV.size; omega
              clear hkV x0 x1 x2 x3 zx zt hlk
              go_region_held3 (fun w' => w'.cell? ⟨xb, 0, none⟩ = some (.int .i64 s) ∧ w'.cell? ⟨xb, 1, none⟩ = some (.int .i64 tn) ∧ w'.cell? ⟨xb, 2, none⟩ = some (.int .u8 3) ∧ w'.cell? ⟨xb, 3, none⟩ = some (.int .u64 v)) (first | (exact s9; done) | go_keep)
                (first | (go_at_call 66; refine (HCALL.out _ (show V.drew.heap[tb]? = _ from HAV.out)).mono ?_; rintro e w5 ⟨rfl, hb5, k5⟩; have s9 := And.intro (k5.cell v0 (fun e => htx e.symm)) (And.intro (k5.cell v1 (fun e => htx e.symm)) (And.intro (k5.cell v2 (fun e => htx e.symm)) (k5.cell v3 (fun e => htx e.symm)))); have zx5 : xb < w5.heap.size := (by have := k5.size; have h0 : V.drew.heap.size = V.heap.size := rfl; omega); have HB5 := hid hb5; have HK5 := hid k5; clear hb5 k5))
              all_goals
                have hk5 : Keep (fun k => k = tb) W w5 := (HKV.out.mono (T := fun k => k = tb) (fun _ _ h => h.elim)).trans (((Keep.refl _ V).drew).trans HK5.out (fun _ _ h => h)) (fun _ _ h => h)
                have HF := hid (show EChk w w5 tb r (l.take (k + 1)) from by
                  rw [HTK.out]
                  refine ⟨⟨_, HB5.out, HTH2.out⟩, ?_, HKW.out.trans hk5 (fun q hq e => by have := HTB.out; omega), HTB.out.1, HTB.out.2⟩
                  obtain ⟨c1, c2, c3, c4, hm⟩ := HER.out
                  exact ⟨c1, c2, c3, c4, hm.keep hk5 (fun e => by have := HTB.out; omega)⟩)
                clear hk5 s9
                go_wp2
                go_roundw
                case rel => exact ⟨k + 1, by omega, by go_num, HF⟩
                case measure => simp [intOf]; omega
          · as_aux_lemma =>
              obtain ⟨f0, hE⟩ := ok_4 HRL.out
              have hu : u = v := by have := HE3.out; rw [hE] at this; exact this
              subst hu
              have HCALL := hid (fun (W' : World) (hb : W'.heap[tb]? = some (.cells arr 104 (0, 0))) => evr_done (o := tn * 2) hb (by rw [HE1.out, hE]; rfl) s tn 4 u HE2.out)
              have hlk : (Instr.lookup 105 (.map (some r)) (.int .u8 4) true).run Tryz.prog W = .ok (.tuple #[.func (.func 67) #[] #[], .bool true]) W := by
                obtain ⟨c1, c2, c3, c4, hm⟩ := HER.out
                exact run_fget2 Tryz.underlying105 Tryz.underlying5 hm 4 (i := 3) rfl
              have HTH2 := hid (HTH.out.end (x := ⟨s, tn, 4, u⟩) (t := tn) rfl (by omega) (by simp))
              clear hE
              go_upto_region 9 with fail
              go_quiet (fail)
              obtain ⟨V, hV⟩ : ∃ V, V = W.drewN nq := ⟨_, rfl⟩
              rw [← hV]
              have hkV : Keep Nil W V := hV ▸ (Keep.refl Nil W).drewN nq
              clear hV
              go_upto_region 13 with fail
              have HKV := hid hkV
              have HAV := hid (hkV.at HAR.out (fun h => h))
              have v0 := hkV.cell x0 (fun h => h)
              have v1 := hkV.cell x1 (fun h => h)
              have v2 := hkV.cell x2 (fun h => h)
              have v3 := hkV.cell x3 (fun h => h)
              have zxv : xb < V.heap.size := by have := hkV.size; omega
              have ztv : tb < V.heap.size := by have := hkV.size; omega
              clear hkV x0 x1 x2 x3 zx zt hlk
              go_region_held3 (fun w' => w'.cell? ⟨xb, 0, none⟩ = some (.int .i64 s) ∧ w'.cell? ⟨xb, 1, none⟩ = some (.int .i64 tn) ∧ w'.cell? ⟨xb, 2, none⟩ = some (.int .u8 4) ∧ w'.cell? ⟨xb, 3, none⟩ = some (.int .u64 u)) (first | (exact s9; done) | go_keep)
                (first | (go_at_call 67; refine (HCALL.out _ (show V.drew.heap[tb]? = _ from HAV.out)).mono ?_; rintro e w5 ⟨rfl, hb5, k5⟩; have s9 := And.intro (k5.cell v0 (fun e => htx e.symm)) (And.intro (k5.cell v1 (fun e => htx e.symm)) (And.intro (k5.cell v2 (fun e => htx e.symm)) (k5.cell v3 (fun e => htx e.symm)))); have zx5 : xb < w5.heap.size := (by have := k5.size; have h0 : V.drew.heap.size = V.heap.size := rfl; omega); have HB5 := hid hb5; have HK5 := hid k5; clear hb5 k5))
              all_goals
                have hk5 : Keep (fun k => k = tb) W w5 := (HKV.out.mono (T := fun k => k = tb) (fun _ _ h => h.elim)).trans (((Keep.refl _ V).drew).trans HK5.out (fun _ _ h => h)) (fun _ _ h => h)
                have HF := hid (show EChk w w5 tb r (l.take (k + 1)) from by
                  rw [HTK.out]
                  refine ⟨⟨_, HB5.out, HTH2.out⟩, ?_, HKW.out.trans hk5 (fun q hq e => by have := HTB.out; omega), HTB.out.1, HTB.out.2⟩
                  obtain ⟨c1, c2, c3, c4, hm⟩ := HER.out
                  exact ⟨c1, c2, c3, c4, hm.keep hk5 (fun e => by have := HTB.out; omega)⟩)
                clear hk5 s9
                go_wp2
                go_roundw
                case rel => exact ⟨k + 1, by omega, by go_num, HF⟩
                case measure => simp [intOf]; omega
      · as_aux_lemma =>
          have p0 : decide ((k : Int) > 0) = true := decide_eq_true (by omega)
          have p1 : decide ((0 : Int) < (k : Int)) = true := decide_eq_true (by omega)
          have wm : IntKind.i64.wrap ((k : Int) - 1) = ((k - 1 : Nat) : Int) := by rw [IntKind.wrap_i64]; omega
          have j0 : (0 : Int) ≤ ((k - 1 : Nat) : Int) := by omega
          have j1 : ((k - 1 : Nat) : Int) < (l.length : Int) := by omega
          have yq : ∀ j u, y.cells[j]? = some u → W.cell? ⟨ab, ao + (k - 1) * 4 + j, none⟩ = some u := fun j u hu => by rw [Nat.add_assoc]; exact HKW.out.cell (HCL.out _ _ (evCells_at hy hu)) (fun h => h)
          obtain ⟨ys, yt, yk, yv⟩ := y
          simp only at hys hy3 hyt
          have yq0 : W.cell? ⟨ab, ao + (k - 1) * 4, none⟩ = some (.int .i64 ys) := yq 0 _ rfl
          subst hy3 hyt
          obtain rfl : s = ys := hys.symm
          have yq1 : W.cell? ⟨ab, ao + (k - 1) * 4 + 1, none⟩ = some (.int .i64 tn) := yq 1 _ rfl
          have yq2 : W.cell? ⟨ab, ao + (k - 1) * 4 + 2, none⟩ = some (.int .u8 3) := yq 2 _ rfl
          have yq3 : W.cell? ⟨ab, ao + (k - 1) * 4 + 3, none⟩ = some (.int .u64 yv) := yq 3 _ rfl
          have p2 : decide (s ≤ s) = true := decide_eq_true (Int.le_refl _)
          have p3 : decide (s < s) = false := decide_eq_false (by omega)
          have p4 : ((tn : Int) != (tn : Int)) = false := by simp
          clear yq hy
          obtain ⟨f0, hE⟩ := ok_4 HRL.out
          have hu : u = v := by have := HE3.out; rw [hE] at this; exact this
          subst hu
          have HCALL := hid (fun (W' : World) (hb : W'.heap[tb]? = some (.cells arr 104 (0, 0))) => evr_done (o := tn * 2) hb (by rw [HE1.out, hE]; rfl) s tn 4 u HE2.out)
          have hlk : (Instr.lookup 105 (.map (some r)) (.int .u8 4) true).run Tryz.prog W = .ok (.tuple #[.func (.func 67) #[] #[], .bool true]) W := by
            obtain ⟨c1, c2, c3, c4, hm⟩ := HER.out
            exact run_fget2 Tryz.underlying105 Tryz.underlying5 hm 4 (i := 3) rfl
          have HTH2 := hid (HTH.out.end (x := ⟨s, tn, 4, u⟩) (t := tn) rfl (by omega) (by simp))
          clear hE
          go_upto_region 9 with fail
          go_quiet (fail)
          obtain ⟨U, hU⟩ : ∃ U, U = W.drewN nq := ⟨_, rfl⟩
          rw [← hU]
          have hkU : Keep Nil W U := hU ▸ (Keep.refl Nil W).drewN nq
          clear hU
          have x0 := hkU.cell x0 (fun h => h)
          have x1 := hkU.cell x1 (fun h => h)
          have x2 := hkU.cell x2 (fun h => h)
          have x3 := hkU.cell x3 (fun h => h)
          have yq0 := hkU.cell yq0 (fun h => h)
          have yq1 := hkU.cell yq1 (fun h => h)
          have yq2 := hkU.cell yq2 (fun h => h)
          have yq3 := hkU.cell yq3 (fun h => h)
          have zx : xb < U.heap.size := by have := hkU.size; omega
          have zt : tb < U.heap.size := by have := hkU.size; omega
          go_upto_region 11 with fail
          obtain ⟨V, hV⟩ : ∃ V, V = U.alloc (.cells #[.int .i64 s, .int .i64 tn, .int .u8 3, .int .u64 yv] 43) := ⟨_, rfl⟩
          rw [← hV]
          have y0 : V.cell? ⟨U.heap.size, 0, none⟩ = some (.int .i64 s) := by rw [hV, cell_of (heap_alloc_new U _)]; rfl
          have y1 : V.cell? ⟨U.heap.size, 1, none⟩ = some (.int .i64 tn) := by rw [hV, cell_of (heap_alloc_new U _)]; rfl
          have y2 : V.cell? ⟨U.heap.size, 2, none⟩ = some (.int .u8 3) := by rw [hV, cell_of (heap_alloc_new U _)]; rfl
          have hkV : Keep Nil W V := hkU.trans (hV ▸ (Keep.refl Nil U).alloc _) (fun _ _ h => h)
          have hkUV : Keep Nil U V := hV ▸ (Keep.refl Nil U).alloc _
          clear hV
          have x0 := hkUV.cell x0 (fun h => h)
          have x1 := hkUV.cell x1 (fun h => h)
          have x2 := hkUV.cell x2 (fun h => h)
          have x3 := hkUV.cell x3 (fun h => h)
          have zx : xb < V.heap.size := by have := hkUV.size; omega
          go_upto_region 13 with fail
          have HKV := hid hkV
          have HAV := hid (hkV.at HAR.out (fun h => h))
          have v0 := x0
          have v1 := x1
          have v2 := x2
          have v3 := x3
          have ztv : tb < V.heap.size := by have := hkV.size; omega
          clear hkV hkU hkUV x0 x1 x2 x3 zt hlk
          go_region_held3 (fun w' => w'.cell? ⟨xb, 0, none⟩ = some (.int .i64 s) ∧ w'.cell? ⟨xb, 1, none⟩ = some (.int .i64 tn) ∧ w'.cell? ⟨xb, 2, none⟩ = some (.int .u8 4) ∧ w'.cell? ⟨xb, 3, none⟩ = some (.int .u64 u)) (first | (exact s9; done) | go_keep)
            (first | (go_at_call 67; refine (HCALL.out _ (show V.drew.heap[tb]? = _ from HAV.out)).mono ?_; rintro e w5 ⟨rfl, hb5, k5⟩; have s9 := And.intro (k5.cell v0 (fun e => htx e.symm)) (And.intro (k5.cell v1 (fun e => htx e.symm)) (And.intro (k5.cell v2 (fun e => htx e.symm)) (k5.cell v3 (fun e => htx e.symm)))); have zx5 : xb < w5.heap.size := (by have := k5.size; have h0 : V.drew.heap.size = V.heap.size := rfl; omega); have HB5 := hid hb5; have HK5 := hid k5; clear hb5 k5))
          all_goals
            have hk5 : Keep (fun k => k = tb) W w5 := (HKV.out.mono (T := fun k => k = tb) (fun _ _ h => h.elim)).trans (((Keep.refl _ V).drew).trans HK5.out (fun _ _ h => h)) (fun _ _ h => h)
            have HF := hid (show EChk w w5 tb r (l.take (k + 1)) from by
              rw [HTK.out]
              refine ⟨⟨_, HB5.out, HTH2.out⟩, ?_, HKW.out.trans hk5 (fun q hq e => by have := HTB.out; omega), HTB.out.1, HTB.out.2⟩
              obtain ⟨c1, c2, c3, c4, hm⟩ := HER.out
              exact ⟨c1, c2, c3, c4, hm.keep hk5 (fun e => by have := HTB.out; omega)⟩)
            clear hk5 s9
            go_wp2
            go_roundw
            case rel => exact ⟨k + 1, by omega, by go_num, HF⟩
            case measure => simp [intOf]; omega
    · obtain rfl : k = l.length := by omega
      have i1 : ((l.length : Int) < (l.length : Int)) = False := eq_false (by omega)
      have d1 : decide ((l.length : Int) < (l.length : Int)) = false := decide_eq_false (by omega)
      go_wp2
      go_ret2
      exact ⟨rfl, HC.out.kp⟩
end
end Go.Proofs.YtldjlcdccnnogaaGreat
