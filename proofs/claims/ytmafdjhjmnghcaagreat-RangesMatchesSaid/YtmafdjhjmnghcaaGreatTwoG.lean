/- law24.Two over any two ways of lying that hold a store each. -/
import Derived.Test.YtmafdjhjmnghcaaGreatSame
import Derived.Deep.RegionHeld3
set_option linter.unusedVariables false
set_option linter.unusedSimpArgs false
namespace Go.Proofs.YtmafdjhjmnghcaaGreat
open Go.RowKit Go.Lf
/-- A way of lying that holds a store of the program. -/
structure MemL {σ : Type} (P : Lies σ) (c : Cfg) (b mb : Nat) (pr : σ → List Int × List Acc) (pt : σ → List Int × List Acc → σ) : Prop where
  tos : ∀ {w : World} {A : Nat → Prop} {s : σ}, P.lie w A s → ∃ A0, (StoreL c b mb).lie w A0 (pr s) ∧ ∀ (x' : List Int × List Acc) (w' : World), (StoreL c b mb).To w A0 x' w' → P.To w A (pt s x') w'
section
variable {w : World} {B : Nat → Prop} {c : Cfg} {rb rm l : Nat} {F G : Nat → Prop} {ws : List Int} {log : List Acc}
/-- A call of the memory, seen closer. -/
theorem RP.turn3 {w' : World} {ws' : List Int} {log' : List Acc} {mb : Nat} (h : RP w B c rb mb l F G ws log) (hm : RefTo w mb F ws' log' w') : ∃ F' B', RP w' B' c rb mb l F' G ws' log' ∧ Keep B w w' ∧ Foot w B B' := by
  obtain ⟨F', hm', hk, hf⟩ := hm
  obtain ⟨x2, x3, x4, x5, x6, x7, x8, x9, x10, x11, hb⟩ := h.head
  refine ⟨F', fun k => k = rb ∨ F' k ∨ G k, ⟨⟨x2, x3, x4, x5, x6, x7, x8, x9, x10, x11, hk.at hb h.nF⟩, hm', h.lay.keep hk (fun k hG => (h.gf k hG).1), fun _ => Iff.rfl, fun e => ?_, h.nG, fun k hG => ⟨fun e => ?_, by have := (h.gf k hG).2; have := hk.size; omega⟩, h.more.keep hk (fun k e => e.elim (fun e => e ▸ h.nF) (fun hG => (h.gf k hG).1))⟩, hk.mono (T := B) (fun k _ e => (h.foot k).2 (.inr (.inl e))), fun k hk' => ?_⟩
  · rcases hf rb e with e | e
    · exact h.nF e
    · have := lt_of_block hb; omega
  · rcases hf k e with e | e
    · exact (h.gf k hG).1 e
    · have := (h.gf k hG).2; omega
  · rcases hk' with e | e | e
    · exact .inl ((h.foot k).2 (.inl e))
    · rcases hf k e with e | e
      · exact .inl ((h.foot k).2 (.inr (.inl e)))
      · exact .inr (by omega)
    · exact .inl ((h.foot k).2 (.inr (.inr e)))
theorem RP.rlc3 (h : RP w B c rb rm l F G ws log) : RLC w l c := h.lay.1
end
/-- A store of the reference whose layout is known. -/
def RStoreF (c : Cfg) (rb rm l : Nat) : Lies (List Int × List Acc) where
  lie w A x := ∃ F G, RP w A c rb rm l F G x.1 x.2
  keep := fun ⟨F, G, h⟩ hk hn => ⟨F, G, h.keep hk hn⟩
  lt := fun ⟨_, _, h⟩ k hA => h.lt k hA
/-- A way of lying that holds a store of the reference. -/
structure RMemL {τ : Type} (R : Lies τ) (c : Cfg) (rb rm : Nat) (pr : τ → List Int × List Acc) (pt : τ → List Int × List Acc → τ) : Prop where
  tos : ∀ {w : World} {A : Nat → Prop} {s : τ}, R.lie w A s → ∃ A0 l F G, RP w A0 c rb rm l F G (pr s).1 (pr s).2 ∧ ∀ (ws' : List Int) (log' : List Acc) (w' : World), RefTo w rm F ws' log' w' → R.To w A (pt s (ws', log')) w'
theorem memL_objsB {ω : Type} (O : ObLies ω) (c : Cfg) (b mb : Nat) : MemL ((StoreL c b mb).objsB O) c b mb (fun s => s.1) (fun s x => (x, s.2)) :=
  ⟨fun {w A s} ⟨F, ho⟩ => ⟨F, ho.sys, fun x' w' ⟨F', h1, h2, h3⟩ => by
    obtain ⟨A', h4, h5, h6⟩ := ho.none h1 h2 h3
    exact ⟨A', ⟨F', h4⟩, h5, h6⟩⟩⟩
theorem rmemL_objs {ω : Type} (O : OpLies ω) (c : Cfg) (rb rm l : Nat) : RMemL ((RStoreF c rb rm l).objs O) c rb rm (fun s => s.1) (fun s x => (x, s.2)) :=
  ⟨fun {w A s} ⟨F, ho⟩ => by
    obtain ⟨F1, G, h⟩ := ho.sys
    refine ⟨F, l, F1, G, h, fun ws' log' w' hm => ?_⟩
    obtain ⟨F', B', h1, h2, h3⟩ := h.turn3 hm
    exact ho.none (s' := (ws', log')) ⟨F', G, h1⟩ h2 h3⟩
/-- The layout of the reference's store is some one. -/
theorem two_rf {σ : Type} {P : Lies σ} {c : Cfg} {rb rm : Nat} {w wr : World} {L : Nat → Prop} {s : σ} {r : List Int × List Acc} (h : Two P (RStoreL c rb rm) w L s r wr) : ∃ l, Two P (RStoreF c rb rm l) w L s r wr := by
  obtain ⟨⟨A, B, h1, ⟨l, F, G, h2⟩, h3, h4⟩, h5, h6⟩ := h
  exact ⟨l, ⟨A, B, h1, ⟨F, G, h2⟩, h3, h4⟩, h5, h6⟩
section
variable {σ τ : Type} {P : Lies σ} {R : Lies τ} {c : Cfg} {b mb rb rm : Nat} {pr : σ → List Int × List Acc} {pt : σ → List Int × List Acc → σ} {pr' : τ → List Int × List Acc} {pt' : τ → List Int × List Acc → τ} {w wr w' : World} {L : Nat → Prop} {s : σ} {r : τ}
theorem g_sp (hP : MemL P c b mb pr pt) (h : Two P R w L s r wr) : ∃ A l F G, SP wr A c b mb l F G (pr s).1 (pr s).2 := by
  obtain ⟨A, hA⟩ := h.has1
  obtain ⟨A0, ⟨l, F, G, hsp⟩, -⟩ := hP.tos hA
  exact ⟨A0, l, F, G, hsp⟩
theorem g_rp (hR : RMemL R c rb rm pr' pt') (h : Two P R w L s r wr) : ∃ B l F G, RP wr B c rb rm l F G (pr' r).1 (pr' r).2 := by
  obtain ⟨A, hA⟩ := h.has2
  obtain ⟨A0, l, F, G, hsp, -⟩ := hR.tos hA
  exact ⟨A0, l, F, G, hsp⟩
theorem g_rc1 (hR : RMemL R c rb rm pr' pt') (h : Two P R w L s r wr) : wr.cell? ⟨rb, 1, none⟩ = some (.pointer (some ⟨rm, 0, none⟩)) ∧ rb < wr.heap.size ∧ rm < wr.heap.size := by
  obtain ⟨B, l, F, G, hp⟩ := g_rp hR h
  exact ⟨hp.c1, hp.bl, hp.mem.lt rm hp.mem.has⟩
theorem g_rl (hR : RMemL R c rb rm pr' pt') (h : Two P R w L s r wr) : ∃ l, (∀ w', Keep Nil wr w' → w'.cell? ⟨rb, 0, none⟩ = some (.pointer (some ⟨l, 0, none⟩)) ∧ RLC w' l c) ∧ rb < wr.heap.size := by
  obtain ⟨B, l, F, G, hp⟩ := g_rp hR h
  exact ⟨l, fun w' hk => ⟨hk.cell hp.c0 (fun h => h), hp.lay.2 w' Nil hk (fun _ _ h => h)⟩, hp.bl⟩
theorem g_mem (hP : MemL P c b mb pr pt) (h : Two P R w L s r wr) : Calls Tryz.prog 24 #[.pointer (some ⟨b, 0, none⟩)] wr fun e w' => e = .returned (.pointer (some ⟨mb, 0, none⟩)) ∧ wr = w' := by
  obtain ⟨A, l, F, G, hsp⟩ := g_sp hP h
  exact bmem_ok hsp
theorem g_sA (hP : MemL P c b mb pr pt) (h : Two P R w L s r wr) (t a v : Int) (t0 : 0 ≤ t) (t1 : t < 64) (a0 : 0 ≤ a) (ha : a.toNat < (pr s).1.length) (hl : (pr s).2.length < 1000000000000) :
    Calls Tryz.prog 25 #[.pointer (some ⟨mb, 0, none⟩), .int .i64 t, .int .i64 a, .int .u64 v] wr fun e w' => e = .returned (.int .i64 0) ∧ Two P R w L (pt s ((pr s).1.set a.toNat v, (pr s).2 ++ [stAcc t a (pr s).1 v])) r w' ∧ Keep (Out w L) wr w' := by
  refine h.call1 (s' := pt s ((pr s).1.set a.toNat v, (pr s).2 ++ [stAcc t a (pr s).1 v])) (fun A hA => ?_)
  obtain ⟨A0, ⟨l, F1, G, hsp⟩, hto⟩ := hP.tos hA
  have hx : (pr s).1[a.toNat]? = some (((pr s).1[a.toNat]?).getD 0) := by rw [List.getElem?_eq_getElem ha]; rfl
  refine (store_ok hsp.mem t a _ v t0 t1 a0 hx hl).mono ?_
  rintro e w' ⟨rfl, hm⟩
  exact ⟨rfl, hto _ _ (hsp.turn (Keep.refl Nil wr) hm)⟩
theorem g_sB (hR : RMemL R c rb rm pr' pt') (h : Two P R w L s r wr) (t a v : Int) (t0 : 0 ≤ t) (t1 : t < 64) (a0 : 0 ≤ a) (ha : a.toNat < (pr' r).1.length) (hl : (pr' r).2.length < 1000000000000) :
    Calls Tryz.prog 98 #[.pointer (some ⟨rm, 0, none⟩), .int .i64 t, .int .i64 a, .int .u64 v] wr fun e w' => e = .returned (.int .i64 0) ∧ Two P R w L s (pt' r ((pr' r).1.set a.toNat v, (pr' r).2 ++ [stAcc t a (pr' r).1 v])) w' ∧ Keep (Out w L) wr w' := by
  refine h.call2 (r' := pt' r ((pr' r).1.set a.toNat v, (pr' r).2 ++ [stAcc t a (pr' r).1 v])) (fun A hA => ?_)
  obtain ⟨A0, l, F1, G, hsp, hto⟩ := hR.tos hA
  have hx : (pr' r).1[a.toNat]? = some (((pr' r).1[a.toNat]?).getD 0) := by rw [List.getElem?_eq_getElem ha]; rfl
  refine (rstore_ok hsp.mem t a _ v t0 t1 a0 hx hl).mono ?_
  rintro e w' ⟨rfl, hm⟩
  exact ⟨rfl, hto _ _ _ hm⟩
theorem g_own1 (h : Two P R w L s r wr) (o : Obj) : Two P R w (fun k => L k ∨ k = wr.heap.size) s r (wr.alloc o) :=
  h.loc ((Keep.refl L wr).alloc o) (fun k e => e.imp id (fun e => by subst e; exact ⟨Nat.le_refl _, by simp⟩))
def GStoreTo {σ τ : Type} (P : Lies σ) (R : Lies τ) (w wr : World) (L : Nat → Prop) (s : σ) (r : τ) (e : Ending) (w' : World) : Prop := e = .returned (.bool true) ∧ Two P R w L s r w' ∧ Keep (Out w L) wr w'
set_option maxRecDepth 100000 in
set_option maxHeartbeats 4000000 in
theorem g_store (hP : MemL P c b mb pr pt) (hR : RMemL R c rb rm pr' pt') (hpp : ∀ s x, pr (pt s x) = x) (hpq : ∀ s x, pr' (pt' s x) = x) (h : Two P R w L s r wr) (t a v : Int) (t0 : 0 ≤ t) (t1 : t < 64) (a0 : 0 ≤ a) (hax : a.toNat < (pr s).1.length) (hay : a.toNat < (pr' r).1.length) (hlx : (pr s).2.length < 1000000000000) (hly : (pr' r).2.length < 1000000000000) :
    Calls Tryz.prog 53 #[.agg #[.pointer (some ⟨b, 0, none⟩), .pointer (some ⟨rb, 0, none⟩)], .int .i64 t, .int .i64 a, .int .u64 v] wr (GStoreTo P R w wr L (pt s ((pr s).1.set a.toNat v, (pr s).2 ++ [stAcc t a (pr s).1 v])) (pt' r ((pr' r).1.set a.toNat v, (pr' r).2 ++ [stAcc t a (pr' r).1 v]))) := by
  have H := hid h
  have HT := hid (And.intro t0 t1)
  have HA := hid (And.intro a0 (And.intro hax hay))
  have HL := hid (And.intro hlx hly)
  have HZ := hid (show w.heap.size ≤ wr.heap.size from h.own.size)
  clear h t0 t1 a0 hax hay hlx hly
  go_enter Tryz.func53, Tryz.ntmps53
  go_upto_region 1 with fail
  obtain ⟨W, hW⟩ : ∃ W, W = wr.alloc (.cells #[.pointer (some ⟨b, 0, none⟩), .pointer (some ⟨rb, 0, none⟩)] 96) := ⟨_, rfl⟩
  rw [← hW]
  have h1 := g_own1 H.out (.cells #[.pointer (some ⟨b, 0, none⟩), .pointer (some ⟨rb, 0, none⟩)] 96)
  have hbx := heap_alloc_new wr (.cells #[.pointer (some ⟨b, 0, none⟩), .pointer (some ⟨rb, 0, none⟩)] 96)
  have hkw := (Keep.refl Nil wr).alloc (.cells #[.pointer (some ⟨b, 0, none⟩), .pointer (some ⟨rb, 0, none⟩)] 96)
  rw [← hW] at h1 hbx hkw
  obtain ⟨L1, hL1⟩ : ∃ L1 : Nat → Prop, L1 = fun k => L k ∨ k = wr.heap.size := ⟨_, rfl⟩
  rw [← hL1] at h1
  have HL1 := hid hL1
  clear hW hL1
  have hd := h1.quiet ((Keep.refl Nil W).drew)
  have HD := hid hd
  have HBX := hid hbx
  have c0 : W.cell? ⟨wr.heap.size, 0, none⟩ = some (.pointer (some ⟨b, 0, none⟩)) := by rw [cell_of hbx]; rfl
  have c1 : W.cell? ⟨wr.heap.size, 1, none⟩ = some (.pointer (some ⟨rb, 0, none⟩)) := by rw [cell_of hbx]; rfl
  obtain ⟨c2, z1, z2⟩ := g_rc1 hR h1
  have z0 : wr.heap.size < W.heap.size := lt_of_block hbx
  have HKW := hid hkw
  clear h1 hbx hkw
  have HBD := hid (show (W.drew).heap[wr.heap.size]? = _ from HBX.out)
  have HBL := hid (show L1 wr.heap.size from by rw [HL1.out]; exact .inr rfl)
  go_region_held3 (fun w' => w'.cell? ⟨wr.heap.size, 0, none⟩ = some (.pointer (some ⟨b, 0, none⟩)) ∧ w'.cell? ⟨wr.heap.size, 1, none⟩ = some (.pointer (some ⟨rb, 0, none⟩)) ∧ w'.cell? ⟨rb, 1, none⟩ = some (.pointer (some ⟨rm, 0, none⟩))) (first | (exact s9; done) | go_keep)
    (first
      | (go_at_call 24; (with_reducible refine (g_mem hP XB.out).mono ?_); rintro e w1 ⟨rfl, rfl⟩)
      | (go_at_call 24; (with_reducible refine (g_mem hP HD.out).mono ?_); rintro e w1 ⟨rfl, rfl⟩)
      | (go_at_call 25; (with_reducible refine (g_sA hP XB.out _ _ _ HT.out.1 HT.out.2 HA.out.1 HA.out.2.1 HL.out.1).mono ?_); rintro e w1 ⟨rfl, h1, k1⟩; have x0 := k1.loc KB.out.1 HBL.out; have s9 := And.intro (show w1.cell? ⟨wr.heap.size, 0, none⟩ = some (.pointer (some ⟨b, 0, none⟩)) from (by rw [cell_of x0]; rfl)) (And.intro (show w1.cell? ⟨wr.heap.size, 1, none⟩ = some (.pointer (some ⟨rb, 0, none⟩)) from (by rw [cell_of x0]; rfl)) (g_rc1 hR h1).1); have sz := And.intro (lt_of_block x0) (g_rc1 hR h1).2; have XF := hid h1; have KF := hid (And.intro x0 k1); clear h1 k1 x0)
      | (go_at_call 25; (with_reducible refine (g_sA hP HD.out _ _ _ HT.out.1 HT.out.2 HA.out.1 HA.out.2.1 HL.out.1).mono ?_); rintro e w1 ⟨rfl, h1, k1⟩; have x0 := k1.loc HBD.out HBL.out; have s9 := And.intro (show w1.cell? ⟨wr.heap.size, 0, none⟩ = some (.pointer (some ⟨b, 0, none⟩)) from (by rw [cell_of x0]; rfl)) (And.intro (show w1.cell? ⟨wr.heap.size, 1, none⟩ = some (.pointer (some ⟨rb, 0, none⟩)) from (by rw [cell_of x0]; rfl)) (g_rc1 hR h1).1); have sz := And.intro (lt_of_block x0) (g_rc1 hR h1).2; have XA := hid h1; have KA := hid (And.intro x0 k1); clear h1 k1 x0)
      | (go_at_call 98; (with_reducible refine (g_sB hR XA.out _ _ _ HT.out.1 HT.out.2 HA.out.1 HA.out.2.2 HL.out.2).mono ?_); rintro e w1 ⟨rfl, h1, k1⟩; have x0 := k1.loc KA.out.1 HBL.out; have s9 := And.intro (show w1.cell? ⟨wr.heap.size, 0, none⟩ = some (.pointer (some ⟨b, 0, none⟩)) from (by rw [cell_of x0]; rfl)) (And.intro (show w1.cell? ⟨wr.heap.size, 1, none⟩ = some (.pointer (some ⟨rb, 0, none⟩)) from (by rw [cell_of x0]; rfl)) (g_rc1 hR h1).1); have sz := And.intro (lt_of_block x0) (g_rc1 hR h1).2; have XF := hid h1; have KF := hid (And.intro x0 k1); clear h1 k1 x0)
      | (go_at_call 98; (with_reducible refine (g_sB hR HD.out _ _ _ HT.out.1 HT.out.2 HA.out.1 HA.out.2.2 HL.out.2).mono ?_); rintro e w1 ⟨rfl, h1, k1⟩; have x0 := k1.loc HBD.out HBL.out; have s9 := And.intro (show w1.cell? ⟨wr.heap.size, 0, none⟩ = some (.pointer (some ⟨b, 0, none⟩)) from (by rw [cell_of x0]; rfl)) (And.intro (show w1.cell? ⟨wr.heap.size, 1, none⟩ = some (.pointer (some ⟨rb, 0, none⟩)) from (by rw [cell_of x0]; rfl)) (g_rc1 hR h1).1); have sz := And.intro (lt_of_block x0) (g_rc1 hR h1).2; have XB := hid h1; have KB := hid (And.intro x0 k1); clear h1 k1 x0))
  all_goals
    go_wp2
    go_ret
    have hout : ∀ k, k < wr.heap.size → Out w L1 k → Out w L k := fun k hlt e => ⟨fun hl => e.1 (by rw [HL1.out]; exact .inl hl), e.2⟩
    have hless := XF.out.less (L' := L) (fun k hl => by rw [HL1.out]; exact .inl hl)
    first
      | exact ⟨rfl, hless, (HKW.out.drew.mono (T := Out w L) (fun _ _ h => h.elim)).trans (KA.out.2.trans KF.out.2 (fun _ _ h => h)) hout⟩
      | exact ⟨rfl, hless, (HKW.out.drew.mono (T := Out w L) (fun _ _ h => h.elim)).trans (KB.out.2.trans KF.out.2 (fun _ _ h => h)) hout⟩
theorem g_ext (hP : MemL P c b mb pr pt) (h : Two P R w L s r wr) : ∃ l, ExtP b mb l c wr := by
  obtain ⟨A, l, F, G, hp⟩ := g_sp hP h
  exact ⟨l, hp.more.1⟩
theorem g_rext (hR : RMemL R c rb rm pr' pt') (h : Two P R w L s r wr) : ∃ l, RExtP rb rm l c wr := by
  obtain ⟨A, l, F, G, hp⟩ := g_rp hR h
  exact ⟨l, hp.more.1⟩
theorem g_words (hP : MemL P c b mb pr pt) (h : Two P R w L s r wr) {x : List Int × List Acc} (hx : pr s = x) (hn : x.1.length ≤ 1000000000) : Calls Tryz.prog 50 #[.pointer (some ⟨mb, 0, none⟩)] wr (RowTo wr 26 x.1.length (u64s x.1)) := by
  obtain ⟨A, l, F, G, hsp⟩ := g_sp hP h
  subst hx
  exact words_ok hsp.mem hn
theorem g_log (hP : MemL P c b mb pr pt) (h : Two P R w L s r wr) {x : List Int × List Acc} (hx : pr s = x) (hn : x.2.length < 1000000000000) : Calls Tryz.prog 106 #[.pointer (some ⟨mb, 0, none⟩), .int .i64 0] wr (LogTo wr x.2) := by
  obtain ⟨A, l, F, G, hsp⟩ := g_sp hP h
  subst hx
  exact log_any hsp.mem hn
theorem g_refs (hR : RMemL R c rb rm pr' pt') (h : Two P R w L s r wr) {x : List Int × List Acc} (hx : pr' r = x) : ∃ gw wc la lc, wr.cell? ⟨rm, 0, none⟩ = some (.slice (some ⟨gw, 0, none⟩) x.1.length wc) ∧ wr.cell? ⟨rm, 1, none⟩ = some (.slice la x.2.length lc) ∧ Rd wr 1 (.slice (some ⟨gw, 0, none⟩) x.1.length wc) x.1.length (u64s x.1) ∧ Rd wr 6 (.slice la x.2.length lc) x.2.length (logCells x.2) := by
  obtain ⟨A, l, F, G, hp⟩ := g_rp hR h
  subst hx
  obtain ⟨gw, wc, la, lc, hr, -⟩ := hp.mem.rep
  exact ⟨gw, wc, la, lc, hr.cell0, hr.cell1, row_rd hr.wrow, row_rd hr.lrow⟩
set_option maxRecDepth 100000 in
set_option maxHeartbeats 8000000 in
theorem g_same (hP : MemL P c b mb pr pt) (hR : RMemL R c rb rm pr' pt') (h : Two P R w L s r wr) {x : List Int × List Acc} (hpx : pr s = x) (hqx : pr' r = x) (hok : c.ok) (hx : x.1.length ≤ 1000000) (hn : x.2.length < 1000000000) :
    Calls Tryz.prog 58 #[.agg #[.pointer (some ⟨b, 0, none⟩), .pointer (some ⟨rb, 0, none⟩)]] wr fun e w' => e = .returned (.bool true) ∧ Keep Nil wr w' := by
  have H := hid h
  have HNT := hid hok.nT
  have HX := hid (And.intro hx hn)
  obtain ⟨l1, hext⟩ := g_ext hP h
  obtain ⟨l2, pb, tb, vb, gb, kb, ub, x3, x4, v9, hrb, hpl, -, -⟩ := g_rext hR h
  obtain ⟨gw, wc, la, lc, hm0, hm1, hr1, hr2⟩ := g_refs hR h hqx
  have HR1 := hid hr1
  have HR2 := hid hr2
  have HPL := hid hpl
  have hS : SC (wr.alloc (.cells #[.pointer (some ⟨b, 0, none⟩), .pointer (some ⟨rb, 0, none⟩)] 96)) wr.heap.size b rb rm pb gw wc x.1.length la lc x.2.length := by
    have hk := (Keep.refl Nil wr).alloc (.cells #[.pointer (some ⟨b, 0, none⟩), .pointer (some ⟨rb, 0, none⟩)] 96)
    have hb := heap_alloc_new wr (.cells #[.pointer (some ⟨b, 0, none⟩), .pointer (some ⟨rb, 0, none⟩)] 96)
    obtain ⟨q1, q2, q3⟩ := g_rc1 hR h
    refine ⟨by rw [cell_of hb]; rfl, by rw [cell_of hb]; rfl, hk.cell q1 (fun h => h), hk.cell (v := .pointer (some ⟨pb, 0, none⟩)) (by rw [cell_of hrb]; rfl) (fun h => h), hk.cell (v := .slice none 0 0) (by rw [cell_of hrb]; rfl) (fun h => h), hk.cell hm0 (fun h => h), hk.cell hm1 (fun h => h), lt_of_block hb, ?_, ?_⟩
    · have := hk.size; omega
    · have := hk.size; omega
  have HS := hid hS
  have HKA := hid ((Keep.refl Nil wr).alloc (.cells #[.pointer (some ⟨b, 0, none⟩), .pointer (some ⟨rb, 0, none⟩)] 96))
  obtain ⟨pA, m7, m8, oA, gA, y3, y4, hbA, hpA, -, -⟩ := hext
  have HBA := hid hbA
  have HPA := hid hpA
  clear h hok hx hn hbA hpA hrb hpl hm0 hm1 hr1 hr2 hS
  go_enter Tryz.func58, Tryz.ntmps58
  obtain ⟨W, hW⟩ : ∃ W, W = wr.alloc (.cells #[.pointer (some ⟨b, 0, none⟩), .pointer (some ⟨rb, 0, none⟩)] 96) := ⟨_, rfl⟩
  rw [← hW] at HS HKA
  obtain ⟨z0, z1, z2⟩ := HS.out.lts
  obtain ⟨c0, c1, r1, r2, r8, m0, m1⟩ := HS.out.conj
  go_upto_region 1 with fail
  rw [← hW]
  clear hW
  have HK := hid ((Keep.refl Nil W).drew)
  simp only [List.append]
  go_region_held3 (fun w' => w'.cell? ⟨wr.heap.size, 0, none⟩ = some (.pointer (some ⟨b, 0, none⟩)) ∧ w'.cell? ⟨wr.heap.size, 1, none⟩ = some (.pointer (some ⟨rb, 0, none⟩)) ∧ w'.cell? ⟨rb, 1, none⟩ = some (.pointer (some ⟨rm, 0, none⟩)) ∧ w'.cell? ⟨rb, 2, none⟩ = some (.pointer (some ⟨pb, 0, none⟩)) ∧ w'.cell? ⟨rb, 8, none⟩ = some (.slice none 0 0) ∧ w'.cell? ⟨rm, 0, none⟩ = some (.slice (some ⟨gw, 0, none⟩) x.1.length wc) ∧ w'.cell? ⟨rm, 1, none⟩ = some (.slice la x.2.length lc)) (first | (exact s9; done) | go_keep)
    (first
      | (go_at_call 24; (with_reducible refine (g_mem hP (H.out.quiet (HKA.out.trans HK.out (fun _ _ h => h)))).mono ?_); rintro e w1 ⟨rfl, rfl⟩)
      | (go_at_call 50; (with_reducible refine (g_words hP (H.out.quiet (HKA.out.trans HK.out (fun _ _ h => h))) hpx (by have := HX.out.1; omega)).mono ?_); rintro e w1 ⟨g, rfl, hg, hgz, hk⟩; have HRG := hid (rd_of_heap (n := x.1.length) (size := 1) hg (by simp [length_u64s])); clear hg hgz; have HKN := hid (HK.out.trans hk (fun _ _ h => h)); clear hk HK; have HK := hid HKN.out; clear HKN; have s9 := (HS.out.quiet HK.out).conj; have sz := (HS.out.quiet HK.out).lts)
      | (go_at_call 104; (with_reducible refine (eqU_yes _ _ x.1 _ HRG.out (rd_keep HR1.out (HKA.out.trans HK.out (fun _ _ h => h)) (fun _ _ h => h)) (by have := HX.out.1; omega)).mono ?_); rintro e w1 ⟨rfl, hk⟩; have HKN := hid (HK.out.trans hk (fun _ _ h => h)); clear hk HK; have HK := hid HKN.out; clear HKN; have s9 := (HS.out.quiet HK.out).conj; have sz := (HS.out.quiet HK.out).lts)
      | (go_at_call 106; (with_reducible refine (g_log hP (H.out.quiet (HKA.out.trans HK.out (fun _ _ h => h))) hpx (by have := HX.out.2; omega)).mono ?_); rintro e w1 ⟨v, rfl, hrv, hk⟩; have HRV := hid hrv; clear hrv; have HKN := hid (HK.out.trans hk (fun _ _ h => h)); clear hk HK; have HK := hid HKN.out; clear HKN; have s9 := (HS.out.quiet HK.out).conj; have sz := (HS.out.quiet HK.out).lts)
      | (go_at_call 105; (with_reducible refine (eqA_yes _ _ x.2 _ HRV.out (rd_keep HR2.out (HKA.out.trans HK.out (fun _ _ h => h)) (fun _ _ h => h)) (by have := HX.out.2; omega)).mono ?_); rintro e w1 ⟨rfl, hk⟩; have HKN := hid (HK.out.trans hk (fun _ _ h => h)); clear hk HK; have HK := hid HKN.out; clear HKN; have s9 := (HS.out.quiet HK.out).conj; have sz := (HS.out.quiet HK.out).lts)
      | (go_at_call 108; (with_reducible refine (bevents_none (g_ext hP (H.out.quiet (HKA.out.trans HK.out (fun _ _ h => h)))).choose_spec).mono ?_); rintro e w1 ⟨rfl, rfl⟩)
      | (go_at_call 107; (with_reducible refine (eqEv_nil).mono ?_); rintro e w1 ⟨rfl, rfl⟩)
      | (go_at_call 110; (with_reducible refine (blinked_none (g_ext hP (H.out.quiet (HKA.out.trans HK.out (fun _ _ h => h)))).choose_spec).mono ?_); rintro e w1 ⟨rfl, hk⟩; have HKN := hid (HK.out.trans hk (fun _ _ h => h)); clear hk HK; have HK := hid HKN.out; clear HKN; have s9 := (HS.out.quiet HK.out).conj; have sz := (HS.out.quiet HK.out).lts)
      | (go_at_call 111; (with_reducible refine (rlinked_none (g_rext hR (H.out.quiet (HKA.out.trans HK.out (fun _ _ h => h)))).choose_spec HNT.out).mono ?_); rintro e w1 ⟨rfl, rfl⟩)
      | (go_at_call 109; (with_reducible refine (eqI_nil).mono ?_); rintro e w1 ⟨rfl, rfl⟩)
      | (go_at_call 112; (with_reducible refine (bretired_none (g_ext hP (H.out.quiet (HKA.out.trans HK.out (fun _ _ h => h)))).choose_spec).mono ?_); rintro e w1 ⟨rfl, hk⟩; have HKN := hid (HK.out.trans hk (fun _ _ h => h)); clear hk HK; have HK := hid HKN.out; clear HKN; have s9 := (HS.out.quiet HK.out).conj; have sz := (HS.out.quiet HK.out).lts)
      | (go_at_call 113; (with_reducible refine (rretired_none (g_rext hR (H.out.quiet (HKA.out.trans HK.out (fun _ _ h => h)))).choose_spec HNT.out).mono ?_); rintro e w1 ⟨rfl, rfl⟩)
      | (go_at_call 114; (with_reducible refine (bpool_at ((HKA.out.trans HK.out (fun _ _ h => h)).at HBA.out (fun h => h))).mono ?_); rintro e w1 ⟨rfl, rfl⟩)
      | (go_at_call 115; (with_reducible refine (pout_none (HPA.out.quiet (HKA.out.trans HK.out (fun _ _ h => h)))).mono ?_); rintro e w1 ⟨rfl, hk⟩; have HKN := hid (HK.out.trans hk (fun _ _ h => h)); clear hk HK; have HK := hid HKN.out; clear HKN; have s9 := (HS.out.quiet HK.out).conj; have sz := (HS.out.quiet HK.out).lts)
      | (go_at_call 116; (with_reducible refine (rout_none (HPL.out.keep (HKA.out.trans HK.out (fun _ _ h => h)) (fun _ _ h => h)) HNT.out).mono ?_); rintro e w1 ⟨rfl, rfl⟩))
  all_goals
    go_wp2
    go_ret
    exact ⟨rfl, (HKA.out.trans HK.out (fun _ _ h => h))⟩
end
end Go.Proofs.YtmafdjhjmnghcaaGreat
