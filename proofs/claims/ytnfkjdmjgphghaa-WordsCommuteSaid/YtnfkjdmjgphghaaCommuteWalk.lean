/- WordsCommute: the walk. -/
import Derived.Test.YtnfkjdmjgphghaaRun
import Derived.Test.YtnfkjdmjgphghaaConsPlain
import Derived.Test.YtnfkjdmjgphghaaLogRd
import Derived.Test.YtnfkjdmjgphghaaKit
import Derived.Deep.RegionHeld3
namespace Go.Lf
open Go.RowKit

theorem accOf_far {ws : List Int} {x y : Do} {c : Acc} (h0 : 0 < ws.length) (hx : accOf ws x = some c) (hne : x.a % ws.length ≠ y.a % ws.length) : accOf (ws.set c.a.toNat c.n) y = accOf ws y := by
  have ca : c.a = x.a % ws.length := by
    unfold accOf at hx
    split at hx
    · simp at hx; subst hx; rfl
    · split at hx
      · simp at hx; subst hx; rfl
      · split at hx
        · simp at hx; subst hx; rfl
        · split at hx
          · split at hx <;> (simp at hx; subst hx; rfl)
          · cases hx
  have y0 : 0 ≤ y.a % ws.length := Int.emod_nonneg _ (by omega)
  have y1 : y.a % ws.length < ws.length := Int.emod_lt_of_pos _ (by omega)
  have x0 : 0 ≤ x.a % ws.length := Int.emod_nonneg _ (by omega)
  have g : gv (ws.set c.a.toNat c.n) (y.a % ws.length) = gv ws (y.a % ws.length) := by
    rw [gv_set y0 y1 (by rw [ca]; exact x0), if_neg (by rw [ca]; exact hne)]
  unfold accOf
  rw [List.length_set, g]

theorem accOf_addr {ws : List Int} {x : Do} {c : Acc} (hx : accOf ws x = some c) : c.a = x.a % ws.length := by
  unfold accOf at hx
  split at hx
  · simp at hx; subst hx; rfl
  · split at hx
    · simp at hx; subst hx; rfl
    · split at hx
      · simp at hx; subst hx; rfl
      · split at hx
        · split at hx <;> (simp at hx; subst hx; rfl)
        · cases hx

/-- Two calls at different addresses: the words are the same; the log is the other way round. -/
theorem commute {ws : List Int} {x y : Do} (h0 : 0 < ws.length) (hne : x.a % ws.length ≠ y.a % ws.length) :
    (runM ws [x, y]).1 = (runM ws [y, x]).1 ∧ ((∃ p q, (runM ws [x, y]).2 = [p, q] ∧ (runM ws [y, x]).2 = [q, p]) ∨ ((runM ws [x, y]).2.length < 2 ∧ (runM ws [y, x]).2 = (runM ws [x, y]).2)) := by
  simp only [runM, List.foldl_cons, List.foldl_nil]
  cases hx : accOf ws x with
  | none =>
    cases hy : accOf ws y with
    | none => simp [stepM, hx, hy]
    | some d =>
      have h1 := accOf_far (y := x) h0 hy (Ne.symm hne)
      simp [stepM, hx, hy, h1]
  | some c =>
    cases hy : accOf ws y with
    | none =>
      have h1 := accOf_far (y := y) h0 hx hne
      simp [stepM, hx, hy, h1]
    | some d =>
      have h1 := accOf_far (y := y) h0 hx hne
      have h2 := accOf_far (y := x) h0 hy (Ne.symm hne)
      have ca := accOf_addr hx
      have da := accOf_addr hy
      have x0 : 0 ≤ x.a % ws.length := Int.emod_nonneg _ (by omega)
      have y0 : 0 ≤ y.a % ws.length := Int.emod_nonneg _ (by omega)
      simp only [stepM, hx, hy, h1, h2]
      refine ⟨?_, .inl ⟨c, d, rfl, rfl⟩⟩
      exact List.set_comm _ _ (by rw [ca, da]; omega)
end Go.Lf
namespace Go.Proofs.Ytnfkjdmjgphghaa
open Go.RowKit Go.Lf

/-- A run of two calls, seen from the world W0. -/
def TwoTo (W0 wc : World) (ws : List Int) (p q : Do) (e : Ending) (w' : World) : Prop :=
  ∃ b F, e = .returned (.pointer (some ⟨b, 0, none⟩)) ∧ MemAt w' b F (runM ws [p, q]).1 (runM ws [p, q]).2 ∧ Own W0 F w' ∧ Keep Nil wc w' ∧ Foot wc Nil F

theorem run_two (ws : List Int) (p q : Do) (va : Value) (g : Nat) (W0 wc : World) (hk : Keep Nil W0 wc) (hva : Rd W0 1 va ws.length (u64s ws)) (h0 : 0 < ws.length) (hm : ws.length ≤ 300)
    (hu : ∀ v ∈ ws, U64 v) (hp : p.wf) (hq : q.wf) (hb : wc.heap[g]? = some (.cells (doCells [p, q]).toArray 50 (0, 0))) :
    Calls Try.prog 24 #[va, .slice (some ⟨g, 0, none⟩) 2 2] wc (TwoTo W0 wc ws p q) := by
  refine (run_ok va _ ws [p, q] wc (rd_keep hva hk (fun _ _ h => h)) (rd_of_heap (size := 5) (n := 2) hb rfl) h0 hm (by simp) hu (fun x hx => by simp at hx; rcases hx with rfl | rfl <;> assumption)).mono ?_
  rintro e w' ⟨b, F, he, hmem, ho⟩
  exact ⟨b, F, he, hmem, ⟨hk.trans ho.1 (fun _ _ h => h), fun j hj => by rcases ho.2 j hj with h | h; exact .inl h; exact .inr (Nat.le_trans hk.size h)⟩, ho.1, ho.2⟩
theorem heap_alloc2 (w : World) (o o' : Obj) : ((w.alloc o).alloc o').heap[w.heap.size + 1]? = some o' := by simpa using heap_alloc_new (w.alloc o) o'


/-- What the two boxes hold. -/
def Boxes (bx : Nat) (x z : Do) (W : World) : Prop := W.heap[bx]? = some (.cells x.cells.toArray 50 (0, 0)) ∧ W.heap[bx + 1]? = some (.cells z.cells.toArray 50 (0, 0))

set_option maxRecDepth 100000 in
set_option maxHeartbeats 4000000 in
theorem commute_ok (va : Value) (ws : List Int) (x y : Do) (w : World) (h1 : Rd w 1 va ws.length (u64s ws)) (h0 : 2 ≤ ws.length) (hm : ws.length ≤ 300)
    (hu : ∀ v ∈ ws, U64 v) (hx : x.wf) (hy : y.wf) :
    Calls Try.prog 6 #[va, .agg x.cells.toArray, .agg y.cells.toArray] w fun e w' => e = .returned (.bool true) ∧ Keep Nil w w' := by
  obtain ⟨a, c, rfl, -, -⟩ := id h1
  have d1 : decide ((ws.length : Int) < 2) = false := decide_eq_false (by omega)
  have d2 : decide (300 < (ws.length : Int)) = false := decide_eq_false (by omega)
  have xa := I64.of_wf hx.2.2.1
  have ya := I64.of_wf hy.2.2.1
  have hlp : 0 < (ws.length : Int) := by omega
  have xr0 : 0 ≤ x.a % ws.length := Int.emod_nonneg _ (by omega)
  have xr1 : x.a % ws.length < ws.length := Int.emod_lt_of_pos _ (by omega)
  have XA := hid xa
  have YA := hid ya
  have H1 := hid h1
  have HU := hid hu
  have HX := hid hx
  have HY := hid hy
  clear xa ya h1 hu hx hy
  by_cases hne : x.a % ws.length = y.a % ws.length
  · have d3 : (x.a % ws.length == y.a % ws.length) = true := beq_iff_eq.2 hne
    obtain ⟨z, hz⟩ : ∃ z : Do, z = { y with a := x.a % ws.length + 1 } := ⟨_, rfl⟩
    have hzw : z.wf := by rw [hz]; exact ⟨HY.out.1, HY.out.2.1, by simp [Lit.wf, IntKind.min, IntKind.max, IntKind.signed, IntKind.bits]; omega, HY.out.2.2.2.1, HY.out.2.2.2.2⟩
    have hzn : x.a % ws.length ≠ z.a % ws.length := by
      rw [hz]
      show x.a % ws.length ≠ (x.a % ws.length + 1) % ws.length
      rcases Int.lt_or_le (x.a % ws.length + 1) ws.length with h | h
      · rw [Int.emod_eq_of_lt (by omega) h]; omega
      · rw [show x.a % ws.length + 1 = ws.length from by omega, Int.emod_self]; omega
    have HZW := hid hzw
    have HZN := hid hzn
    clear hne hzw hzn
    have HZ := hid hz
    clear hz
    simp only [Do.cells]
    go_enter Try.func6, Try.ntmps6
    go_wp2
    go_quiet ((go_at_call 23; exact quiet_eq (within_any _ _ (by first | exact XA.out | exact YA.out) (by omega) (by omega) _)))
    obtain ⟨V, hV⟩ : ∃ V, V = ((w.alloc (.cells #[.int .u8 x.w, .int .i64 x.t, .int .i64 x.a, .int .u64 x.o, .int .u64 x.v] 50)).alloc (.cells #[.int .u8 y.w, .int .i64 y.t, .int .i64 y.a, .int .u64 y.o, .int .u64 y.v] 50)).drewN nq := ⟨_, rfl⟩
    rw [← hV]
    have kV : Keep Nil w V := by rw [hV]; exact (((Keep.refl _ _).alloc _).alloc _).drewN _
    have gx : V.heap[w.heap.size]? = some (.cells x.cells.toArray 50 (0, 0)) := by rw [hV]; exact alloc_old (heap_alloc_new w _) _
    have gy : V.heap[w.heap.size + 1]? = some (.cells y.cells.toArray 50 (0, 0)) := by rw [hV]; simpa [Do.cells] using heap_alloc_new (w.alloc (.cells #[.int .u8 x.w, .int .i64 x.t, .int .i64 x.a, .int .u64 x.o, .int .u64 x.v] 50)) (.cells #[.int .u8 y.w, .int .i64 y.t, .int .i64 y.a, .int .u64 y.o, .int .u64 y.v] 50)
    have v2 : V.cell? ⟨w.heap.size, 2, none⟩ = some (.int .i64 x.a) := by rw [cell_of gx]; rfl
    have u2 : V.cell? ⟨w.heap.size + 1, 2, none⟩ = some (.int .i64 y.a) := by rw [cell_of gy]; rfl
    have uf : V.frozen? ⟨w.heap.size + 1, 2, none⟩ = false := free_of gy _
    have GX := hid gx
    have GY := hid gy
    have KV := hid kV
    clear hV gx gy kV
    go_wp2_with (go_at_call 23; refine (within_any _ _ XA.out (by omega) (by omega) _).mono ?_; rintro e w' ⟨rfl, rfl⟩)
    obtain ⟨W, hW⟩ : ∃ W, W = V.setCell ⟨w.heap.size + 1, 2, none⟩ (.int .i64 (x.a % ws.length + 1)) := ⟨_, rfl⟩
    rw [← hW]
    have kW : Keep Nil w W := by rw [hW]; exact Keep.setCell KV.out (.inr (by simp)) _
    have gx : W.heap[w.heap.size]? = some (.cells x.cells.toArray 50 (0, 0)) := by rw [hW]; exact set_other GX.out (by simp) _
    have gy : W.heap[w.heap.size + 1]? = some (.cells z.cells.toArray 50 (0, 0)) := by rw [hW, set_same GY.out, HZ.out]; simp [Do.cells]
    clear v2 u2 uf hW
    have BX := hid (show Boxes w.heap.size x z W from ⟨gx, gy⟩)
    have KW := hid kW
    clear gx gy kW KV GX GY
    have RW := hid (rd_keep H1.out KW.out (fun _ _ h => h))
    obtain ⟨gx, gy⟩ := BX.out
    have x0 : W.cell? ⟨w.heap.size, 0, none⟩ = some (.int .u8 x.w) := by rw [cell_of gx]; rfl
    have x1 : W.cell? ⟨w.heap.size, 1, none⟩ = some (.int .i64 x.t) := by rw [cell_of gx]; rfl
    have x2 : W.cell? ⟨w.heap.size, 2, none⟩ = some (.int .i64 x.a) := by rw [cell_of gx]; rfl
    have x3 : W.cell? ⟨w.heap.size, 3, none⟩ = some (.int .u64 x.o) := by rw [cell_of gx]; rfl
    have x4 : W.cell? ⟨w.heap.size, 4, none⟩ = some (.int .u64 x.v) := by rw [cell_of gx]; rfl
    have z0 : W.cell? ⟨w.heap.size + 1, 0, none⟩ = some (.int .u8 z.w) := by rw [cell_of gy]; rfl
    have z1 : W.cell? ⟨w.heap.size + 1, 1, none⟩ = some (.int .i64 z.t) := by rw [cell_of gy]; rfl
    have z2 : W.cell? ⟨w.heap.size + 1, 2, none⟩ = some (.int .i64 z.a) := by rw [cell_of gy]; rfl
    have z3 : W.cell? ⟨w.heap.size + 1, 3, none⟩ = some (.int .u64 z.o) := by rw [cell_of gy]; rfl
    have z4 : W.cell? ⟨w.heap.size + 1, 4, none⟩ = some (.int .u64 z.v) := by rw [cell_of gy]; rfl
    clear gx gy
    have tok1 : True := trivial
    go_region_held3 (fun w' => w'.cell? ⟨w.heap.size, 0, none⟩ = some (.int .u8 x.w) ∧ w'.cell? ⟨w.heap.size, 1, none⟩ = some (.int .i64 x.t) ∧ w'.cell? ⟨w.heap.size, 2, none⟩ = some (.int .i64 x.a) ∧ w'.cell? ⟨w.heap.size, 3, none⟩ = some (.int .u64 x.o) ∧ w'.cell? ⟨w.heap.size, 4, none⟩ = some (.int .u64 x.v) ∧ w'.cell? ⟨w.heap.size + 1, 0, none⟩ = some (.int .u8 z.w) ∧ w'.cell? ⟨w.heap.size + 1, 1, none⟩ = some (.int .i64 z.t) ∧ w'.cell? ⟨w.heap.size + 1, 2, none⟩ = some (.int .i64 z.a) ∧ w'.cell? ⟨w.heap.size + 1, 3, none⟩ = some (.int .u64 z.o) ∧ w'.cell? ⟨w.heap.size + 1, 4, none⟩ = some (.int .u64 z.v)) (go_keep)
      (first
        | (go_at_call 24; have _t := tok1; refine (run_two ws x z _ _ W _ (by repeat (first | exact Keep.refl _ _ | apply Keep.alloc | apply Keep.drew)) RW.out (by omega) hm HU.out HX.out HZW.out (by first | exact heap_alloc_new _ _ | exact alloc_old (heap_alloc_new _ _) _ | exact heap_alloc2 _ _ _)).mono ?_; rintro e w5 ⟨b1, F1, rfl, hm1, ho1, kc1, fc1⟩; clear tok1; have px0 := ho1.1.cell x0 (fun h => h); have px1 := ho1.1.cell x1 (fun h => h); have px2 := ho1.1.cell x2 (fun h => h); have px3 := ho1.1.cell x3 (fun h => h); have px4 := ho1.1.cell x4 (fun h => h); have pz0 := ho1.1.cell z0 (fun h => h); have pz1 := ho1.1.cell z1 (fun h => h); have pz2 := ho1.1.cell z2 (fun h => h); have pz3 := ho1.1.cell z3 (fun h => h); have pz4 := ho1.1.cell z4 (fun h => h))
        | (go_at_call 24; refine (run_two ws z x _ _ W _ (by repeat (first | exact ho1.1 | apply Keep.alloc | apply Keep.drew)) RW.out (by omega) hm HU.out HZW.out HX.out (by first | exact heap_alloc_new _ _ | exact kc1.at (alloc_old (heap_alloc_new _ _) _) (fun h => h) | exact kc1.at (heap_alloc2 _ _ _) (fun h => h))).mono ?_; rintro e w6 ⟨b2, F2, rfl, hm2, ho2, kc2, fc2⟩; have k56 : Keep Nil w5 w6 := Keep.trans (by repeat (first | exact Keep.refl _ _ | apply Keep.alloc | apply Keep.drew)) kc2 (fun _ _ h => h); have qx0 := ho2.1.cell x0 (fun h => h); have qx1 := ho2.1.cell x1 (fun h => h); have qx2 := ho2.1.cell x2 (fun h => h); have qx3 := ho2.1.cell x3 (fun h => h); have qx4 := ho2.1.cell x4 (fun h => h); have qz0 := ho2.1.cell z0 (fun h => h); have qz1 := ho2.1.cell z1 (fun h => h); have qz2 := ho2.1.cell z2 (fun h => h); have qz3 := ho2.1.cell z3 (fun h => h); have qz4 := ho2.1.cell z4 (fun h => h)))
    all_goals
      have HM1 := hid (hm1.keep k56 (fun _ _ h => h))
      have HM2 := hid hm2
      have KO := hid (KW.out.trans ho2.1 (fun _ _ h => h))
      have COM := hid (commute (ws := ws) (x := x) (y := z) (by omega) HZN.out)
      have hl1 := runM_log ws [x, z]
      have hl2 := runM_log ws [z, x]
      have hn1 := runM_length ws [x, z]
      have hn2 := runM_length ws [z, x]
      clear hm1 hm2 ho1 ho2 kc1 kc2 fc1 fc2 k56 px0 qx0 x0 px1 qx1 x1 px2 qx2 x2 px3 qx3 x3 px4 qx4 x4 pz0 qz0 z0 pz1 qz1 z1 pz2 qz2 z2 pz3 qz3 z3 pz4 qz4 z4
      obtain ⟨cu, hcu⟩ : ∃ cu, cu = (runM ws [x, z]).1 := ⟨_, rfl⟩
      obtain ⟨l1, hl1e⟩ : ∃ l1, l1 = (runM ws [x, z]).2 := ⟨_, rfl⟩
      obtain ⟨cv, hcv⟩ : ∃ cv, cv = (runM ws [z, x]).1 := ⟨_, rfl⟩
      obtain ⟨l2, hl2e⟩ : ∃ l2, l2 = (runM ws [z, x]).2 := ⟨_, rfl⟩
      rw [← hcu, ← hl1e] at HM1
      rw [← hcv, ← hl2e] at HM2
      rw [← hcu, ← hcv, ← hl1e, ← hl2e] at COM
      rw [← hl1e] at hl1
      rw [← hl2e] at hl2
      rw [← hcu] at hn1
      rw [← hcv] at hn2
      simp only [List.length_cons, List.length_nil] at hl1 hl2
      have HN1 := hid hn1
      have HN2 := hid hn2
      clear hcu hl1e hcv hl2e hn1 hn2
      obtain ⟨hcc, hlogs⟩ := COM.out
      subst hcc
      have HLL := hid hlogs
      have hlen : l1.length = l2.length := by rcases hlogs with ⟨p, q, rfl, rfl⟩ | ⟨_, rfl⟩ <;> rfl
      have HLEN := hid hlen
      have hlb : ((l1.length : Int) != l2.length) = false := by rw [hlen]; simp
      have hcu2 : cu.length ≤ 1000000000 := by have := HN1.out; omega
      clear hlogs hlen COM
      go_wp2_with fail
      refine (log_all HM1.out (by omega)).mono ?_
      rintro e w7 ⟨la1, lc1, rfl, rd1, k7, -⟩
      have HM2b := hid (HM2.out.keep k7 (fun _ _ h => h))
      have HM1b := hid (HM1.out.keep k7 (fun _ _ h => h))
      have K7 := hid k7
      have RD1 := hid rd1
      clear k7 rd1
      go_wp2_with fail
      refine (log_all HM2b.out (by omega)).mono ?_
      rintro e w8 ⟨la2, lc2, rfl, rd2, k8, -⟩
      have HM2c := hid (HM2b.out.keep k8 (fun _ _ h => h))
      have HM1c := hid (HM1b.out.keep k8 (fun _ _ h => h))
      have RD1b := hid (rd_keep RD1.out k8 (fun _ _ h => h))
      have RD2 := hid rd2
      have K8 := hid k8
      clear k8 rd2
      go_wp2_with fail
      refine (words_ok HM1c.out hcu2).mono ?_
      rintro e w9 ⟨g1, rfl, hg1, _, k9⟩
      have HM2d := hid (HM2c.out.keep k9 (fun _ _ h => h))
      have RG1 := hid (show Rd w9 1 (.slice (some ⟨g1, 0, none⟩) cu.length cu.length) cu.length (u64s cu) from rd_of_heap (size := 1) hg1 (by simp [length_u64s]))
      have K9 := hid k9
      clear k9 hg1
      go_wp2_with fail
      refine (words_ok HM2d.out hcu2).mono ?_
      rintro e w10 ⟨g2, rfl, hg2, _, k10⟩
      have RG2 := hid (show Rd w10 1 (.slice (some ⟨g2, 0, none⟩) cu.length cu.length) cu.length (u64s cu) from rd_of_heap (size := 1) hg2 (by simp [length_u64s]))
      have RG1b := hid (rd_keep RG1.out k10 (fun _ _ h => h))
      have K10 := hid k10
      clear k10 hg2
      go_wp2_with fail
      refine (eqU_yes _ _ cu _ RG1b.out RG2.out (by omega)).mono ?_
      rintro e w11 ⟨rfl, k11⟩
      have kz := (K9.out.trans K10.out (fun _ _ h => h)).trans k11 (fun _ _ h => h)
      have KZ := hid kz
      have r1 := rd_keep RD1b.out kz (fun _ _ h => h)
      have r2 := rd_keep RD2.out kz (fun _ _ h => h)
      have KK := hid (((KO.out.trans K7.out (fun _ _ h => h)).trans K8.out (fun _ _ h => h)).trans kz (fun _ _ h => h))
      clear k11 kz
      rcases HLL.out with ⟨p, q, rfl, rfl⟩ | ⟨hshort, rfl⟩
      · obtain ⟨g3, o3, c3, hv3, hc3⟩ := Rd.cell r1 (by simp)
        simp only [Value.slice.injEq] at hv3
        obtain ⟨rfl, -, rfl⟩ := hv3
        obtain ⟨g4, o4, c4, hv4, hc4⟩ := Rd.cell r2 (by simp)
        simp only [Value.slice.injEq] at hv4
        obtain ⟨rfl, -, rfl⟩ := hv4
        have m00 : w11.cell? ⟨g3, o3, none⟩ = some (.int .i64 p.t) := hc3 0 _ rfl
        have m01 : w11.cell? ⟨g3, o3 + 1, none⟩ = some (.int .i64 p.a) := hc3 1 _ rfl
        have m02 : w11.cell? ⟨g3, o3 + 2, none⟩ = some (.int .u8 p.k) := hc3 2 _ rfl
        have m03 : w11.cell? ⟨g3, o3 + 3, none⟩ = some (.int .u64 p.o) := hc3 3 _ rfl
        have m04 : w11.cell? ⟨g3, o3 + 4, none⟩ = some (.int .u64 p.n) := hc3 4 _ rfl
        have m05 : w11.cell? ⟨g3, o3 + 5, none⟩ = some (.bool p.s) := hc3 5 _ rfl
        have m10 : w11.cell? ⟨g3, o3 + 6, none⟩ = some (.int .i64 q.t) := hc3 6 _ rfl
        have m11 : w11.cell? ⟨g3, o3 + 6 + 1, none⟩ = some (.int .i64 q.a) := hc3 7 _ rfl
        have m12 : w11.cell? ⟨g3, o3 + 6 + 2, none⟩ = some (.int .u8 q.k) := hc3 8 _ rfl
        have m13 : w11.cell? ⟨g3, o3 + 6 + 3, none⟩ = some (.int .u64 q.o) := hc3 9 _ rfl
        have m14 : w11.cell? ⟨g3, o3 + 6 + 4, none⟩ = some (.int .u64 q.n) := hc3 10 _ rfl
        have m15 : w11.cell? ⟨g3, o3 + 6 + 5, none⟩ = some (.bool q.s) := hc3 11 _ rfl
        have n00 : w11.cell? ⟨g4, o4, none⟩ = some (.int .i64 q.t) := hc4 0 _ rfl
        have n01 : w11.cell? ⟨g4, o4 + 1, none⟩ = some (.int .i64 q.a) := hc4 1 _ rfl
        have n02 : w11.cell? ⟨g4, o4 + 2, none⟩ = some (.int .u8 q.k) := hc4 2 _ rfl
        have n03 : w11.cell? ⟨g4, o4 + 3, none⟩ = some (.int .u64 q.o) := hc4 3 _ rfl
        have n04 : w11.cell? ⟨g4, o4 + 4, none⟩ = some (.int .u64 q.n) := hc4 4 _ rfl
        have n05 : w11.cell? ⟨g4, o4 + 5, none⟩ = some (.bool q.s) := hc4 5 _ rfl
        have n10 : w11.cell? ⟨g4, o4 + 6, none⟩ = some (.int .i64 p.t) := hc4 6 _ rfl
        have n11 : w11.cell? ⟨g4, o4 + 6 + 1, none⟩ = some (.int .i64 p.a) := hc4 7 _ rfl
        have n12 : w11.cell? ⟨g4, o4 + 6 + 2, none⟩ = some (.int .u8 p.k) := hc4 8 _ rfl
        have n13 : w11.cell? ⟨g4, o4 + 6 + 3, none⟩ = some (.int .u64 p.o) := hc4 9 _ rfl
        have n14 : w11.cell? ⟨g4, o4 + 6 + 4, none⟩ = some (.int .u64 p.n) := hc4 10 _ rfl
        have n15 : w11.cell? ⟨g4, o4 + 6 + 5, none⟩ = some (.bool p.s) := hc4 11 _ rfl
        clear hc3 hc4 r1 r2
        go_wp2
        go_quiet (fail)
        go_wp2
        go_ret
        exact ⟨rfl, KK.out.drewN _⟩
      · have hs : decide ((l2.length : Int) < 2) = true := decide_eq_true (by omega)
        clear hshort r1 r2
        go_wp2
        go_quiet (fail)
        go_wp2
        go_ret
        exact ⟨rfl, KK.out.drewN _⟩
  · have d3 : (x.a % ws.length == y.a % ws.length) = false := beq_eq_false_iff_ne.2 hne
    obtain ⟨z, hz⟩ : ∃ z : Do, z = y := ⟨_, rfl⟩
    have HZW := hid (show z.wf by rw [hz]; exact HY.out)
    have HZN := hid (show x.a % ws.length ≠ z.a % ws.length by rw [hz]; exact hne)
    have HZ := hid hz
    clear hz hne
    simp only [Do.cells]
    go_enter Try.func6, Try.ntmps6
    go_wp2
    go_quiet ((go_at_call 23; exact quiet_eq (within_any _ _ (by first | exact XA.out | exact YA.out) (by omega) (by omega) _)))
    obtain ⟨W, hW⟩ : ∃ W, W = ((w.alloc (.cells #[.int .u8 x.w, .int .i64 x.t, .int .i64 x.a, .int .u64 x.o, .int .u64 x.v] 50)).alloc (.cells #[.int .u8 y.w, .int .i64 y.t, .int .i64 y.a, .int .u64 y.o, .int .u64 y.v] 50)).drewN nq := ⟨_, rfl⟩
    rw [← hW]
    have kW : Keep Nil w W := by rw [hW]; exact (((Keep.refl _ _).alloc _).alloc _).drewN _
    have gx : W.heap[w.heap.size]? = some (.cells x.cells.toArray 50 (0, 0)) := by rw [hW]; exact alloc_old (heap_alloc_new w _) _
    have gy : W.heap[w.heap.size + 1]? = some (.cells z.cells.toArray 50 (0, 0)) := by rw [hW, HZ.out]; simpa [Do.cells] using heap_alloc_new (w.alloc (.cells #[.int .u8 x.w, .int .i64 x.t, .int .i64 x.a, .int .u64 x.o, .int .u64 x.v] 50)) (.cells #[.int .u8 y.w, .int .i64 y.t, .int .i64 y.a, .int .u64 y.o, .int .u64 y.v] 50)
    have BX := hid (show Boxes w.heap.size x z W from ⟨gx, gy⟩)
    have KW := hid kW
    clear hW gx gy kW
    go_wp2
    have RW := hid (rd_keep H1.out KW.out (fun _ _ h => h))
    obtain ⟨gx, gy⟩ := BX.out
    have x0 : W.cell? ⟨w.heap.size, 0, none⟩ = some (.int .u8 x.w) := by rw [cell_of gx]; rfl
    have x1 : W.cell? ⟨w.heap.size, 1, none⟩ = some (.int .i64 x.t) := by rw [cell_of gx]; rfl
    have x2 : W.cell? ⟨w.heap.size, 2, none⟩ = some (.int .i64 x.a) := by rw [cell_of gx]; rfl
    have x3 : W.cell? ⟨w.heap.size, 3, none⟩ = some (.int .u64 x.o) := by rw [cell_of gx]; rfl
    have x4 : W.cell? ⟨w.heap.size, 4, none⟩ = some (.int .u64 x.v) := by rw [cell_of gx]; rfl
    have z0 : W.cell? ⟨w.heap.size + 1, 0, none⟩ = some (.int .u8 z.w) := by rw [cell_of gy]; rfl
    have z1 : W.cell? ⟨w.heap.size + 1, 1, none⟩ = some (.int .i64 z.t) := by rw [cell_of gy]; rfl
    have z2 : W.cell? ⟨w.heap.size + 1, 2, none⟩ = some (.int .i64 z.a) := by rw [cell_of gy]; rfl
    have z3 : W.cell? ⟨w.heap.size + 1, 3, none⟩ = some (.int .u64 z.o) := by rw [cell_of gy]; rfl
    have z4 : W.cell? ⟨w.heap.size + 1, 4, none⟩ = some (.int .u64 z.v) := by rw [cell_of gy]; rfl
    clear gx gy
    have tok1 : True := trivial
    go_region_held3 (fun w' => w'.cell? ⟨w.heap.size, 0, none⟩ = some (.int .u8 x.w) ∧ w'.cell? ⟨w.heap.size, 1, none⟩ = some (.int .i64 x.t) ∧ w'.cell? ⟨w.heap.size, 2, none⟩ = some (.int .i64 x.a) ∧ w'.cell? ⟨w.heap.size, 3, none⟩ = some (.int .u64 x.o) ∧ w'.cell? ⟨w.heap.size, 4, none⟩ = some (.int .u64 x.v) ∧ w'.cell? ⟨w.heap.size + 1, 0, none⟩ = some (.int .u8 z.w) ∧ w'.cell? ⟨w.heap.size + 1, 1, none⟩ = some (.int .i64 z.t) ∧ w'.cell? ⟨w.heap.size + 1, 2, none⟩ = some (.int .i64 z.a) ∧ w'.cell? ⟨w.heap.size + 1, 3, none⟩ = some (.int .u64 z.o) ∧ w'.cell? ⟨w.heap.size + 1, 4, none⟩ = some (.int .u64 z.v)) (go_keep)
      (first
        | (go_at_call 24; have _t := tok1; refine (run_two ws x z _ _ W _ (by repeat (first | exact Keep.refl _ _ | apply Keep.alloc | apply Keep.drew)) RW.out (by omega) hm HU.out HX.out HZW.out (by first | exact heap_alloc_new _ _ | exact alloc_old (heap_alloc_new _ _) _ | exact heap_alloc2 _ _ _)).mono ?_; rintro e w5 ⟨b1, F1, rfl, hm1, ho1, kc1, fc1⟩; clear tok1; have px0 := ho1.1.cell x0 (fun h => h); have px1 := ho1.1.cell x1 (fun h => h); have px2 := ho1.1.cell x2 (fun h => h); have px3 := ho1.1.cell x3 (fun h => h); have px4 := ho1.1.cell x4 (fun h => h); have pz0 := ho1.1.cell z0 (fun h => h); have pz1 := ho1.1.cell z1 (fun h => h); have pz2 := ho1.1.cell z2 (fun h => h); have pz3 := ho1.1.cell z3 (fun h => h); have pz4 := ho1.1.cell z4 (fun h => h))
        | (go_at_call 24; refine (run_two ws z x _ _ W _ (by repeat (first | exact ho1.1 | apply Keep.alloc | apply Keep.drew)) RW.out (by omega) hm HU.out HZW.out HX.out (by first | exact heap_alloc_new _ _ | exact kc1.at (alloc_old (heap_alloc_new _ _) _) (fun h => h) | exact kc1.at (heap_alloc2 _ _ _) (fun h => h))).mono ?_; rintro e w6 ⟨b2, F2, rfl, hm2, ho2, kc2, fc2⟩; have k56 : Keep Nil w5 w6 := Keep.trans (by repeat (first | exact Keep.refl _ _ | apply Keep.alloc | apply Keep.drew)) kc2 (fun _ _ h => h); have qx0 := ho2.1.cell x0 (fun h => h); have qx1 := ho2.1.cell x1 (fun h => h); have qx2 := ho2.1.cell x2 (fun h => h); have qx3 := ho2.1.cell x3 (fun h => h); have qx4 := ho2.1.cell x4 (fun h => h); have qz0 := ho2.1.cell z0 (fun h => h); have qz1 := ho2.1.cell z1 (fun h => h); have qz2 := ho2.1.cell z2 (fun h => h); have qz3 := ho2.1.cell z3 (fun h => h); have qz4 := ho2.1.cell z4 (fun h => h)))
    all_goals
      have HM1 := hid (hm1.keep k56 (fun _ _ h => h))
      have HM2 := hid hm2
      have KO := hid (KW.out.trans ho2.1 (fun _ _ h => h))
      have COM := hid (commute (ws := ws) (x := x) (y := z) (by omega) HZN.out)
      have hl1 := runM_log ws [x, z]
      have hl2 := runM_log ws [z, x]
      have hn1 := runM_length ws [x, z]
      have hn2 := runM_length ws [z, x]
      clear hm1 hm2 ho1 ho2 kc1 kc2 fc1 fc2 k56 px0 qx0 x0 px1 qx1 x1 px2 qx2 x2 px3 qx3 x3 px4 qx4 x4 pz0 qz0 z0 pz1 qz1 z1 pz2 qz2 z2 pz3 qz3 z3 pz4 qz4 z4
      obtain ⟨cu, hcu⟩ : ∃ cu, cu = (runM ws [x, z]).1 := ⟨_, rfl⟩
      obtain ⟨l1, hl1e⟩ : ∃ l1, l1 = (runM ws [x, z]).2 := ⟨_, rfl⟩
      obtain ⟨cv, hcv⟩ : ∃ cv, cv = (runM ws [z, x]).1 := ⟨_, rfl⟩
      obtain ⟨l2, hl2e⟩ : ∃ l2, l2 = (runM ws [z, x]).2 := ⟨_, rfl⟩
      rw [← hcu, ← hl1e] at HM1
      rw [← hcv, ← hl2e] at HM2
      rw [← hcu, ← hcv, ← hl1e, ← hl2e] at COM
      rw [← hl1e] at hl1
      rw [← hl2e] at hl2
      rw [← hcu] at hn1
      rw [← hcv] at hn2
      simp only [List.length_cons, List.length_nil] at hl1 hl2
      have HN1 := hid hn1
      have HN2 := hid hn2
      clear hcu hl1e hcv hl2e hn1 hn2
      obtain ⟨hcc, hlogs⟩ := COM.out
      subst hcc
      have HLL := hid hlogs
      have hlen : l1.length = l2.length := by rcases hlogs with ⟨p, q, rfl, rfl⟩ | ⟨_, rfl⟩ <;> rfl
      have HLEN := hid hlen
      have hlb : ((l1.length : Int) != l2.length) = false := by rw [hlen]; simp
      have hcu2 : cu.length ≤ 1000000000 := by have := HN1.out; omega
      clear hlogs hlen COM
      go_wp2_with fail
      refine (log_all HM1.out (by omega)).mono ?_
      rintro e w7 ⟨la1, lc1, rfl, rd1, k7, -⟩
      have HM2b := hid (HM2.out.keep k7 (fun _ _ h => h))
      have HM1b := hid (HM1.out.keep k7 (fun _ _ h => h))
      have K7 := hid k7
      have RD1 := hid rd1
      clear k7 rd1
      go_wp2_with fail
      refine (log_all HM2b.out (by omega)).mono ?_
      rintro e w8 ⟨la2, lc2, rfl, rd2, k8, -⟩
      have HM2c := hid (HM2b.out.keep k8 (fun _ _ h => h))
      have HM1c := hid (HM1b.out.keep k8 (fun _ _ h => h))
      have RD1b := hid (rd_keep RD1.out k8 (fun _ _ h => h))
      have RD2 := hid rd2
      have K8 := hid k8
      clear k8 rd2
      go_wp2_with fail
      refine (words_ok HM1c.out hcu2).mono ?_
      rintro e w9 ⟨g1, rfl, hg1, _, k9⟩
      have HM2d := hid (HM2c.out.keep k9 (fun _ _ h => h))
      have RG1 := hid (show Rd w9 1 (.slice (some ⟨g1, 0, none⟩) cu.length cu.length) cu.length (u64s cu) from rd_of_heap (size := 1) hg1 (by simp [length_u64s]))
      have K9 := hid k9
      clear k9 hg1
      go_wp2_with fail
      refine (words_ok HM2d.out hcu2).mono ?_
      rintro e w10 ⟨g2, rfl, hg2, _, k10⟩
      have RG2 := hid (show Rd w10 1 (.slice (some ⟨g2, 0, none⟩) cu.length cu.length) cu.length (u64s cu) from rd_of_heap (size := 1) hg2 (by simp [length_u64s]))
      have RG1b := hid (rd_keep RG1.out k10 (fun _ _ h => h))
      have K10 := hid k10
      clear k10 hg2
      go_wp2_with fail
      refine (eqU_yes _ _ cu _ RG1b.out RG2.out (by omega)).mono ?_
      rintro e w11 ⟨rfl, k11⟩
      have kz := (K9.out.trans K10.out (fun _ _ h => h)).trans k11 (fun _ _ h => h)
      have KZ := hid kz
      have r1 := rd_keep RD1b.out kz (fun _ _ h => h)
      have r2 := rd_keep RD2.out kz (fun _ _ h => h)
      have KK := hid (((KO.out.trans K7.out (fun _ _ h => h)).trans K8.out (fun _ _ h => h)).trans kz (fun _ _ h => h))
      clear k11 kz
      rcases HLL.out with ⟨p, q, rfl, rfl⟩ | ⟨hshort, rfl⟩
      · obtain ⟨g3, o3, c3, hv3, hc3⟩ := Rd.cell r1 (by simp)
        simp only [Value.slice.injEq] at hv3
        obtain ⟨rfl, -, rfl⟩ := hv3
        obtain ⟨g4, o4, c4, hv4, hc4⟩ := Rd.cell r2 (by simp)
        simp only [Value.slice.injEq] at hv4
        obtain ⟨rfl, -, rfl⟩ := hv4
        have m00 : w11.cell? ⟨g3, o3, none⟩ = some (.int .i64 p.t) := hc3 0 _ rfl
        have m01 : w11.cell? ⟨g3, o3 + 1, none⟩ = some (.int .i64 p.a) := hc3 1 _ rfl
        have m02 : w11.cell? ⟨g3, o3 + 2, none⟩ = some (.int .u8 p.k) := hc3 2 _ rfl
        have m03 : w11.cell? ⟨g3, o3 + 3, none⟩ = some (.int .u64 p.o) := hc3 3 _ rfl
        have m04 : w11.cell? ⟨g3, o3 + 4, none⟩ = some (.int .u64 p.n) := hc3 4 _ rfl
        have m05 : w11.cell? ⟨g3, o3 + 5, none⟩ = some (.bool p.s) := hc3 5 _ rfl
        have m10 : w11.cell? ⟨g3, o3 + 6, none⟩ = some (.int .i64 q.t) := hc3 6 _ rfl
        have m11 : w11.cell? ⟨g3, o3 + 6 + 1, none⟩ = some (.int .i64 q.a) := hc3 7 _ rfl
        have m12 : w11.cell? ⟨g3, o3 + 6 + 2, none⟩ = some (.int .u8 q.k) := hc3 8 _ rfl
        have m13 : w11.cell? ⟨g3, o3 + 6 + 3, none⟩ = some (.int .u64 q.o) := hc3 9 _ rfl
        have m14 : w11.cell? ⟨g3, o3 + 6 + 4, none⟩ = some (.int .u64 q.n) := hc3 10 _ rfl
        have m15 : w11.cell? ⟨g3, o3 + 6 + 5, none⟩ = some (.bool q.s) := hc3 11 _ rfl
        have n00 : w11.cell? ⟨g4, o4, none⟩ = some (.int .i64 q.t) := hc4 0 _ rfl
        have n01 : w11.cell? ⟨g4, o4 + 1, none⟩ = some (.int .i64 q.a) := hc4 1 _ rfl
        have n02 : w11.cell? ⟨g4, o4 + 2, none⟩ = some (.int .u8 q.k) := hc4 2 _ rfl
        have n03 : w11.cell? ⟨g4, o4 + 3, none⟩ = some (.int .u64 q.o) := hc4 3 _ rfl
        have n04 : w11.cell? ⟨g4, o4 + 4, none⟩ = some (.int .u64 q.n) := hc4 4 _ rfl
        have n05 : w11.cell? ⟨g4, o4 + 5, none⟩ = some (.bool q.s) := hc4 5 _ rfl
        have n10 : w11.cell? ⟨g4, o4 + 6, none⟩ = some (.int .i64 p.t) := hc4 6 _ rfl
        have n11 : w11.cell? ⟨g4, o4 + 6 + 1, none⟩ = some (.int .i64 p.a) := hc4 7 _ rfl
        have n12 : w11.cell? ⟨g4, o4 + 6 + 2, none⟩ = some (.int .u8 p.k) := hc4 8 _ rfl
        have n13 : w11.cell? ⟨g4, o4 + 6 + 3, none⟩ = some (.int .u64 p.o) := hc4 9 _ rfl
        have n14 : w11.cell? ⟨g4, o4 + 6 + 4, none⟩ = some (.int .u64 p.n) := hc4 10 _ rfl
        have n15 : w11.cell? ⟨g4, o4 + 6 + 5, none⟩ = some (.bool p.s) := hc4 11 _ rfl
        clear hc3 hc4 r1 r2
        go_wp2
        go_quiet (fail)
        go_wp2
        go_ret
        exact ⟨rfl, KK.out.drewN _⟩
      · have hs : decide ((l2.length : Int) < 2) = true := decide_eq_true (by omega)
        clear hshort r1 r2
        go_wp2
        go_quiet (fail)
        go_wp2
        go_ret
        exact ⟨rfl, KK.out.drewN _⟩

theorem walk_commute (w : World) (va : Value) (ws : List Int) (h1 : Rd w 1 va ws.length (u64s ws)) (b1 : ∀ n ∈ ws, (Lit.int .u64 n).wf = true) (m1 : ws.length ≤ maxLen)
    (x : Do) (hx : x.wf) (y : Do) (hy : y.wf) :
    Calls Try.prog 6 #[va, .agg x.cells.toArray, .agg y.cells.toArray] w fun e w' => e = .returned (.bool true) ∧ Keep Nil w w' := by
  unfold maxLen at m1
  by_cases hn1 : ws.length < 2
  · obtain ⟨a, c, rfl, -, -⟩ := h1
    have d1 : decide ((ws.length : Int) < 2) = true := decide_eq_true (by omega)
    clear hn1 b1 hx hy
    simp only [Do.cells]
    go_enter Try.func6, Try.ntmps6
    go_wp2
    go_ret
    exact ⟨rfl, ((Keep.refl _ _).alloc _).alloc _⟩
  by_cases hn2 : 300 < ws.length
  · obtain ⟨a, c, rfl, -, -⟩ := h1
    have d1 : decide ((ws.length : Int) < 2) = false := decide_eq_false (by omega)
    have d2 : decide (300 < (ws.length : Int)) = true := decide_eq_true (by omega)
    clear hn1 hn2 b1 hx hy
    simp only [Do.cells]
    go_enter Try.func6, Try.ntmps6
    go_wp2
    go_ret
    exact ⟨rfl, ((Keep.refl _ _).alloc _).alloc _⟩
  exact commute_ok va ws x y w h1 (by omega) (by omega) (fun v hv => U64.of_wf (b1 v hv)) hx hy
end Go.Proofs.Ytnfkjdmjgphghaa
