/- gate: the operations Enter and Wait: the states' functions: contracts. -/
import Derived.Test.YtldjlcdccnnogaaGreatGateOps
set_option linter.unusedVariables false
set_option linter.unusedSimpArgs false
namespace Go.Lf
open Go.RowKit
/-- A slice without its first element. -/
theorem rd_tail {w : World} {x : Value} {xs : List Value} {n : Nat} {a : Option Addr} {c : Nat} (h : Rd w 1 (.slice a (n + 1) c) (n + 1) (x :: xs)) : ∃ b off, a = some ⟨b, off, none⟩ ∧ w.cell? ⟨b, off, none⟩ = some x ∧ Rd w 1 (.slice (some ⟨b, off + 1, none⟩) n (c - 1)) n xs := by
  obtain ⟨b, off, c', hv, hc⟩ := Rd.cell h (by omega)
  simp only [Value.slice.injEq] at hv
  obtain ⟨rfl, -, rfl⟩ := hv
  obtain ⟨a', c'', hv', hl, -⟩ := h
  refine ⟨b, off, rfl, hc 0 x rfl, _, _, rfl, by simpa using hl, .inr (.inl ⟨b, off + 1, rfl, fun j u hu => ?_⟩)⟩
  have := hc (j + 1) u (by simpa using hu)
  rw [show off + 1 + j = off + (j + 1) by omega]
  exact this
end Go.Lf
namespace Go.Proofs.YtldjlcdccnnogaaGreat
open Go.RowKit Go.Lf

/-- What a wait does next, by the number of its state. -/
def gfn : Nat → Value
  | 0 => .func (.func 169) #[] #[]
  | 1 => .func (.func 174) #[] #[]
  | 2 => .func (.func 178) #[] #[]
  | 3 => .func (.func 181) #[] #[]
  | 4 => .func (.func 183) #[] #[]
  | 5 => .func (.func 184) #[] #[]
  | _ => .nilFunc
def gpc : Nat → Int
  | 0 => 2
  | 1 => 15
  | 2 => 19
  | 3 => 20
  | 4 => 19
  | 5 => 3
  | _ => 0
def GHead (w : World) (wb g : Nat) (t : Int) (lv lp : Value) (side : Int) (st : Nat) : Prop :=
  w.heap[wb]? = some (.cells #[ptr g, .int .i64 t, lv, lp, .int .u64 side, .int .u8 (gpc st), gfn st] 307 (0, 0))
abbrev bk4 (a : Int) : Value := .agg #[.int .i64 a, .int .i64 (a + 1), .int .i64 (a + 2), .int .i64 (a + 3)]
theorem GHead.cells {w : World} {wb g : Nat} {t : Int} {lv lp : Value} {side : Int} {st : Nat} (h : GHead w wb g t lv lp side st) :
    w.cell? ⟨wb, 0, none⟩ = some (ptr g) ∧ w.cell? ⟨wb, 1, none⟩ = some (.int .i64 t) ∧ w.cell? ⟨wb, 2, none⟩ = some lv ∧ w.cell? ⟨wb, 3, none⟩ = some lp ∧ w.cell? ⟨wb, 4, none⟩ = some (.int .u64 side) ∧ w.cell? ⟨wb, 5, none⟩ = some (.int .u8 (gpc st)) ∧ w.cell? ⟨wb, 6, none⟩ = some (gfn st) := by
  refine ⟨?_, ?_, ?_, ?_, ?_, ?_, ?_⟩ <;> (rw [cell_of h]; rfl)
theorem bki0 (A : Int) (W : World) : (Instr.index 295 (bk4 A) (.int .i64 0)).run Tryz.prog W = .ok (.int .i64 A) W := by
  obtain ⟨i, hi, hz, hsize, hby⟩ := info_parts infoInt
  simp [Instr.index, run_underlying Tryz.underlying295, part, sizeOf, typeInfo, hi, hsize, asIntOf, Result.andThen]
theorem bki3 (A : Int) (W : World) : (Instr.index 295 (bk4 A) (.int .i64 3)).run Tryz.prog W = .ok (.int .i64 (A + 3)) W := by
  obtain ⟨i, hi, hz, hsize, hby⟩ := info_parts infoInt
  simp [Instr.index, run_underlying Tryz.underlying295, part, sizeOf, typeInfo, hi, hsize, asIntOf, Result.andThen]
theorem bki1 (A : Int) (W : World) : (Instr.index 295 (bk4 A) (.int .u64 1)).run Tryz.prog W = .ok (.int .i64 (A + 1)) W := by
  obtain ⟨i, hi, hz, hsize, hby⟩ := info_parts infoInt
  simp [Instr.index, run_underlying Tryz.underlying295, part, sizeOf, typeInfo, hi, hsize, asIntOf, Result.andThen]
theorem bki2 (A : Int) (W : World) : (Instr.index 295 (bk4 A) (.int .u64 2)).run Tryz.prog W = .ok (.int .i64 (A + 2)) W := by
  obtain ⟨i, hi, hz, hsize, hby⟩ := info_parts infoInt
  simp [Instr.index, run_underlying Tryz.underlying295, part, sizeOf, typeInfo, hi, hsize, asIntOf, Result.andThen]
attribute [local go_sem] bki0 bki1 bki2 bki3
theorem nums_cons (b : Nat) (l : List Nat) : nums (b :: l) = .int .i64 b :: nums l := rfl

section
variable {w : World} {g mb wb : Nat} {F : Nat → Prop} {base : Int} {ws : List Int} {log : List Acc} {b : Nat} {rest : List Nat} {a : Option Addr} {c : Nat} {t side : Int}
set_option maxRecDepth 100000 in
set_option maxHeartbeats 2000000 in
theorem gwords0 (h0 : w.cell? ⟨wb, 0, none⟩ = some (ptr g)) (h2 : w.cell? ⟨wb, 2, none⟩ = some (.slice a (rest.length + 1) c)) (hr : Rd w 1 (.slice a (rest.length + 1) c) (rest.length + 1) (nums (b :: rest))) (hg : w.cell? ⟨g, 1, none⟩ = some (.int .i64 base)) (b0 : 0 ≤ base) (b1 : base < 1000000) (hb : b < 1000) :
    Calls Tryz.prog 168 #[ptr wb] w fun e w' => e = .returned (bk4 (base + 4 * b)) ∧ Keep Nil w w' := by
  rw [nums_cons] at hr
  obtain ⟨lb, off, rfl, hx, -⟩ := rd_tail hr
  have HG := hid hg
  have hp : decide ((0 : Int) < ((rest.length + 1 : Nat) : Int)) = true := decide_eq_true (by omega)
  have hp2 : 0 < rest.length + 1 := by omega
  clear hr hg
  go_enter Tryz.func168, Tryz.ntmps168
  go_wp2
  obtain ⟨W, hW⟩ : ∃ W, W = w.alloc (.cells #[.int .i64 0, .int .i64 0, .int .i64 0, .int .i64 0] 295) := ⟨_, rfl⟩
  rw [← hW]
  have kW : Keep Nil w W := by rw [hW]; exact (Keep.refl Nil w).alloc _
  have rW : W.heap[w.heap.size]? = some (.cells #[.int .i64 0, .int .i64 0, .int .i64 0, .int .i64 0] 295 (0, 0)) := by rw [hW]; exact heap_alloc_new w _
  have KD := hid ((Keep.refl Nil W).drew)
  have KW := hid kW
  have RW := hid rW
  have p0 := kW.cell h0 (fun h => h)
  have p2 := kW.cell h2 (fun h => h)
  have px := kW.cell hx (fun h => h)
  have HGW := hid (kW.cell HG.out (fun h => h))
  have z1 := World.block_lt_of_cell? w _ h0
  have z2 := World.block_lt_of_cell? w _ hx
  simp only at z1 z2
  have n1 : ¬ w.heap.size = wb := by omega
  have n2 : ¬ w.heap.size = lb := by omega
  have n3 : ¬ wb = w.heap.size := by omega
  have n4 : ¬ lb = w.heap.size := by omega
  clear hW kW rW h0 h2 hx HG z1 z2
  go_region_held3 (fun w' => w'.cell? ⟨wb, 0, none⟩ = some (.pointer (some ⟨g, 0, none⟩)) ∧ w'.cell? ⟨wb, 2, none⟩ = some (.slice (some ⟨lb, off, none⟩) (rest.length + 1) c) ∧ w'.cell? ⟨lb, off, none⟩ = some (.int .i64 b)) (go_keep)
    ((go_at_call 162; (with_reducible refine (gbucket_ok b (KD.out.cell HGW.out (fun h => h)) b0 b1 hb).mono ?_); rintro e w2 ⟨rfl, k2⟩; have q0 := (KD.out.trans k2 (fun _ _ h => h)).cell p0 (fun h => h); have q2 := (KD.out.trans k2 (fun _ _ h => h)).cell p2 (fun h => h); have qx := (KD.out.trans k2 (fun _ _ h => h)).cell px (fun h => h); have r2 := (KD.out.trans k2 (fun _ _ h => h)).at RW.out (fun h => h); have f0 := free_of r2 0; have f1 := free_of r2 1; have f2 := free_of r2 2; have f3 := free_of r2 3; have y0 := cell_of r2 0; have y1 := cell_of r2 1; have y2 := cell_of r2 2; have y3 := cell_of r2 3; have R2 := hid r2; have K2 := hid (KW.out.trans (KD.out.trans k2 (fun _ _ h => h)) (fun _ _ h => h)); clear k2 r2))
  (try simp only [Exit.inBlock, Exit.then])
  go_wp2
  have hh := set_same (i := 3) (set_same (i := 2) (set_same (i := 1) (set_same (i := 0) R2.out (.int .i64 (base + 4 * b))) (.int .i64 (base + 4 * b + 1))) (.int .i64 (base + 4 * b + 2))) (.int .i64 (base + 4 * b + 3))
  (try simp only [Exit.inBlock, Exit.then])
  refine bodyPost_ret (results_cell_row rfl _ _ w.heap.size _ _ (0, 0) _ rfl hh Tryz.underlying295 rfl sizeBk) rfl ?_
  exact ⟨rfl, Keep.setCell (Keep.setCell (Keep.setCell (Keep.setCell K2.out (.inr (Nat.le_refl _)) _) (.inr (Nat.le_refl _)) _) (.inr (Nat.le_refl _)) _) (.inr (Nat.le_refl _)) _⟩
/-! states -/
/-- Behind a step of a wait: the memory, and the wait's block. -/
def GStTo (w : World) (wb g mb : Nat) (F : Nat → Prop) (t : Int) (lv lp : Value) (side : Int) (st : Nat) (ws : List Int) (log : List Acc) (w' : World) : Prop :=
  ∃ F', MemAt w' mb F' ws log ∧ GHead w' wb g t lv lp side st ∧ Keep (fun k => F k ∨ k = wb) w w' ∧ Foot w F F'
theorem keep_set2 (w : World) (b : Nat) (u v : Value) : Keep (fun k => k = b) w ((w.setCell ⟨b, 0, none⟩ u).setCell ⟨b, 1, none⟩ v) :=
  Keep.setCell (S := fun k => k = b) (p := ⟨b, 1, none⟩) (Keep.setCell (S := fun k => k = b) (p := ⟨b, 0, none⟩) (Keep.refl _ w) (.inl rfl) u) (.inl rfl) v
theorem sizeState : (Tryz.prog.info? 305).map (·.size) = some 2 := by kernel_rfl
variable {st n r : Nat} {lp : Value}
set_option maxRecDepth 100000 in
set_option maxHeartbeats 4000000 in
theorem gdrained_ok (hm : MemAt w mb F ws log) (hw : GHead w wb g t (.slice a (rest.length + 1) c) lp side st) (hg : w.heap[g]? = some (.cells #[ptr mb, .int .i64 base, .int .i64 n, .map (some r)] 202 (0, 0))) (hr : Rd w 1 (.slice a (rest.length + 1) c) (rest.length + 1) (nums (b :: rest))) (fg : ¬ F g) (fw : ¬ F wb) (b0 : 0 ≤ base) (b1 : base < 1000000) (hb : b < 1000) (t0 : 0 ≤ t) (t1 : t < 64) (sd : Nat) (hsd : sd < 1000000) (x : Int) (hx : ws[(base + 4 * b + 1 + (sd % 2 : Nat)).toNat]? = some x) (hlog : log.length < 1000000000000) :
    Calls Tryz.prog 180 #[ptr wb, .int .u64 sd] w fun e w' => e = .returned (.bool (x == 0)) ∧ GStTo w wb g mb F t (.slice a (rest.length + 1) c) lp side st ws (log ++ [⟨t, base + 4 * b + 1 + (sd % 2 : Nat), 1, x, x, false⟩]) w' := by
  have HM := hid hm
  have HW := hid hw
  have HG := hid hg
  have HR := hid hr
  have FG := hid fg
  have FW := hid fw
  have nwg : ¬ wb = g := gtype_ne hw hg (by decide)
  have ngw : ¬ g = wb := fun e => nwg e.symm
  have HX := hid hx
  have LV := hid (hw.cells)
  obtain ⟨sm, hsm⟩ : ∃ sm, sm = sd % 2 := ⟨_, rfl⟩
  have sm2 : sm < 2 := by omega
  have hms : (sd : Int) % 2 = (sm : Int) := by omega
  rw [← hsm] at HX ⊢
  have HMS := hid hms
  have kW : Keep Nil w w := Keep.refl Nil w
  have zW : w.heap.size = w.heap.size := rfl
  have ZW := hid zW
  have KW := hid kW
  have p0 := (HW.out.cells).1
  have p1 := (HW.out.cells).2.1
  have pg : w.cell? ⟨g, 0, none⟩ = some (.pointer (some ⟨mb, 0, none⟩)) := by rw [cell_of HG.out]; rfl
  have pb : w.cell? ⟨g, 1, none⟩ = some (.int .i64 base) := by rw [cell_of HG.out]; rfl
  have P0 := hid (kW.cell p0 (fun h => h))
  have P1 := hid (kW.cell p1 (fun h => h))
  have PG := hid (kW.cell pg (fun h => h))
  have PB := hid (kW.cell pb (fun h => h))
  have P2 := hid (kW.cell (HW.out.cells).2.2.1 (fun h => h))
  have RR := hid (rd_keep HR.out kW (fun _ _ h => h))
  have KD := hid ((Keep.refl Nil w).drew)
  clear hm hw hg hr fg fw hx p0 p1 pg pb kW zW hsm hms
  obtain ⟨sd', hsd'⟩ : ∃ sd' : Int, sd' = (sd : Int) := ⟨_, rfl⟩
  rw [← hsd'] at HMS ⊢
  have sd0 : 0 ≤ sd' := by omega
  have sd1 : sd' < 1000000 := by omega
  have tm0 : sd'.tmod 2 = sd' % 2 := Int.tmod_eq_emod_of_nonneg sd0
  clear hsd'
  have sm01 : sm = 0 ∨ sm = 1 := by omega
  clear sm2
  rcases sm01 with rfl | rfl
  · have HX := hid (show ws[(base + 4 * b + 1).toNat]? = some x by have := HX.out; rw [show (base + 4 * (b : Int) + 1 + ((0 : Nat) : Int)) = base + 4 * b + 1 by omega] at this; exact this)
    rw [show (base + 4 * (b : Int) + 1 + ((0 : Nat) : Int)) = base + 4 * b + 1 by omega]
    have tm : sd'.tmod 2 = 0 := by have := HMS.out; omega
    have wr1 : IntKind.u64.wrap 1 = 1 := by rfl
    clear tm0
    go_enter Tryz.func180, Tryz.ntmps180
    go_wp2
    have s0 := P0.out
    have s1 := P1.out
    have sg := PG.out
    go_region_held3 (fun w' => w'.cell? ⟨wb, 0, none⟩ = some (.pointer (some ⟨g, 0, none⟩)) ∧ w'.cell? ⟨wb, 1, none⟩ = some (.int .i64 t) ∧ w'.cell? ⟨g, 0, none⟩ = some (.pointer (some ⟨mb, 0, none⟩))) (simp [*, World.cell?_setCell_other, World.cell?_alloc_some, World.cell?_setCell_far])
      (first
        | (go_at_call 168; (with_reducible refine (gwords0 (KD.out.cell P0.out (fun h => h)) (KD.out.cell P2.out (fun h => h)) (rd_keep RR.out KD.out (fun _ _ h => h)) (KD.out.cell PB.out (fun h => h)) b0 b1 hb).mono ?_); rintro e w2 ⟨rfl, k2⟩; have KB := hid (KD.out.trans k2 (fun _ _ h => h)); have q0 := KB.out.cell P0.out (fun h => h); have q1 := KB.out.cell P1.out (fun h => h); have qg := KB.out.cell PG.out (fun h => h); clear k2)
        | (go_at_call 177; (with_reducible refine (load_ok (HM.out.keep (KW.out.trans KB.out (fun _ _ h => h)) (fun _ _ h => h)) t (base + 4 * b + 1) x t0 t1 (by omega) HX.out hlog).mono ?_); rintro e w3 ⟨rfl, F3, hm3, k3, f3⟩; have KC := hid ((KB.out.mono (T := F) (fun _ _ h => h.elim)).trans k3 (fun _ _ h => h)); have u0 := KC.out.cell P0.out FW.out; have u1 := KC.out.cell P1.out FW.out; have ug := KC.out.cell PG.out FG.out; have M3 := hid hm3; have F3' := hid (show Foot w F F3 from fun k hF => (f3 k hF).elim .inl (fun h => .inr (by have := KB.out.size; have := KW.out.size; omega))); clear hm3 k3 f3))
    have HD := hid (show GHead w3 wb g t (.slice a (rest.length + 1) c) lp side st from (KC.out.at (KW.out.at HW.out (fun h => h)) FW.out))
    have KF := hid ((KW.out.mono (T := fun k => F k ∨ k = wb) (fun _ _ h => h.elim)).trans KC.out (fun _ _ h => .inl h))
    clear KC KB P0 P1 PG PB P2 RR KD s0 s1 sg q0 q1 qg u0 u1 ug
    go_wp2
    go_ret
    exact ⟨rfl, F3, M3.out, HD.out, KF.out, F3'.out⟩
  · have HX := hid (show ws[(base + 4 * b + 2).toNat]? = some x by have := HX.out; rw [show (base + 4 * (b : Int) + 1 + ((1 : Nat) : Int)) = base + 4 * b + 2 by omega] at this; exact this)
    rw [show (base + 4 * (b : Int) + 1 + ((1 : Nat) : Int)) = base + 4 * b + 2 by omega]
    have tm : sd'.tmod 2 = 1 := by have := HMS.out; omega
    have wr1 : IntKind.u64.wrap 2 = 2 := by rfl
    clear tm0
    go_enter Tryz.func180, Tryz.ntmps180
    go_wp2
    have s0 := P0.out
    have s1 := P1.out
    have sg := PG.out
    go_region_held3 (fun w' => w'.cell? ⟨wb, 0, none⟩ = some (.pointer (some ⟨g, 0, none⟩)) ∧ w'.cell? ⟨wb, 1, none⟩ = some (.int .i64 t) ∧ w'.cell? ⟨g, 0, none⟩ = some (.pointer (some ⟨mb, 0, none⟩))) (simp [*, World.cell?_setCell_other, World.cell?_alloc_some, World.cell?_setCell_far])
      (first
        | (go_at_call 168; (with_reducible refine (gwords0 (KD.out.cell P0.out (fun h => h)) (KD.out.cell P2.out (fun h => h)) (rd_keep RR.out KD.out (fun _ _ h => h)) (KD.out.cell PB.out (fun h => h)) b0 b1 hb).mono ?_); rintro e w2 ⟨rfl, k2⟩; have KB := hid (KD.out.trans k2 (fun _ _ h => h)); have q0 := KB.out.cell P0.out (fun h => h); have q1 := KB.out.cell P1.out (fun h => h); have qg := KB.out.cell PG.out (fun h => h); clear k2)
        | (go_at_call 177; (with_reducible refine (load_ok (HM.out.keep (KW.out.trans KB.out (fun _ _ h => h)) (fun _ _ h => h)) t (base + 4 * b + 2) x t0 t1 (by omega) HX.out hlog).mono ?_); rintro e w3 ⟨rfl, F3, hm3, k3, f3⟩; have KC := hid ((KB.out.mono (T := F) (fun _ _ h => h.elim)).trans k3 (fun _ _ h => h)); have u0 := KC.out.cell P0.out FW.out; have u1 := KC.out.cell P1.out FW.out; have ug := KC.out.cell PG.out FG.out; have M3 := hid hm3; have F3' := hid (show Foot w F F3 from fun k hF => (f3 k hF).elim .inl (fun h => .inr (by have := KB.out.size; have := KW.out.size; omega))); clear hm3 k3 f3))
    have HD := hid (show GHead w3 wb g t (.slice a (rest.length + 1) c) lp side st from (KC.out.at (KW.out.at HW.out (fun h => h)) FW.out))
    have KF := hid ((KW.out.mono (T := fun k => F k ∨ k = wb) (fun _ _ h => h.elim)).trans KC.out (fun _ _ h => .inl h))
    clear KC KB P0 P1 PG PB P2 RR KD s0 s1 sg q0 q1 qg u0 u1 ug
    go_wp2
    go_ret
    exact ⟨rfl, F3, M3.out, HD.out, KF.out, F3'.out⟩
theorem gst_mk {w w3 W' : World} {F3 : Nat → Prop} {ws' : List Int} {log' : List Acc} {lv : Value} (m3 : MemAt w3 mb F3 ws' log') (kc : Keep F w w3) (f3 : Foot w F F3) (fw : ¬ F wb) (hwb : wb < w.heap.size) (kW : Keep (fun k => k = wb ∨ (w.heap.size ≤ k ∧ ¬ F3 k)) w3 W') (hd : GHead W' wb g t lv lp side st) :
    GStTo w wb g mb F t lv lp side st ws' log' W' := by
  refine ⟨F3, m3.keep kW (fun k hk e => ?_), hd, (kc.mono (T := fun k => F k ∨ k = wb) (fun _ _ h => .inl h)).trans kW (fun k hk e => ?_), f3⟩
  · rcases e with rfl | ⟨e1, e2⟩
    · rcases f3 k hk with h | h
      · exact fw h
      · omega
    · exact e2 hk
  · rcases e with rfl | ⟨e1, e2⟩
    · exact .inr rfl
    · omega
/-- The value of a state. -/
abbrev stV (k : Nat) : Value := .agg #[.int .u8 (gpc k), gfn k]
set_option maxRecDepth 100000 in
set_option maxHeartbeats 4000000 in
theorem glooks_ok (hm : MemAt w mb F ws log) (hw : GHead w wb g t (.slice a (rest.length + 1) c) lp side st) (hg : w.heap[g]? = some (.cells #[ptr mb, .int .i64 base, .int .i64 n, .map (some r)] 202 (0, 0))) (hr : Rd w 1 (.slice a (rest.length + 1) c) (rest.length + 1) (nums (b :: rest))) (fg : ¬ F g) (fw : ¬ F wb) (b0 : 0 ≤ base) (b1 : base < 1000000) (hb : b < 1000) (t0 : 0 ≤ t) (t1 : t < 64) (x : Int) (hx : ws[(base + 4 * b).toNat]? = some x) (hlog : log.length < 1000000000000) :
    Calls Tryz.prog 174 #[ptr wb] w fun e w' => e = .returned (stV 2) ∧ GStTo w wb g mb F t (.slice a (rest.length + 1) c) lp x st ws (log ++ [⟨t, base + 4 * b, 1, x, x, false⟩]) w' := by
  have HM := hid hm
  have HW := hid hw
  have HG := hid hg
  have HR := hid hr
  have FG := hid fg
  have FW := hid fw
  have nwg : ¬ wb = g := gtype_ne hw hg (by decide)
  have ngw : ¬ g = wb := fun e => nwg e.symm
  have hwb := lt_of_block hw
  have HWB := hid hwb
  have nr1 : ¬ wb = w.heap.size := by omega
  have nr2 : ¬ w.heap.size = wb := by omega
  have NR := hid (show ¬ F w.heap.size from fun hF => absurd (hm.lt _ hF) (Nat.lt_irrefl _))
  have HX := hid hx
  clear hm hw hg hr fg fw hx
  go_enter Tryz.func174, Tryz.ntmps174
  go_wp2
  obtain ⟨W, hW⟩ : ∃ W, W = w.alloc (.cells #[.int .u8 0, .nilFunc] 305) := ⟨_, rfl⟩
  rw [← hW]
  have kW : Keep Nil w W := by rw [hW]; exact (Keep.refl Nil w).alloc _
  have RW := hid (show W.heap[w.heap.size]? = some (.cells #[.int .u8 0, .nilFunc] 305 (0, 0)) by rw [hW]; exact heap_alloc_new w _)
  have zW : W.heap.size = w.heap.size + 1 := by rw [hW]; simp
  have ZW := hid zW
  have KW := hid kW
  have p0 := (HW.out.cells).1
  have p1 := (HW.out.cells).2.1
  have pg : w.cell? ⟨g, 0, none⟩ = some (.pointer (some ⟨mb, 0, none⟩)) := by rw [cell_of HG.out]; rfl
  have pb : w.cell? ⟨g, 1, none⟩ = some (.int .i64 base) := by rw [cell_of HG.out]; rfl
  have P0 := hid (kW.cell p0 (fun h => h))
  have P1 := hid (kW.cell p1 (fun h => h))
  have PG := hid (kW.cell pg (fun h => h))
  have PB := hid (kW.cell pb (fun h => h))
  have P2 := hid (kW.cell (HW.out.cells).2.2.1 (fun h => h))
  have RR := hid (rd_keep HR.out kW (fun _ _ h => h))
  have KD := hid ((Keep.refl Nil W).drew)
  clear p0 p1 pg pb kW hW zW
  have s0 := P0.out
  have s1 := P1.out
  have sg := PG.out
  go_region_held3 (fun w' => w'.cell? ⟨wb, 0, none⟩ = some (.pointer (some ⟨g, 0, none⟩)) ∧ w'.cell? ⟨wb, 1, none⟩ = some (.int .i64 t) ∧ w'.cell? ⟨g, 0, none⟩ = some (.pointer (some ⟨mb, 0, none⟩))) (simp [*, World.cell?_setCell_other, World.cell?_alloc_some, World.cell?_setCell_far])
    (first
      | (go_at_call 168; (with_reducible refine (gwords0 (KD.out.cell P0.out (fun h => h)) (KD.out.cell P2.out (fun h => h)) (rd_keep RR.out KD.out (fun _ _ h => h)) (KD.out.cell PB.out (fun h => h)) b0 b1 hb).mono ?_); rintro e w2 ⟨rfl, k2⟩; have KB := hid (KD.out.trans k2 (fun _ _ h => h)); have q0 := KB.out.cell P0.out (fun h => h); have q1 := KB.out.cell P1.out (fun h => h); have qg := KB.out.cell PG.out (fun h => h); clear k2)
      | (go_at_call 177; (with_reducible refine (load_ok (HM.out.keep (KW.out.trans KB.out (fun _ _ h => h)) (fun _ _ h => h)) t (base + 4 * b) x t0 t1 (by omega) HX.out hlog).mono ?_); rintro e w3 ⟨rfl, F3, hm3, k3, f3⟩; have KC := hid ((KB.out.mono (T := F) (fun _ _ h => h.elim)).trans k3 (fun _ _ h => h)); have u0 := KC.out.cell P0.out FW.out; have u1 := KC.out.cell P1.out FW.out; have ug := KC.out.cell PG.out FG.out; have M3 := hid hm3; have F3' := hid (show Foot w F F3 from fun k hF => (f3 k hF).elim .inl (fun h => .inr (by have := KB.out.size; have := KW.out.size; omega))); have NR3 := hid (show ¬ F3 w.heap.size from fun hF => (f3 _ hF).elim NR.out (fun h => by have := KB.out.size; have := ZW.out; omega)); have r3 := KC.out.at RW.out NR.out; have x0 := cell_of r3 0; have x1 := cell_of r3 1; have y0 := free_of r3 0; have y1 := free_of r3 1; have R3 := hid r3; have hd3 := KC.out.at (KW.out.at HW.out (fun h => h)) FW.out; have v4 := cell_of hd3 4; have z4 := free_of hd3 4; have D3 := hid hd3; clear hd3 r3; clear hm3 k3 f3))
  clear KB P0 P1 PG PB P2 RR KD s0 s1 sg q0 q1 qg u0 u1 ug
  go_wp2
  (try simp only [Exit.inBlock, Exit.then])
  have hh := set_same (i := 1) (set_same (i := 0) (set_other (p := ⟨wb, 4, none⟩) R3.out nr2 (.int .u64 x)) (.int .u8 (gpc 2))) (gfn 2)
  refine bodyPost_ret (results_cell_row rfl _ _ w.heap.size _ _ (0, 0) _ rfl hh Tryz.underlying305 rfl sizeState) rfl ⟨rfl, ?_⟩
  refine gst_mk M3.out (KW.out.mono (T := F) (fun _ _ h => h.elim) |>.trans KC.out (fun _ _ h => h)) F3'.out FW.out HWB.out (Keep.setCell (Keep.setCell (Keep.setCell (Keep.refl _ _) (.inl (.inl rfl)) _) (.inl (.inr ⟨Nat.le_refl _, NR3.out⟩)) _) (.inl (.inr ⟨Nat.le_refl _, NR3.out⟩)) _) ?_
  exact set_other (p := ⟨w.heap.size, 1, none⟩) (set_other (p := ⟨w.heap.size, 0, none⟩) (set_same (i := 4) D3.out (.int .u64 x)) nr1 _) nr1 _
set_option maxRecDepth 100000 in
set_option maxHeartbeats 4000000 in
theorem gflips_ok (hm : MemAt w mb F ws log) (hw : GHead w wb g t (.slice a (rest.length + 1) c) lp side st) (hg : w.heap[g]? = some (.cells #[ptr mb, .int .i64 base, .int .i64 n, .map (some r)] 202 (0, 0))) (hr : Rd w 1 (.slice a (rest.length + 1) c) (rest.length + 1) (nums (b :: rest))) (fg : ¬ F g) (fw : ¬ F wb) (b0 : 0 ≤ base) (b1 : base < 1000000) (hb : b < 1000) (t0 : 0 ≤ t) (t1 : t < 64) (sN : Nat) (hsN : side = (sN : Int)) (hs1 : sN < 18446744073709551616) (x : Int) (hx : ws[(base + 4 * b).toNat]? = some x) (hlog : log.length < 1000000000000) :
    Calls Tryz.prog 181 #[ptr wb] w fun e w' => e = .returned (stV 4) ∧ GStTo w wb g mb F t (.slice a (rest.length + 1) c) lp side st (ws.set (base + 4 * b).toNat ((1 - sN % 2 : Nat) : Int)) (log ++ [⟨t, base + 4 * b, 2, x, ((1 - sN % 2 : Nat) : Int), false⟩]) w' := by
  have p4 := hw.cells.2.2.2.2.1
  have S0 : 0 ≤ side := by omega
  have S1 : side < 18446744073709551616 := by omega
  have HM := hid hm
  have HW := hid hw
  have HG := hid hg
  have HR := hid hr
  have FG := hid fg
  have FW := hid fw
  have nwg : ¬ wb = g := gtype_ne hw hg (by decide)
  have ngw : ¬ g = wb := fun e => nwg e.symm
  have hwb := lt_of_block hw
  have HWB := hid hwb
  have nr1 : ¬ wb = w.heap.size := by omega
  have nr2 : ¬ w.heap.size = wb := by omega
  have NR := hid (show ¬ F w.heap.size from fun hF => absurd (hm.lt _ hF) (Nat.lt_irrefl _))
  have HX := hid hx
  have tm0 : side.tmod 2 = side % 2 := Int.tmod_eq_emod_of_nonneg S0
  have wr1 : IntKind.u64.wrap 1 = 1 := rfl
  have wr0 : IntKind.u64.wrap 0 = 0 := rfl
  have sm01 : sN % 2 = 0 ∨ sN % 2 = 1 := by omega
  clear hm hw hg hr fg fw hx
  rcases sm01 with sm | sm
  · have tm : side.tmod 2 = 0 := by omega
    rw [sm]
    clear tm0 sm hsN
    go_enter Tryz.func181, Tryz.ntmps181
    go_wp2
    obtain ⟨W, hW⟩ : ∃ W, W = w.alloc (.cells #[.int .u8 0, .nilFunc] 305) := ⟨_, rfl⟩
    rw [← hW]
    have kW : Keep Nil w W := by rw [hW]; exact (Keep.refl Nil w).alloc _
    have RW := hid (show W.heap[w.heap.size]? = some (.cells #[.int .u8 0, .nilFunc] 305 (0, 0)) by rw [hW]; exact heap_alloc_new w _)
    have zW : W.heap.size = w.heap.size + 1 := by rw [hW]; simp
    have ZW := hid zW
    have KW := hid kW
    have p0 := (HW.out.cells).1
    have p1 := (HW.out.cells).2.1
    have pg : w.cell? ⟨g, 0, none⟩ = some (.pointer (some ⟨mb, 0, none⟩)) := by rw [cell_of HG.out]; rfl
    have pb : w.cell? ⟨g, 1, none⟩ = some (.int .i64 base) := by rw [cell_of HG.out]; rfl
    have P0 := hid (kW.cell p0 (fun h => h))
    have P1 := hid (kW.cell p1 (fun h => h))
    have PG := hid (kW.cell pg (fun h => h))
    have PB := hid (kW.cell pb (fun h => h))
    have P2 := hid (kW.cell (HW.out.cells).2.2.1 (fun h => h))
    have RR := hid (rd_keep HR.out kW (fun _ _ h => h))
    have KD := hid ((Keep.refl Nil W).drew)
    have P4 := hid (kW.cell p4 (fun h => h))
    have s4 := P4.out
    clear p0 p1 pg pb kW hW zW p4
    have s0 := P0.out
    have s1 := P1.out
    have sg := PG.out
    go_region_held3 (fun w' => w'.cell? ⟨wb, 0, none⟩ = some (.pointer (some ⟨g, 0, none⟩)) ∧ w'.cell? ⟨wb, 1, none⟩ = some (.int .i64 t) ∧ w'.cell? ⟨g, 0, none⟩ = some (.pointer (some ⟨mb, 0, none⟩)) ∧ w'.cell? ⟨wb, 4, none⟩ = some (.int .u64 side)) (simp [*, World.cell?_setCell_other, World.cell?_alloc_some, World.cell?_setCell_far])
      (first
        | (go_at_call 168; (with_reducible refine (gwords0 (KD.out.cell P0.out (fun h => h)) (KD.out.cell P2.out (fun h => h)) (rd_keep RR.out KD.out (fun _ _ h => h)) (KD.out.cell PB.out (fun h => h)) b0 b1 hb).mono ?_); rintro e w2 ⟨rfl, k2⟩; have KB := hid (KD.out.trans k2 (fun _ _ h => h)); have q0 := KB.out.cell P0.out (fun h => h); have q1 := KB.out.cell P1.out (fun h => h); have qg := KB.out.cell PG.out (fun h => h); have q4 := KB.out.cell P4.out (fun h => h); clear k2)
        | (go_at_call 135; (with_reducible refine (store_ok (HM.out.keep (KW.out.trans KB.out (fun _ _ h => h)) (fun _ _ h => h)) t (base + 4 * b) x (1) t0 t1 (by omega) HX.out hlog).mono ?_); rintro e w3 ⟨rfl, F3, hm3, k3, f3⟩; have KC := hid ((KB.out.mono (T := F) (fun _ _ h => h.elim)).trans k3 (fun _ _ h => h)); have u0 := KC.out.cell P0.out FW.out; have u1 := KC.out.cell P1.out FW.out; have ug := KC.out.cell PG.out FG.out; have u4 := KC.out.cell P4.out FW.out; have M3 := hid hm3; have F3' := hid (show Foot w F F3 from fun k hF => (f3 k hF).elim .inl (fun h => .inr (by have := KB.out.size; have := KW.out.size; omega))); have NR3 := hid (show ¬ F3 w.heap.size from fun hF => (f3 _ hF).elim NR.out (fun h => by have := KB.out.size; have := ZW.out; omega)); have r3 := KC.out.at RW.out NR.out; have x0 := cell_of r3 0; have x1 := cell_of r3 1; have y0 := free_of r3 0; have y1 := free_of r3 1; have R3 := hid r3; have hd3 := KC.out.at (KW.out.at HW.out (fun h => h)) FW.out; have v4 := cell_of hd3 4; have z4 := free_of hd3 4; have D3 := hid hd3; clear hd3 r3; clear hm3 k3 f3))
    clear KB P0 P1 PG PB P2 P4 RR KD s0 s1 sg s4 q0 q1 qg q4 u0 u1 ug u4
    go_wp2
    (try simp only [Exit.inBlock, Exit.then])
    have hh := set_same (i := 1) (set_same (i := 0) R3.out (.int .u8 (gpc 4))) (gfn 4)
    refine bodyPost_ret (results_cell_row rfl _ _ w.heap.size _ _ (0, 0) _ rfl hh Tryz.underlying305 rfl sizeState) rfl ⟨rfl, ?_⟩
    refine gst_mk M3.out (KW.out.mono (T := F) (fun _ _ h => h.elim) |>.trans KC.out (fun _ _ h => h)) F3'.out FW.out HWB.out (Keep.setCell (Keep.setCell (Keep.refl _ _) (.inl (.inr ⟨Nat.le_refl _, NR3.out⟩)) _) (.inl (.inr ⟨Nat.le_refl _, NR3.out⟩)) _) ?_
    exact set_other (p := ⟨w.heap.size, 1, none⟩) (set_other (p := ⟨w.heap.size, 0, none⟩) D3.out nr1 _) nr1 _
  · have tm : side.tmod 2 = 1 := by omega
    rw [sm]
    clear tm0 sm hsN
    go_enter Tryz.func181, Tryz.ntmps181
    go_wp2
    obtain ⟨W, hW⟩ : ∃ W, W = w.alloc (.cells #[.int .u8 0, .nilFunc] 305) := ⟨_, rfl⟩
    rw [← hW]
    have kW : Keep Nil w W := by rw [hW]; exact (Keep.refl Nil w).alloc _
    have RW := hid (show W.heap[w.heap.size]? = some (.cells #[.int .u8 0, .nilFunc] 305 (0, 0)) by rw [hW]; exact heap_alloc_new w _)
    have zW : W.heap.size = w.heap.size + 1 := by rw [hW]; simp
    have ZW := hid zW
    have KW := hid kW
    have p0 := (HW.out.cells).1
    have p1 := (HW.out.cells).2.1
    have pg : w.cell? ⟨g, 0, none⟩ = some (.pointer (some ⟨mb, 0, none⟩)) := by rw [cell_of HG.out]; rfl
    have pb : w.cell? ⟨g, 1, none⟩ = some (.int .i64 base) := by rw [cell_of HG.out]; rfl
    have P0 := hid (kW.cell p0 (fun h => h))
    have P1 := hid (kW.cell p1 (fun h => h))
    have PG := hid (kW.cell pg (fun h => h))
    have PB := hid (kW.cell pb (fun h => h))
    have P2 := hid (kW.cell (HW.out.cells).2.2.1 (fun h => h))
    have RR := hid (rd_keep HR.out kW (fun _ _ h => h))
    have KD := hid ((Keep.refl Nil W).drew)
    have P4 := hid (kW.cell p4 (fun h => h))
    have s4 := P4.out
    clear p0 p1 pg pb kW hW zW p4
    have s0 := P0.out
    have s1 := P1.out
    have sg := PG.out
    go_region_held3 (fun w' => w'.cell? ⟨wb, 0, none⟩ = some (.pointer (some ⟨g, 0, none⟩)) ∧ w'.cell? ⟨wb, 1, none⟩ = some (.int .i64 t) ∧ w'.cell? ⟨g, 0, none⟩ = some (.pointer (some ⟨mb, 0, none⟩)) ∧ w'.cell? ⟨wb, 4, none⟩ = some (.int .u64 side)) (simp [*, World.cell?_setCell_other, World.cell?_alloc_some, World.cell?_setCell_far])
      (first
        | (go_at_call 168; (with_reducible refine (gwords0 (KD.out.cell P0.out (fun h => h)) (KD.out.cell P2.out (fun h => h)) (rd_keep RR.out KD.out (fun _ _ h => h)) (KD.out.cell PB.out (fun h => h)) b0 b1 hb).mono ?_); rintro e w2 ⟨rfl, k2⟩; have KB := hid (KD.out.trans k2 (fun _ _ h => h)); have q0 := KB.out.cell P0.out (fun h => h); have q1 := KB.out.cell P1.out (fun h => h); have qg := KB.out.cell PG.out (fun h => h); have q4 := KB.out.cell P4.out (fun h => h); clear k2)
        | (go_at_call 135; (with_reducible refine (store_ok (HM.out.keep (KW.out.trans KB.out (fun _ _ h => h)) (fun _ _ h => h)) t (base + 4 * b) x (0) t0 t1 (by omega) HX.out hlog).mono ?_); rintro e w3 ⟨rfl, F3, hm3, k3, f3⟩; have KC := hid ((KB.out.mono (T := F) (fun _ _ h => h.elim)).trans k3 (fun _ _ h => h)); have u0 := KC.out.cell P0.out FW.out; have u1 := KC.out.cell P1.out FW.out; have ug := KC.out.cell PG.out FG.out; have u4 := KC.out.cell P4.out FW.out; have M3 := hid hm3; have F3' := hid (show Foot w F F3 from fun k hF => (f3 k hF).elim .inl (fun h => .inr (by have := KB.out.size; have := KW.out.size; omega))); have NR3 := hid (show ¬ F3 w.heap.size from fun hF => (f3 _ hF).elim NR.out (fun h => by have := KB.out.size; have := ZW.out; omega)); have r3 := KC.out.at RW.out NR.out; have x0 := cell_of r3 0; have x1 := cell_of r3 1; have y0 := free_of r3 0; have y1 := free_of r3 1; have R3 := hid r3; have hd3 := KC.out.at (KW.out.at HW.out (fun h => h)) FW.out; have v4 := cell_of hd3 4; have z4 := free_of hd3 4; have D3 := hid hd3; clear hd3 r3; clear hm3 k3 f3))
    clear KB P0 P1 PG PB P2 P4 RR KD s0 s1 sg s4 q0 q1 qg q4 u0 u1 ug u4
    go_wp2
    (try simp only [Exit.inBlock, Exit.then])
    have hh := set_same (i := 1) (set_same (i := 0) R3.out (.int .u8 (gpc 4))) (gfn 4)
    refine bodyPost_ret (results_cell_row rfl _ _ w.heap.size _ _ (0, 0) _ rfl hh Tryz.underlying305 rfl sizeState) rfl ⟨rfl, ?_⟩
    refine gst_mk M3.out (KW.out.mono (T := F) (fun _ _ h => h.elim) |>.trans KC.out (fun _ _ h => h)) F3'.out FW.out HWB.out (Keep.setCell (Keep.setCell (Keep.refl _ _) (.inl (.inr ⟨Nat.le_refl _, NR3.out⟩)) _) (.inl (.inr ⟨Nat.le_refl _, NR3.out⟩)) _) ?_
    exact set_other (p := ⟨w.heap.size, 1, none⟩) (set_other (p := ⟨w.heap.size, 0, none⟩) D3.out nr1 _) nr1 _
set_option maxRecDepth 100000 in
set_option maxHeartbeats 4000000 in
theorem gdrainsO_ok (hm : MemAt w mb F ws log) (hw : GHead w wb g t (.slice a (rest.length + 1) c) lp side st) (hg : w.heap[g]? = some (.cells #[ptr mb, .int .i64 base, .int .i64 n, .map (some r)] 202 (0, 0))) (hr : Rd w 1 (.slice a (rest.length + 1) c) (rest.length + 1) (nums (b :: rest))) (fg : ¬ F g) (fw : ¬ F wb) (b0 : 0 ≤ base) (b1 : base < 1000000) (hb : b < 1000) (t0 : 0 ≤ t) (t1 : t < 64) (sN : Nat) (hsN : side = (sN : Int)) (hs1 : sN < 100000) (x : Int) (hx : ws[(base + 4 * b + 1 + ((sN + 1) % 2 : Nat)).toNat]? = some x) (hlog : log.length < 1000000000000) :
    Calls Tryz.prog 178 #[ptr wb] w fun e w' => e = .returned (stV (if x = 0 then 3 else 2)) ∧ GStTo w wb g mb F t (.slice a (rest.length + 1) c) lp side st ws (log ++ [⟨t, base + 4 * b + 1 + ((sN + 1) % 2 : Nat), 1, x, x, false⟩]) w' := by
  have p4 := hw.cells.2.2.2.2.1
  have S0 : 0 ≤ side := by omega
  have S1 : side < 100000 := by omega
  have hwb := lt_of_block hw
  have HWB := hid hwb
  have nr1 : ¬ wb = w.heap.size := by omega
  have nr2 : ¬ w.heap.size = wb := by omega
  have NR := hid (show ¬ F w.heap.size from fun hF => absurd (hm.lt _ hF) (Nat.lt_irrefl _))
  have FW := hid fw
  have kW : Keep Nil w (w.alloc (.cells #[.int .u8 0, .nilFunc] 305)) := (Keep.refl Nil w).alloc _
  have rW := heap_alloc_new w (.cells #[.int .u8 0, .nilFunc] 305)
  have hc := gdrained_ok (hm.keep kW (fun _ _ h => h)) (show GHead _ wb g t (.slice a (rest.length + 1) c) lp side st from kW.at hw (fun h => h)) (kW.at hg (fun h => h)) (rd_keep hr kW (fun _ _ h => h)) fg fw b0 b1 hb t0 t1 (sN + 1) (by omega) x hx hlog
  rw [show (((sN + 1 : Nat)) : Int) = side + 1 by omega] at hc
  obtain ⟨ad, had⟩ : ∃ ad, ad = base + 4 * (b : Int) + 1 + (((sN + 1) % 2 : Nat) : Int) := ⟨_, rfl⟩
  rw [← had] at hc ⊢
  have p4W := kW.cell p4 (fun h => h)
  have HC := hid hc
  have RW := hid rW
  have ZW := hid (show (w.alloc (.cells #[.int .u8 0, .nilFunc] 305)).heap.size = w.heap.size + 1 by simp)
  have KW := hid kW
  clear hm hw hg hr fg fw hx hc rW kW had hsN hs1 hwb
  by_cases hx0 : x = 0
  · have d0 : (x == 0) = true := beq_iff_eq.2 hx0
    rw [if_pos hx0]
    rw [d0] at HC
    clear hx0 d0
    go_enter Tryz.func178, Tryz.ntmps178
    go_wp2_with fail
    refine HC.out.mono ?_
    rintro e w3 ⟨rfl, F3, m3, d3, k3, f3⟩
    have r3 := k3.at RW.out (fun e => e.elim NR.out (fun e => nr2 e))
    have x0 := cell_of r3 0
    have x1 := cell_of r3 1
    have y0 := free_of r3 0
    have y1 := free_of r3 1
    have NR3 := hid (show ¬ F3 w.heap.size from fun hF => (f3 _ hF).elim NR.out (fun h => by have := ZW.out; omega))
    have R3 := hid r3
    have M3 := hid m3
    have D3 := hid d3
    have K3 := hid k3
    have F3' := hid (show Foot w F F3 from fun k hF => (f3 k hF).elim .inl (fun h => .inr (by have := ZW.out; omega)))
    clear r3 m3 d3 k3 f3 HC
    go_wp2
    (try simp only [Exit.inBlock, Exit.then])
    have hh := set_same (i := 1) (set_same (i := 0) R3.out (.int .u8 (gpc 3))) (gfn 3)
    refine bodyPost_ret (results_cell_row rfl _ _ w.heap.size _ _ (0, 0) _ rfl hh Tryz.underlying305 rfl sizeState) rfl ⟨rfl, F3, M3.out.keep (S := fun k => k = w.heap.size) (keep_set2 w3 w.heap.size _ _) (fun k hk e => NR3.out (e ▸ hk)), ?_, ?_, F3'.out⟩
    · exact set_other (p := ⟨w.heap.size, 1, none⟩) (set_other (p := ⟨w.heap.size, 0, none⟩) D3.out nr1 _) nr1 _
    · exact ((KW.out.mono (T := fun k => F k ∨ k = wb) (fun _ _ h => h.elim)).trans K3.out (fun _ _ h => h)).setCell (.inr (Nat.le_refl _)) _ |>.setCell (.inr (Nat.le_refl _)) _
  · have d0 : (x == 0) = false := beq_eq_false_iff_ne.2 hx0
    rw [if_neg hx0]
    rw [d0] at HC
    clear hx0 d0
    go_enter Tryz.func178, Tryz.ntmps178
    go_wp2_with fail
    refine HC.out.mono ?_
    rintro e w3 ⟨rfl, F3, m3, d3, k3, f3⟩
    have r3 := k3.at RW.out (fun e => e.elim NR.out (fun e => nr2 e))
    have x0 := cell_of r3 0
    have x1 := cell_of r3 1
    have y0 := free_of r3 0
    have y1 := free_of r3 1
    have NR3 := hid (show ¬ F3 w.heap.size from fun hF => (f3 _ hF).elim NR.out (fun h => by have := ZW.out; omega))
    have R3 := hid r3
    have M3 := hid m3
    have D3 := hid d3
    have K3 := hid k3
    have F3' := hid (show Foot w F F3 from fun k hF => (f3 k hF).elim .inl (fun h => .inr (by have := ZW.out; omega)))
    clear r3 m3 d3 k3 f3 HC
    go_wp2
    (try simp only [Exit.inBlock, Exit.then])
    have hh := set_same (i := 1) (set_same (i := 0) R3.out (.int .u8 (gpc 2))) (gfn 2)
    refine bodyPost_ret (results_cell_row rfl _ _ w.heap.size _ _ (0, 0) _ rfl hh Tryz.underlying305 rfl sizeState) rfl ⟨rfl, F3, M3.out.keep (S := fun k => k = w.heap.size) (keep_set2 w3 w.heap.size _ _) (fun k hk e => NR3.out (e ▸ hk)), ?_, ?_, F3'.out⟩
    · exact set_other (p := ⟨w.heap.size, 1, none⟩) (set_other (p := ⟨w.heap.size, 0, none⟩) D3.out nr1 _) nr1 _
    · exact ((KW.out.mono (T := fun k => F k ∨ k = wb) (fun _ _ h => h.elim)).trans K3.out (fun _ _ h => h)).setCell (.inr (Nat.le_refl _)) _ |>.setCell (.inr (Nat.le_refl _)) _
set_option maxRecDepth 100000 in
set_option maxHeartbeats 4000000 in
theorem gdrains_ok (hm : MemAt w mb F ws log) (hw : GHead w wb g t (.slice a (rest.length + 1) c) lp side st) (hg : w.heap[g]? = some (.cells #[ptr mb, .int .i64 base, .int .i64 n, .map (some r)] 202 (0, 0))) (hr : Rd w 1 (.slice a (rest.length + 1) c) (rest.length + 1) (nums (b :: rest))) (fg : ¬ F g) (fw : ¬ F wb) (b0 : 0 ≤ base) (b1 : base < 1000000) (hb : b < 1000) (t0 : 0 ≤ t) (t1 : t < 64) (sN : Nat) (hsN : side = (sN : Int)) (hs1 : sN < 100000) (x : Int) (hx : ws[(base + 4 * b + 1 + ((sN) % 2 : Nat)).toNat]? = some x) (hlog : log.length < 1000000000000) :
    Calls Tryz.prog 183 #[ptr wb] w fun e w' => e = .returned (stV (if x = 0 then 5 else 4)) ∧ GStTo w wb g mb F t (.slice a (rest.length + 1) c) lp side st ws (log ++ [⟨t, base + 4 * b + 1 + ((sN) % 2 : Nat), 1, x, x, false⟩]) w' := by
  have p4 := hw.cells.2.2.2.2.1
  have S0 : 0 ≤ side := by omega
  have S1 : side < 100000 := by omega
  have hwb := lt_of_block hw
  have HWB := hid hwb
  have nr1 : ¬ wb = w.heap.size := by omega
  have nr2 : ¬ w.heap.size = wb := by omega
  have NR := hid (show ¬ F w.heap.size from fun hF => absurd (hm.lt _ hF) (Nat.lt_irrefl _))
  have FW := hid fw
  have kW : Keep Nil w (w.alloc (.cells #[.int .u8 0, .nilFunc] 305)) := (Keep.refl Nil w).alloc _
  have rW := heap_alloc_new w (.cells #[.int .u8 0, .nilFunc] 305)
  have hc := gdrained_ok (hm.keep kW (fun _ _ h => h)) (show GHead _ wb g t (.slice a (rest.length + 1) c) lp side st from kW.at hw (fun h => h)) (kW.at hg (fun h => h)) (rd_keep hr kW (fun _ _ h => h)) fg fw b0 b1 hb t0 t1 (sN) (by omega) x hx hlog
  rw [show (((sN : Nat)) : Int) = side by omega] at hc
  obtain ⟨ad, had⟩ : ∃ ad, ad = base + 4 * (b : Int) + 1 + (((sN) % 2 : Nat) : Int) := ⟨_, rfl⟩
  rw [← had] at hc ⊢
  have p4W := kW.cell p4 (fun h => h)
  have HC := hid hc
  have RW := hid rW
  have ZW := hid (show (w.alloc (.cells #[.int .u8 0, .nilFunc] 305)).heap.size = w.heap.size + 1 by simp)
  have KW := hid kW
  clear hm hw hg hr fg fw hx hc rW kW had hsN hs1 hwb
  by_cases hx0 : x = 0
  · have d0 : (x == 0) = true := beq_iff_eq.2 hx0
    rw [if_pos hx0]
    rw [d0] at HC
    clear hx0 d0
    go_enter Tryz.func183, Tryz.ntmps183
    go_wp2_with fail
    refine HC.out.mono ?_
    rintro e w3 ⟨rfl, F3, m3, d3, k3, f3⟩
    have r3 := k3.at RW.out (fun e => e.elim NR.out (fun e => nr2 e))
    have x0 := cell_of r3 0
    have x1 := cell_of r3 1
    have y0 := free_of r3 0
    have y1 := free_of r3 1
    have NR3 := hid (show ¬ F3 w.heap.size from fun hF => (f3 _ hF).elim NR.out (fun h => by have := ZW.out; omega))
    have R3 := hid r3
    have M3 := hid m3
    have D3 := hid d3
    have K3 := hid k3
    have F3' := hid (show Foot w F F3 from fun k hF => (f3 k hF).elim .inl (fun h => .inr (by have := ZW.out; omega)))
    clear r3 m3 d3 k3 f3 HC
    go_wp2
    (try simp only [Exit.inBlock, Exit.then])
    have hh := set_same (i := 1) (set_same (i := 0) R3.out (.int .u8 (gpc 5))) (gfn 5)
    refine bodyPost_ret (results_cell_row rfl _ _ w.heap.size _ _ (0, 0) _ rfl hh Tryz.underlying305 rfl sizeState) rfl ⟨rfl, F3, M3.out.keep (S := fun k => k = w.heap.size) (keep_set2 w3 w.heap.size _ _) (fun k hk e => NR3.out (e ▸ hk)), ?_, ?_, F3'.out⟩
    · exact set_other (p := ⟨w.heap.size, 1, none⟩) (set_other (p := ⟨w.heap.size, 0, none⟩) D3.out nr1 _) nr1 _
    · exact ((KW.out.mono (T := fun k => F k ∨ k = wb) (fun _ _ h => h.elim)).trans K3.out (fun _ _ h => h)).setCell (.inr (Nat.le_refl _)) _ |>.setCell (.inr (Nat.le_refl _)) _
  · have d0 : (x == 0) = false := beq_eq_false_iff_ne.2 hx0
    rw [if_neg hx0]
    rw [d0] at HC
    clear hx0 d0
    go_enter Tryz.func183, Tryz.ntmps183
    go_wp2_with fail
    refine HC.out.mono ?_
    rintro e w3 ⟨rfl, F3, m3, d3, k3, f3⟩
    have r3 := k3.at RW.out (fun e => e.elim NR.out (fun e => nr2 e))
    have x0 := cell_of r3 0
    have x1 := cell_of r3 1
    have y0 := free_of r3 0
    have y1 := free_of r3 1
    have NR3 := hid (show ¬ F3 w.heap.size from fun hF => (f3 _ hF).elim NR.out (fun h => by have := ZW.out; omega))
    have R3 := hid r3
    have M3 := hid m3
    have D3 := hid d3
    have K3 := hid k3
    have F3' := hid (show Foot w F F3 from fun k hF => (f3 k hF).elim .inl (fun h => .inr (by have := ZW.out; omega)))
    clear r3 m3 d3 k3 f3 HC
    go_wp2
    (try simp only [Exit.inBlock, Exit.then])
    have hh := set_same (i := 1) (set_same (i := 0) R3.out (.int .u8 (gpc 4))) (gfn 4)
    refine bodyPost_ret (results_cell_row rfl _ _ w.heap.size _ _ (0, 0) _ rfl hh Tryz.underlying305 rfl sizeState) rfl ⟨rfl, F3, M3.out.keep (S := fun k => k = w.heap.size) (keep_set2 w3 w.heap.size _ _) (fun k hk e => NR3.out (e ▸ hk)), ?_, ?_, F3'.out⟩
    · exact set_other (p := ⟨w.heap.size, 1, none⟩) (set_other (p := ⟨w.heap.size, 0, none⟩) D3.out nr1 _) nr1 _
    · exact ((KW.out.mono (T := fun k => F k ∨ k = wb) (fun _ _ h => h.elim)).trans K3.out (fun _ _ h => h)).setCell (.inr (Nat.le_refl _)) _ |>.setCell (.inr (Nat.le_refl _)) _
/-- Behind a try of the latch. -/
def GLkTo (w : World) (wb lb g mb : Nat) (F : Nat → Prop) (t : Int) (lv : Value) (side : Int) (st : Nat) (s : LS) (ws : List Int) (log : List Acc) (w' : World) : Prop :=
  ∃ F', MemAt w' mb F' ws log ∧ GHead w' wb g t lv (ptr lb) side st ∧ LockAt w' lb mb s ∧ Keep (fun k => F k ∨ k = lb) w w' ∧ Foot w F F'
set_option maxRecDepth 100000 in
set_option maxHeartbeats 4000000 in
theorem glocks_any {lv : Value} {lb : Nat} (hm : MemAt w mb F ws log) (hw : GHead w wb g t lv (ptr lb) side st) (s : LS) (hl : LockAt w lb mb s) (hlive : s.live = true) (fw : ¬ F wb) (fl : ¬ F lb) (ht0 : 0 ≤ s.t) (ht1 : s.t < 64) (ha0 : 0 ≤ s.a) (x : Int) (hx : ws[s.a.toNat]? = some x) (f0 : 0 ≤ s.f) (f1 : s.f < 1000000000) (htr : s.tries = 0) (hlog : log.length < 1000000000000) :
    Calls Tryz.prog 169 #[ptr wb] w fun e w' => e = .returned (stV (if x = 0 then 1 else 0)) ∧
      GLkTo w wb lb g mb F t lv side st (if x = 0 then { s with live := false } else { s with f := s.f + 1 }) (if x = 0 then ws.set s.a.toNat (s.t + 1) else ws) (log ++ [if x = 0 then ⟨s.t, s.a, 4, 0, s.t + 1, true⟩ else ⟨s.t, s.a, 4, x, x, false⟩]) w' := by
  have p3 := hw.cells.2.2.2.1
  have hwb := lt_of_block hw
  have hlb := lt_of_block hl
  have nr1 : ¬ wb = w.heap.size := by omega
  have nl : ¬ w.heap.size = lb := by omega
  have nwl : ¬ wb = lb := gtype_ne hw hl (by decide)
  have NR := hid (show ¬ F w.heap.size from fun hF => absurd (hm.lt _ hF) (Nat.lt_irrefl _))
  have FW := hid fw
  have kW : Keep Nil w (w.alloc (.cells #[.int .u8 0, .nilFunc] 305)) := (Keep.refl Nil w).alloc _
  have rW := heap_alloc_new w (.cells #[.int .u8 0, .nilFunc] 305)
  have hlW : LockAt _ lb mb s := hl.keep kW (fun h => h)
  have hmW := hm.keep kW (fun _ _ h => h)
  have p3W := kW.cell p3 (fun h => h)
  have RW := hid rW
  have ZW := hid (show (w.alloc (.cells #[.int .u8 0, .nilFunc] 305)).heap.size = w.heap.size + 1 by simp)
  have KW := hid kW
  have DW := hid (show GHead _ wb g t lv (ptr lb) side st from kW.at hw (fun h => h))
  by_cases hx0 : x = 0
  · subst hx0
    simp only [if_pos]
    have hc := lstep_yes hmW s hlW hlive fl ht0 ht1 ha0 hx hlog
    have HC := hid hc
    clear hm hw hl fw hx hc rW kW hwb hlb hlW hmW hlive fl ht0 ht1 ha0 f0 f1 htr
    go_enter Tryz.func169, Tryz.ntmps169
    go_wp2_with fail
    refine HC.out.mono ?_
    rintro e w3 ⟨rfl, F3, m3, l3, n3, k3, f3⟩
    have r3 := k3.at RW.out (fun e => e.elim NR.out (fun e => nl e))
    have x0 := cell_of r3 0
    have x1 := cell_of r3 1
    have y0 := free_of r3 0
    have y1 := free_of r3 1
    have NR3 := hid (show ¬ F3 w.heap.size from fun hF => (f3 _ hF).elim NR.out (fun h => by have := ZW.out; omega))
    have R3 := hid r3
    have M3 := hid m3
    have D3 := hid (show GHead w3 wb g t lv (ptr lb) side st from k3.at DW.out (fun e => e.elim FW.out (fun e => nwl e)))
    have L3 := hid l3
    have N3 := hid n3
    have K3 := hid k3
    have F3' := hid (show Foot w F F3 from fun k hF => (f3 k hF).elim .inl (fun h => .inr (by have := ZW.out; omega)))
    clear r3 m3 k3 f3 l3 n3 HC
    go_wp2
    (try simp only [Exit.inBlock, Exit.then])
    have hh := set_same (i := 1) (set_same (i := 0) R3.out (.int .u8 (gpc 1))) (gfn 1)
    refine bodyPost_ret (results_cell_row rfl _ _ w.heap.size _ _ (0, 0) _ rfl hh Tryz.underlying305 rfl sizeState) rfl ⟨rfl, F3, M3.out.keep (S := fun k => k = w.heap.size) (keep_set2 w3 w.heap.size _ _) (fun k hk e => NR3.out (e ▸ hk)), ?_, ?_, ?_, F3'.out⟩
    · exact set_other (p := ⟨w.heap.size, 1, none⟩) (set_other (p := ⟨w.heap.size, 0, none⟩) D3.out nr1 _) nr1 _
    · exact L3.out.keep (keep_set2 w3 w.heap.size _ _) (fun e => nl e.symm)
    · exact ((KW.out.mono (T := fun k => F k ∨ k = lb) (fun _ _ h => h.elim)).trans K3.out (fun _ _ h => h)).setCell (.inr (Nat.le_refl _)) _ |>.setCell (.inr (Nat.le_refl _)) _
  · simp only [if_neg hx0]
    have hc := lstep_no hmW s hlW hlive fl ht0 ht1 ha0 x hx hx0 f0 f1 hlog
    have hst : s.step x = { s with f := s.f + 1 } := by
      unfold LS.step
      rw [if_neg hx0, if_neg (by omega)]
    have hd : (s.f + 1 == s.tries) = false := beq_eq_false_iff_ne.2 (by omega)
    rw [hst, hd] at hc
    have HC := hid hc
    clear hm hw hl fw hx hc rW kW hwb hlb hlW hmW hlive fl ht0 ht1 ha0 f0 f1 htr hst hd hx0
    go_enter Tryz.func169, Tryz.ntmps169
    go_wp2_with fail
    refine HC.out.mono ?_
    rintro e w3 ⟨rfl, F3, m3, l3, n3, k3, f3⟩
    have r3 := k3.at RW.out (fun e => e.elim NR.out (fun e => nl e))
    have x0 := cell_of r3 0
    have x1 := cell_of r3 1
    have y0 := free_of r3 0
    have y1 := free_of r3 1
    have NR3 := hid (show ¬ F3 w.heap.size from fun hF => (f3 _ hF).elim NR.out (fun h => by have := ZW.out; omega))
    have R3 := hid r3
    have M3 := hid m3
    have D3 := hid (show GHead w3 wb g t lv (ptr lb) side st from k3.at DW.out (fun e => e.elim FW.out (fun e => nwl e)))
    have L3 := hid l3
    have N3 := hid n3
    have K3 := hid k3
    have F3' := hid (show Foot w F F3 from fun k hF => (f3 k hF).elim .inl (fun h => .inr (by have := ZW.out; omega)))
    clear r3 m3 k3 f3 l3 n3 HC
    go_wp2
    (try simp only [Exit.inBlock, Exit.then])
    have hh := set_same (i := 1) (set_same (i := 0) R3.out (.int .u8 (gpc 0))) (gfn 0)
    refine bodyPost_ret (results_cell_row rfl _ _ w.heap.size _ _ (0, 0) _ rfl hh Tryz.underlying305 rfl sizeState) rfl ⟨rfl, F3, M3.out.keep (S := fun k => k = w.heap.size) (keep_set2 w3 w.heap.size _ _) (fun k hk e => NR3.out (e ▸ hk)), ?_, ?_, ?_, F3'.out⟩
    · exact set_other (p := ⟨w.heap.size, 1, none⟩) (set_other (p := ⟨w.heap.size, 0, none⟩) D3.out nr1 _) nr1 _
    · exact L3.out.keep (keep_set2 w3 w.heap.size _ _) (fun e => nl e.symm)
    · exact ((KW.out.mono (T := fun k => F k ∨ k = lb) (fun _ _ h => h.elim)).trans K3.out (fun _ _ h => h)).setCell (.inr (Nat.le_refl _)) _ |>.setCell (.inr (Nat.le_refl _)) _
/-- A slice that a wait owns. -/
def LvAt (w : World) (lv : Value) (l : List Nat) : Prop := ∃ a c, lv = .slice a l.length c ∧ Rd w 1 lv l.length (nums l) ∧ l.length ≤ c
theorem LvAt.keep {w w' : World} {S : Nat → Prop} {lv : Value} {l : List Nat} (h : LvAt w lv l) (hk : Keep S w w') (hn : ∀ k, lv.ownBlock = some k → ¬ S k) : LvAt w' lv l := by
  obtain ⟨a, c, rfl, h1, h2⟩ := h
  exact ⟨a, c, rfl, rd_keep h1 hk hn, h2⟩
def GBeg (w : World) (wb g mb : Nat) (t : Int) (lv : Value) (side : Int) (st : Nat) (base : Int) (left : List Nat) (w' : World) : Prop :=
  ∃ lp', GHead w' wb g t lv lp' side st ∧ Keep (fun k => k = wb) w w' ∧ ∀ (b : Nat) (r : List Nat), left = b :: r → ∃ lb, lp' = ptr lb ∧ w.heap.size ≤ lb ∧ LockAt w' lb mb ⟨0, 0, t, base + 4 * b + 3, true, 0⟩
set_option maxRecDepth 100000 in
set_option maxHeartbeats 4000000 in
theorem gbegin_nil {a : Option Addr} {c : Nat} (hw : GHead w wb g t (.slice a 0 c) lp side st) : Calls Tryz.prog 165 #[ptr wb] w fun e w' => e = .returned (stV 6) ∧ GBeg w wb g mb t (.slice a 0 c) side st base [] w' := by
  have p2 := hw.cells.2.2.1
  have hwb := lt_of_block hw
  have nr1 : ¬ wb = w.heap.size := by omega
  have kW : Keep Nil w (w.alloc (.cells #[.int .u8 0, .nilFunc] 305)) := (Keep.refl Nil w).alloc _
  have rW := heap_alloc_new w (.cells #[.int .u8 0, .nilFunc] 305)
  have p2W := kW.cell p2 (fun h => h)
  have DW := hid (show GHead _ wb g t (.slice a 0 c) lp side st from kW.at hw (fun h => h))
  have x0 := cell_of rW 0
  have x1 := cell_of rW 1
  have y0 := free_of rW 0
  have y1 := free_of rW 1
  have RW := hid rW
  have KW := hid kW
  clear hw hwb kW rW p2
  go_enter Tryz.func165, Tryz.ntmps165
  go_wp2
  (try simp only [Exit.inBlock, Exit.then])
  refine bodyPost_ret (results_cell_row rfl _ _ w.heap.size _ _ (0, 0) _ rfl RW.out Tryz.underlying305 rfl sizeState) rfl ⟨rfl, lp, DW.out, KW.out.mono (T := fun k => k = wb) (fun _ _ h => h.elim), fun b r h => by cases h⟩
set_option maxRecDepth 100000 in
set_option maxHeartbeats 4000000 in
theorem gbegin_ok (hm : MemAt w mb F ws log) (hw : GHead w wb g t (.slice a (rest.length + 1) c) lp side st) (hg : w.heap[g]? = some (.cells #[ptr mb, .int .i64 base, .int .i64 n, .map (some r)] 202 (0, 0))) (hr : Rd w 1 (.slice a (rest.length + 1) c) (rest.length + 1) (nums (b :: rest))) (b0 : 0 ≤ base) (b1 : base < 1000000) (hb : b < 1000) (he : lckErr t (base + 4 * b + 3) 0 ws.length = 0) :
    Calls Tryz.prog 165 #[ptr wb] w fun e w' => e = .returned (stV 0) ∧ GBeg w wb g mb t (.slice a (rest.length + 1) c) side st base (b :: rest) w' := by
  have HM := hid hm
  have HW := hid hw
  have HG := hid hg
  have HR := hid hr
  have nwg : ¬ wb = g := gtype_ne hw hg (by decide)
  have ngw : ¬ g = wb := fun e => nwg e.symm
  have p2 := hid hw.cells.2.2.1
  have lz : ((rest.length + 1 : Nat) : Int) ≠ 0 := by omega
  have dl : (((rest.length + 1 : Nat) : Int) == 0) = false := beq_eq_false_iff_ne.2 lz
  have dl2 : (((rest.length : Int) + 1) == 0) = false := beq_eq_false_iff_ne.2 (by omega)
  have p2' := hw.cells.2.2.1
  clear lz
  have hwb := lt_of_block hw
  have HWB := hid hwb
  have nr1 : ¬ wb = w.heap.size := by omega
  have nr2 : ¬ w.heap.size = wb := by omega
  have HE := hid he
  clear hm hw hg hr he
  go_enter Tryz.func165, Tryz.ntmps165
  have p2W := ((Keep.refl Nil w).alloc (.cells #[.int .u8 0, .nilFunc] 305)).cell p2' (fun h => h)
  go_wp2
  clear p2W p2'
  obtain ⟨W, hW⟩ : ∃ W, W = w.alloc (.cells #[.int .u8 0, .nilFunc] 305) := ⟨_, rfl⟩
  rw [← hW]
  have kW : Keep Nil w W := by rw [hW]; exact (Keep.refl Nil w).alloc _
  have RW := hid (show W.heap[w.heap.size]? = some (.cells #[.int .u8 0, .nilFunc] 305 (0, 0)) by rw [hW]; exact heap_alloc_new w _)
  have zW : W.heap.size = w.heap.size + 1 := by rw [hW]; simp
  have ZW := hid zW
  have KW := hid kW
  have p0 := (HW.out.cells).1
  have p1 := (HW.out.cells).2.1
  have pg : w.cell? ⟨g, 0, none⟩ = some (.pointer (some ⟨mb, 0, none⟩)) := by rw [cell_of HG.out]; rfl
  have pb : w.cell? ⟨g, 1, none⟩ = some (.int .i64 base) := by rw [cell_of HG.out]; rfl
  have P0 := hid (kW.cell p0 (fun h => h))
  have P1 := hid (kW.cell p1 (fun h => h))
  have PG := hid (kW.cell pg (fun h => h))
  have PB := hid (kW.cell pb (fun h => h))
  have P2 := hid (kW.cell (HW.out.cells).2.2.1 (fun h => h))
  have RR := hid (rd_keep HR.out kW (fun _ _ h => h))
  have KD := hid ((Keep.refl Nil W).drew)
  clear p0 p1 pg pb kW hW zW
  have s0 := P0.out
  have s1 := P1.out
  have sg := PG.out
  go_region_held3 (fun w' => w'.cell? ⟨wb, 0, none⟩ = some (.pointer (some ⟨g, 0, none⟩)) ∧ w'.cell? ⟨wb, 1, none⟩ = some (.int .i64 t) ∧ w'.cell? ⟨g, 0, none⟩ = some (.pointer (some ⟨mb, 0, none⟩))) (simp [*, World.cell?_setCell_other, World.cell?_alloc_some, World.cell?_setCell_far])
    (first
      | (go_at_call 168; (with_reducible refine (gwords0 (KD.out.cell P0.out (fun h => h)) (KD.out.cell P2.out (fun h => h)) (rd_keep RR.out KD.out (fun _ _ h => h)) (KD.out.cell PB.out (fun h => h)) b0 b1 hb).mono ?_); rintro e w2 ⟨rfl, k2⟩; have KB := hid (KD.out.trans k2 (fun _ _ h => h)); have q0 := KB.out.cell P0.out (fun h => h); have q1 := KB.out.cell P1.out (fun h => h); have qg := KB.out.cell PG.out (fun h => h); clear k2)
      | (go_at_call 167; (with_reducible refine (lnew_ok (HM.out.keep (KW.out.trans KB.out (fun _ _ h => h)) (fun _ _ h => h)) t (base + 4 * b + 3) 0 HE.out).mono ?_); rintro e w3 ⟨rfl, l3, k3, z3⟩; have KC := hid (KB.out.trans k3 (fun _ _ h => h)); have u0 := KC.out.cell P0.out (fun h => h); have u1 := KC.out.cell P1.out (fun h => h); have ug := KC.out.cell PG.out (fun h => h); have r3 := KC.out.at RW.out (fun h => h); have x0 := cell_of r3 0; have x1 := cell_of r3 1; have y0 := free_of r3 0; have y1 := free_of r3 1; have R3 := hid r3; have hd3 := KC.out.at (KW.out.at HW.out (fun h => h)) (fun h => h); have v3 := cell_of hd3 3; have z3' := free_of hd3 3; have D3 := hid hd3; have L3 := hid l3; have Z2 := hid (show w.heap.size < w2.heap.size by have := KB.out.size; have := ZW.out; omega); clear hd3 r3 l3 k3 z3))
  clear KB P0 P1 PG PB P2 RR KD s0 s1 sg q0 q1 qg u0 u1 ug
  obtain ⟨lb, hlb⟩ : ∃ lb, lb = w2.heap.size := ⟨_, rfl⟩
  rw [← hlb] at L3 Z2 ⊢
  have HLB := hid hlb
  clear hlb
  go_wp2
  (try simp only [Exit.inBlock, Exit.then])
  have hh := set_same (i := 1) (set_same (i := 0) (set_other (p := ⟨wb, 3, none⟩) R3.out nr2 (ptr lb)) (.int .u8 (gpc 0))) (gfn 0)
  have nl1 : lb ≠ w.heap.size := by have := Z2.out; omega
  have nl2 : lb ≠ wb := by have := Z2.out; have := HWB.out; omega
  refine bodyPost_ret (results_cell_row rfl _ _ w.heap.size _ _ (0, 0) _ rfl hh Tryz.underlying305 rfl sizeState) rfl ⟨rfl, ptr lb, ?_, ?_, fun b' r' h => ⟨lb, rfl, by have := Z2.out; omega, ?_⟩⟩
  · exact set_other (p := ⟨w.heap.size, 1, none⟩) (set_other (p := ⟨w.heap.size, 0, none⟩) (set_same (i := 3) D3.out (ptr lb)) nr1 _) nr1 _
  · exact ((KW.out.mono (T := fun k => k = wb) (fun _ _ h => h.elim)).trans (KC.out.mono (T := fun k => k = wb) (fun _ _ h => h.elim)) (fun _ _ h => h)).setCell (p := ⟨wb, 3, none⟩) (.inl rfl) _ |>.setCell (p := ⟨w.heap.size, 0, none⟩) (.inr (Nat.le_refl _)) _ |>.setCell (p := ⟨w.heap.size, 1, none⟩) (.inr (Nat.le_refl _)) _
  · cases h
    exact set_other (p := ⟨w.heap.size, 1, none⟩) (set_other (p := ⟨w.heap.size, 0, none⟩) (set_other (p := ⟨wb, 3, none⟩) L3.out nl2 _) nl1 _) nl1 _
theorem gbegin_any {lv : Value} {left : List Nat} (hm : MemAt w mb F ws log) (hw : GHead w wb g t lv lp side st) (hg : w.heap[g]? = some (.cells #[ptr mb, .int .i64 base, .int .i64 n, .map (some r)] 202 (0, 0))) (hl : LvAt w lv left) (b0 : 0 ≤ base) (b1 : base < 1000000) (hb : ∀ b ∈ left, b < 1000 ∧ lckErr t (base + 4 * b + 3) 0 ws.length = 0) :
    Calls Tryz.prog 165 #[ptr wb] w fun e w' => e = .returned (.agg #[.int .u8 (gpc (if left = [] then 6 else 0)), gfn (if left = [] then 6 else 0)]) ∧ GBeg w wb g mb t lv side st base left w' := by
  obtain ⟨a, c, rfl, h1, h2⟩ := hl
  cases left with
  | nil => exact gbegin_nil hw
  | cons b rest =>
    obtain ⟨h3, h4⟩ := hb b (List.mem_cons_self ..)
    exact gbegin_ok hm hw hg h1 b0 b1 h3 h4
/-- Behind the last step for a bucket. -/
def GUnTo (w : World) (wb g mb : Nat) (F : Nat → Prop) (t : Int) (lv : Value) (side : Int) (st : Nat) (base : Int) (left : List Nat) (ws : List Int) (log : List Acc) (w' : World) : Prop :=
  ∃ F' lv' lp', MemAt w' mb F' ws log ∧ GHead w' wb g t lv' lp' side st ∧ LvAt w' lv' left ∧ (∀ k, lv'.ownBlock = some k → lv.ownBlock = some k) ∧ Keep (fun k => F k ∨ k = wb) w w' ∧ Foot w F F' ∧
    ∀ (b : Nat) (r : List Nat), left = b :: r → ∃ lb, lp' = ptr lb ∧ w.heap.size ≤ lb ∧ LockAt w' lb mb ⟨0, 0, t, base + 4 * b + 3, true, 0⟩ ∧ ¬ F' lb
set_option maxRecDepth 100000 in
set_option maxHeartbeats 4000000 in
theorem gunlocks_ok (hm : MemAt w mb F ws log) (hw : GHead w wb g t (.slice a (rest.length + 1) c) lp side st) (hg : w.heap[g]? = some (.cells #[ptr mb, .int .i64 base, .int .i64 n, .map (some r)] 202 (0, 0))) (hr : Rd w 1 (.slice a (rest.length + 1) c) (rest.length + 1) (nums (b :: rest))) (fg : ¬ F g) (fw : ¬ F wb) (b0 : 0 ≤ base) (b1 : base < 1000000) (hb : b < 1000) (t0 : 0 ≤ t) (t1 : t < 64) (hcap : rest.length + 1 ≤ c) (fl : ∀ k, (Value.slice a (rest.length + 1) c).ownBlock = some k → ¬ F k ∧ k ≠ wb) (hbs : ∀ b' ∈ rest, b' < 1000 ∧ lckErr t (base + 4 * b' + 3) 0 ws.length = 0) (he : lckErr t (base + 4 * b + 3) 0 ws.length = 0) (hx : ws[(base + 4 * b + 3).toNat]? = some (t + 1)) (hlog : log.length < 1000000000000) :
    Calls Tryz.prog 184 #[ptr wb] w fun e w' => e = .returned (.agg #[.int .u8 (gpc (if rest = [] then 6 else 0)), gfn (if rest = [] then 6 else 0)]) ∧ GUnTo w wb g mb F t (.slice a (rest.length + 1) c) side st base rest (ws.set (base + 4 * b + 3).toNat 0) (log ++ [⟨t, base + 4 * b + 3, 2, t + 1, 0, false⟩]) w' := by
  have htl := hr
  rw [nums_cons] at htl
  obtain ⟨lvb, off, rfl, -, hrt⟩ := rd_tail htl
  obtain ⟨p, hp⟩ : ∃ p, p = gpc (if rest = [] then 6 else 0) := ⟨_, rfl⟩
  obtain ⟨f, hf⟩ : ∃ f, f = gfn (if rest = [] then 6 else 0) := ⟨_, rfl⟩
  rw [← hp, ← hf]
  have HP := hid hp
  have HF := hid hf
  clear hp hf
  -- what the slice becomes
  obtain ⟨A, hA⟩ : ∃ A : Option Addr, A = if c = 1 then some ⟨lvb, off, none⟩ else some ⟨lvb, off + 1, none⟩ := ⟨_, rfl⟩
  obtain ⟨C, hC⟩ : ∃ C, C = c - 1 := ⟨_, rfl⟩
  have hlv' : Value.slice A rest.length C = Value.slice (if c = 1 then some ⟨lvb, off, none⟩ else some ⟨lvb, off + 1, none⟩) rest.length (c - 1) := by rw [hA, hC]
  have hL : LvAt w (.slice A rest.length C) rest := by
    refine ⟨_, _, hlv', ?_, by omega⟩
    rw [hlv']
    by_cases h1 : c = 1
    · have h0 : rest = [] := List.eq_nil_of_length_eq_zero (by omega)
      subst h0
      rw [if_pos h1]
      exact ⟨_, _, rfl, rfl, .inr (.inr ⟨⟨_, rfl⟩, rfl⟩)⟩
    · rw [if_neg h1]; exact hrt
  have hown : ∀ k, (Value.slice A rest.length C).ownBlock = some k → k = lvb := fun k hk => by
    rw [hlv'] at hk
    by_cases h1 : c = 1
    · rw [if_pos h1] at hk; simp only [Value.ownBlock, Option.some.injEq] at hk; exact hk.symm
    · rw [if_neg h1] at hk; simp only [Value.ownBlock, Option.some.injEq] at hk; exact hk.symm
  have hold : (Value.slice (some ⟨lvb, off, none⟩) (rest.length + 1) c).ownBlock = some lvb := rfl
  have HFL := hid (fl lvb hold)
  have HLB := hid (show ¬ lvb = w.heap.size from fun e => by
    obtain ⟨b', off', c', hv, hc⟩ := Rd.cell hr (by omega)
    simp only [Value.slice.injEq, Option.some.injEq, Addr.mk.injEq] at hv
    have := World.block_lt_of_cell? w _ (hc 0 _ rfl)
    simp only at this
    omega)
  have HL := hid hL
  have HOWN := hid hown
  have hsl : ∀ W : World, (Instr.slice 23 (.slice (some ⟨lvb, off, none⟩) (rest.length + 1) c) (some (.int .i64 1)) none none).run Tryz.prog W = .ok (.slice A rest.length C) W := fun W => by
    obtain ⟨i, hi, hz, hsize, hby⟩ := info_parts infoInt
    simp [Instr.slice, run_underlying Tryz.underlying23, Instr.sliceBounds, Instr.sliceBound, asIntOf, sizeOf, typeInfo, hi, hsize, Result.andThen, hlv', addr_add, show (1 : Int) ≤ (rest.length : Int) + 1 by omega]
  have HSL := hid hsl
  clear hlv' hL hown hold fl hsl htl hrt hA hC
  have HM := hid hm
  have HW := hid hw
  have HG := hid hg
  have HR := hid hr
  have FG := hid fg
  have FW := hid fw
  have nwg : ¬ wb = g := gtype_ne hw hg (by decide)
  have ngw : ¬ g = wb := fun e => nwg e.symm
  have hwb := lt_of_block hw
  have HWB := hid hwb
  have nr1 : ¬ wb = w.heap.size := by omega
  have nr2 : ¬ w.heap.size = wb := by omega
  have NR := hid (show ¬ F w.heap.size from fun hF => absurd (hm.lt _ hF) (Nat.lt_irrefl _))
  have HX := hid hx
  have HE := hid he
  have HBS := hid hbs
  clear hm hw hg hr fg fw hx he hbs hcap
  go_enter Tryz.func184, Tryz.ntmps184
  go_wp2
  obtain ⟨W, hW⟩ : ∃ W, W = w.alloc (.cells #[.int .u8 0, .nilFunc] 305) := ⟨_, rfl⟩
  rw [← hW]
  have kW : Keep Nil w W := by rw [hW]; exact (Keep.refl Nil w).alloc _
  have RW := hid (show W.heap[w.heap.size]? = some (.cells #[.int .u8 0, .nilFunc] 305 (0, 0)) by rw [hW]; exact heap_alloc_new w _)
  have zW : W.heap.size = w.heap.size + 1 := by rw [hW]; simp
  have ZW := hid zW
  have KW := hid kW
  have p0 := (HW.out.cells).1
  have p1 := (HW.out.cells).2.1
  have pg : w.cell? ⟨g, 0, none⟩ = some (.pointer (some ⟨mb, 0, none⟩)) := by rw [cell_of HG.out]; rfl
  have pb : w.cell? ⟨g, 1, none⟩ = some (.int .i64 base) := by rw [cell_of HG.out]; rfl
  have P0 := hid (kW.cell p0 (fun h => h))
  have P1 := hid (kW.cell p1 (fun h => h))
  have PG := hid (kW.cell pg (fun h => h))
  have PB := hid (kW.cell pb (fun h => h))
  have P2 := hid (kW.cell (HW.out.cells).2.2.1 (fun h => h))
  have RR := hid (rd_keep HR.out kW (fun _ _ h => h))
  have KD := hid ((Keep.refl Nil W).drew)
  clear p0 p1 pg pb kW hW zW
  have s0 := P0.out
  have s1 := P1.out
  have sg := PG.out
  go_region_held3 (fun w' => w'.cell? ⟨wb, 0, none⟩ = some (.pointer (some ⟨g, 0, none⟩)) ∧ w'.cell? ⟨wb, 1, none⟩ = some (.int .i64 t) ∧ w'.cell? ⟨g, 0, none⟩ = some (.pointer (some ⟨mb, 0, none⟩))) (simp [*, World.cell?_setCell_other, World.cell?_alloc_some, World.cell?_setCell_far])
    (first
      | (go_at_call 168; (with_reducible refine (gwords0 (KD.out.cell P0.out (fun h => h)) (KD.out.cell P2.out (fun h => h)) (rd_keep RR.out KD.out (fun _ _ h => h)) (KD.out.cell PB.out (fun h => h)) b0 b1 hb).mono ?_); rintro e w2 ⟨rfl, k2⟩; have KB := hid (KD.out.trans k2 (fun _ _ h => h)); have q0 := KB.out.cell P0.out (fun h => h); have q1 := KB.out.cell P1.out (fun h => h); have qg := KB.out.cell PG.out (fun h => h); clear k2)
      | (go_at_call 185; (with_reducible refine (unlock_ok (HM.out.keep (KW.out.trans KB.out (fun _ _ h => h)) (fun _ _ h => h)) t (base + 4 * b + 3) HE.out HX.out hlog).mono ?_); rintro e w3 ⟨rfl, F3, hm3, k3, f3⟩; have KC := hid ((KB.out.mono (T := F) (fun _ _ h => h.elim)).trans k3 (fun _ _ h => h)); have u0 := KC.out.cell P0.out FW.out; have u1 := KC.out.cell P1.out FW.out; have ug := KC.out.cell PG.out FG.out; have M3 := hid hm3; have F3' := hid (show Foot w F F3 from fun k hF => (f3 k hF).elim .inl (fun h => .inr (by have := KB.out.size; have := KW.out.size; omega))); have NR3 := hid (show ¬ F3 w.heap.size from fun hF => (f3 _ hF).elim NR.out (fun h => by have := KB.out.size; have := ZW.out; omega)); have hd3 := KC.out.at (KW.out.at HW.out (fun h => h)) FW.out; have v2 := cell_of hd3 2; have z2 := free_of hd3 2; have D3 := hid hd3; clear hd3; clear hm3 k3 f3))
  have R3 := hid (KC.out.at RW.out NR.out)
  have G3 := hid (KC.out.at (KW.out.at HG.out (fun h => h)) FG.out)
  have LV3 := hid (HL.out.keep ((KW.out.mono (T := F) (fun _ _ h => h.elim)).trans KC.out (fun _ _ h => h)) (fun k hk hF => HFL.out.1 (HOWN.out k hk ▸ hF)))
  have KA := hid ((KW.out.mono (T := F) (fun _ _ h => h.elim)).trans KC.out (fun _ _ h => h))
  clear KB P0 P1 PG PB P2 RR KD s0 s1 sg q0 q1 qg u0 u1 ug HL KC HW HG HR HM HX HE
  have hsl := HSL.out
  obtain ⟨W4, hW4⟩ : ∃ W4, W4 = w3.setCell ⟨wb, 2, none⟩ (.slice A rest.length C) := ⟨_, rfl⟩
  have K4 := hid (show Keep (fun k => k = wb) w3 W4 by rw [hW4]; exact Keep.setCell (S := fun k => k = wb) (p := ⟨wb, 2, none⟩) (Keep.refl _ w3) (.inl rfl) _)
  have D4 := hid (show GHead W4 wb g t (.slice A rest.length C) lp side st by rw [hW4]; exact set_same (i := 2) D3.out (.slice A rest.length C))
  have nF3 : ¬ F3 wb := fun h => (F3'.out wb h).elim FW.out (fun h => by have := HWB.out; omega)
  have M4 := hid (M3.out.keep K4.out (fun k hk e => nF3 (e ▸ hk)))
  have R4 := hid (K4.out.at R3.out (fun e => nr2 e))
  have L4 := hid (LV3.out.keep K4.out (fun k hk e => HFL.out.2 ((HOWN.out k hk).symm.trans e)))
  have hbg := gbegin_any (left := rest) M4.out D4.out (K4.out.at G3.out (fun e => ngw e)) L4.out b0 b1 (fun b' hb' => by rw [List.length_set]; exact HBS.out b' hb')
  rw [← HP.out, ← HF.out] at hbg
  have HBG := hid hbg
  clear hbg nF3 HBS D3 M3 R3 G3 LV3
  go_wp2_with fail
  rw [← hW4]
  refine HBG.out.mono ?_
  rintro e w5 ⟨rfl, lp', d5, k5, hl5⟩
  have r5 := k5.at R4.out (fun e => nr2 e)
  have x0 := cell_of r5 0
  have x1 := cell_of r5 1
  have y0 := free_of r5 0
  have y1 := free_of r5 1
  have R5 := hid r5
  have D5 := hid d5
  have K5 := hid k5
  have HL5 := hid hl5
  clear r5 d5 k5 hl5 HBG HSL hsl hW4 v2 z2
  have hpf : (p = 0 ∧ f = .nilFunc) ∨ (p = 2 ∧ f = .func (.func 169) #[] #[]) := by
    have h1 := HP.out
    have h2 := HF.out
    by_cases hr0 : rest = []
    · rw [if_pos hr0] at h1 h2; exact .inl ⟨h1, h2⟩
    · rw [if_neg hr0] at h1 h2; exact .inr ⟨h1, h2⟩
  clear HP HF
  have k45 : Keep (fun k => k = wb) w3 w5 := K4.out.trans K5.out (fun _ _ h => h)
  have z5 := K5.out.size
  have z4 : w.heap.size < W4.heap.size := by have := K4.out.size; have := KA.out.size; exact Nat.lt_of_lt_of_le (lt_of_block R4.out) (Nat.le_refl _)
  have K45 := hid k45
  clear k45
  have FIN := hid (show ∀ W6 : World, Keep (fun k => k = w.heap.size) w5 W6 → GUnTo w wb g mb F t (.slice (some ⟨lvb, off, none⟩) (rest.length + 1) c) side st base rest (ws.set (base + 4 * b + 3).toNat 0) (log ++ [⟨t, base + 4 * b + 3, 2, t + 1, 0, false⟩]) W6 from fun W6 k6 => by
    refine ⟨F3, .slice A rest.length C, lp', ?_, ?_, ?_, fun k hk => by rw [HOWN.out k hk]; rfl, ?_, F3'.out, fun b' r' h => ?_⟩
    · refine (M4.out.keep K5.out (fun k hk e => ?_)).keep k6 (fun k hk e => NR3.out (e ▸ hk))
      subst e
      exact (F3'.out _ hk).elim FW.out (fun h => by have := HWB.out; omega)
    · exact k6.at D5.out (fun e => nr1 e)
    · exact (L4.out.keep K5.out (fun k hk e => HFL.out.2 ((HOWN.out k hk).symm.trans e))).keep k6 (fun k hk e => HLB.out ((HOWN.out k hk).symm.trans e))
    · refine ((KA.out.mono (T := fun k => F k ∨ k = wb) (fun _ _ h => .inl h)).trans K45.out (fun _ _ h => .inr h)).trans k6 (fun k hk e => ?_)
      omega
    · obtain ⟨lb, e1, e2, e3⟩ := HL5.out b' r' h
      refine ⟨lb, e1, by omega, k6.at e3 (fun e => by omega), fun hF => ?_⟩
      have := M4.out.lt lb hF
      omega)
  clear M4 K5 D5 L4 KA HL5 K45 HOWN HFL F3' NR3 z4 z5
  rcases hpf with ⟨rfl, rfl⟩ | ⟨rfl, rfl⟩
  · go_wp2
    (try simp only [Exit.inBlock, Exit.then])
    have hh := set_same (i := 1) (set_same (i := 0) R5.out (.int .u8 0)) .nilFunc
    refine bodyPost_ret (results_cell_row rfl _ _ w.heap.size _ _ (0, 0) _ rfl hh Tryz.underlying305 rfl sizeState) rfl ⟨rfl, FIN.out _ (keep_set2 w5 w.heap.size _ _)⟩
  · go_wp2
    (try simp only [Exit.inBlock, Exit.then])
    have hh := set_same (i := 1) (set_same (i := 0) R5.out (.int .u8 2)) (.func (.func 169) #[] #[])
    refine bodyPost_ret (results_cell_row rfl _ _ w.heap.size _ _ (0, 0) _ rfl hh Tryz.underlying305 rfl sizeState) rfl ⟨rfl, FIN.out _ (keep_set2 w5 w.heap.size _ _)⟩
end
end Go.Proofs.YtldjlcdccnnogaaGreat
