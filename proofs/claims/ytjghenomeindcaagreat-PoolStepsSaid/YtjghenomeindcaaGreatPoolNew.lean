/- layout and pool: fields of a Layout value; pool.New. -/
import Derived.Test.YtjghenomeindcaaGreatLayOps
import Derived.Test.YtjghenomeindcaaGreatMem
import Derived.Deep.RegionHeld3
set_option linter.unusedVariables false
set_option linter.unusedSimpArgs false
namespace Go.Proofs.YtjghenomeindcaaGreat
open Go.RowKit Go.Lf
theorem make_int (n : Nat) (hn : n ≤ 1000000) (w : World) : (Instr.makeSlice 32 (.int .i64 n) (.int .i64 n)).run Tryz.prog w = .ok (.slice (some ⟨w.heap.size, 0, none⟩) n n) (w.alloc (.cells (List.replicate n (Value.int .i64 0)).toArray 3)) := by
  obtain ⟨i, hi, hz, hsize, hby⟩ := info_parts infoInt
  have := run_make (P := Tryz.prog) w 32 3 i (.int .i64 0) Tryz.underlying32 hi hz .i64 .i64 n n (by omega) (Int.le_refl _) (by rw [hby]; omega) (by omega)
  rw [this, hsize, ← made_one]
  simp [Value.cells]
theorem fld0 (c : Cfg) (W : World) : (Instr.field 47 (.agg (plcC c)) 0).run Tryz.prog W = .ok (.int .i64 (0 : Int)) W := by kernel_rfl
theorem fld1 (c : Cfg) (W : World) : (Instr.field 47 (.agg (plcC c)) 1).run Tryz.prog W = .ok (.int .i64 (c.engine : Int)) W := by kernel_rfl
theorem fld2 (c : Cfg) (W : World) : (Instr.field 47 (.agg (plcC c)) 2).run Tryz.prog W = .ok (.int .i64 (c.master : Int)) W := by kernel_rfl
theorem fld3 (c : Cfg) (W : World) : (Instr.field 47 (.agg (plcC c)) 3).run Tryz.prog W = .ok (.int .i64 (c.locks : Int)) W := by kernel_rfl
theorem fld4 (c : Cfg) (W : World) : (Instr.field 47 (.agg (plcC c)) 4).run Tryz.prog W = .ok (.int .i64 (c.descs : Int)) W := by kernel_rfl
theorem fld5 (c : Cfg) (W : World) : (Instr.field 47 (.agg (plcC c)) 5).run Tryz.prog W = .ok (.int .i64 (c.pools : Int)) W := by kernel_rfl
theorem fld6 (c : Cfg) (W : World) : (Instr.field 47 (.agg (plcC c)) 6).run Tryz.prog W = .ok (.int .i64 (c.links : Int)) W := by kernel_rfl
theorem fld7 (c : Cfg) (W : World) : (Instr.field 47 (.agg (plcC c)) 7).run Tryz.prog W = .ok (.int .i64 (c.heads : Int)) W := by kernel_rfl
theorem fld8 (c : Cfg) (W : World) : (Instr.field 47 (.agg (plcC c)) 8).run Tryz.prog W = .ok (.int .i64 (c.towers : Int)) W := by kernel_rfl
theorem fld9 (c : Cfg) (W : World) : (Instr.field 47 (.agg (plcC c)) 9).run Tryz.prog W = .ok (.int .i64 (c.words : Int)) W := by kernel_rfl
attribute [local go_sem] fld0 fld1 fld2 fld3 fld4 fld5 fld6 fld7 fld8 fld9
/-- The pool of a new store. -/
structure PoolAt0 (w : World) (pb ob gb mb L : Nat) (c : Cfg) : Prop where
  head : w.heap[pb]? = some (.cells #[.pointer (some ⟨mb, 0, none⟩), .pointer (some ⟨L, 0, none⟩), .int .i64 c.pools, .int .i64 c.links, .map (some ob), .slice (some ⟨gb, 0, none⟩) c.nT c.nT] 180 (0, 0))
  out : w.heap[ob]? = some (.map #[] 0)
  gens : w.heap[gb]? = some (.cells (Array.replicate c.nT (Value.int .i64 0)) 3 (0, 0))
def PoolNewTo (w : World) (mb L : Nat) (c : Cfg) (e : Ending) (w' : World) : Prop :=
  ∃ pb ob gb, e = .returned (.tuple #[.pointer (some ⟨pb, 0, none⟩), .int .i64 0]) ∧ PoolAt0 w' pb ob gb mb L c ∧ Keep Nil w w' ∧ w.heap.size ≤ pb ∧ w.heap.size ≤ ob ∧ w.heap.size ≤ gb ∧ pb < w'.heap.size ∧ ob < w'.heap.size ∧ gb < w'.heap.size
section
variable {w : World} {L mb : Nat} {c : Cfg} {F : Nat → Prop} {ws : List Int} {log : List Acc}
theorem keep3 {W : World} {pz i : Nat} {v : Value} (h : W.cell? ⟨pz, i, none⟩ = some v) (o1 o2 o3 : Obj) : ((((W.alloc o1).alloc o2).alloc o3).drew).cell? ⟨pz, i, none⟩ = some v := ((((Keep.refl Nil W).alloc o1).alloc o2).alloc o3).drew.cell h (fun h => h)
theorem alloc3 (W : World) (o1 o2 o3 : Obj) : (((W.alloc o1).alloc o2).alloc o3).drew.heap[W.heap.size]? = some o1 ∧ (((W.alloc o1).alloc o2).alloc o3).drew.heap[W.heap.size + 1]? = some o2 ∧ (((W.alloc o1).alloc o2).alloc o3).drew.heap[W.heap.size + 1 + 1]? = some o3 ∧ Keep Nil W (((W.alloc o1).alloc o2).alloc o3).drew ∧ (((W.alloc o1).alloc o2).alloc o3).drew.heap.size = W.heap.size + 1 + 1 + 1 := by
  have h1 := heap_alloc_new W o1
  have h2 := heap_alloc_new (W.alloc o1) o2
  have h3 := heap_alloc_new ((W.alloc o1).alloc o2) o3
  rw [World.size_alloc] at h2
  rw [World.size_alloc, World.size_alloc] at h3
  exact ⟨alloc_old (alloc_old h1 _) _, alloc_old h2 _, h3, (((Keep.refl Nil W).alloc _).alloc _).alloc _ |>.drew, by show (((W.alloc o1).alloc o2).alloc o3).heap.size = _; rw [World.size_alloc, World.size_alloc, World.size_alloc]⟩
theorem le_words (c : Cfg) : c.towers ≤ c.words ∧ 1 ≤ c.towers ∧ c.engine + c.engW ≤ c.words := by
  have h1 : c.engine = c.sl := rfl
  have h2 : c.master = c.engine + c.engW := rfl
  have h3 : c.locks = c.master + 1 := rfl
  have h4 : c.descs = c.locks + c.lk * 3 := rfl
  have h5 : c.pools = c.descs + c.lk := rfl
  have h6 : c.links = c.pools + 6 := rfl
  have h7 : c.heads = c.links + c.nT := rfl
  have h8 : c.towers = c.heads + c.d.cnt * 7 := rfl
  have h9 : c.words = c.towers + towW c.hs := rfl
  omega
theorem plc_lt (c : Cfg) : c.sl = c.engine ∧ c.engine + c.engW = c.master ∧ c.master + 1 = c.locks ∧ c.locks + c.lk * 3 = c.descs ∧ c.descs + c.lk = c.pools ∧ c.pools + 6 = c.links ∧ c.links + c.nT = c.heads ∧ c.heads + c.d.cnt * 7 = c.towers ∧ c.towers + towW c.hs = c.words :=
  ⟨rfl, rfl, rfl, rfl, rfl, rfl, rfl, rfl, rfl⟩
set_option maxRecDepth 100000 in
set_option maxHeartbeats 4000000 in
theorem poolnew_ok (hl : LayAt w L c) (hm : MemAt w mb F ws log) (hw : ws.length = c.words) (hok : c.ok) (h16 : c.words ≤ 65536) : Calls Tryz.prog 33 #[.pointer (some ⟨mb, 0, none⟩), .pointer (some ⟨L, 0, none⟩)] w (PoolNewTo w mb L c) := by
  have HL := hid hl
  have HM := hid hm
  have hz := le_words c
  obtain ⟨x, hx⟩ : ∃ x, ws[((c.words : Int) - 1).toNat]? = some x := ⟨_, List.getElem?_eq_getElem (by omega)⟩
  have HX := hid hx
  have HW := hid hw
  have hn := hok.nT
  have hmk := make_int c.nT (by omega)
  have hmm := @run_makeMap Tryz.prog
  have wm : IntKind.i64.wrap ((c.words : Int) - 1) = (c.words : Int) - 1 := by rw [IntKind.wrap_i64]; omega
  have HOK := hid hok
  clear hl hm hx hw hok
  go_enter Tryz.func33, Tryz.ntmps33
  go_wp2_with fail
  refine (places_ok HL.out).mono ?_
  rintro e w1 ⟨rfl, hk⟩
  have HK := hid hk
  have HM1 := hid (HM.out.keep (hk.trans ((Keep.refl Nil w1).alloc (.cells (plcC c) 47 (0, 0))) (fun _ _ h => h)) (fun _ _ h => h))
  have HL1 := hid (HL.out.keep (hk.trans ((Keep.refl Nil w1).alloc (.cells (plcC c) 47 (0, 0))) (fun _ _ h => h)))
  clear hk
  go_wp2_with fail
  refine (peek_ok HM1.out ((c.words : Int) - 1) x (by omega) HX.out).mono ?_
  rintro e w' ⟨rfl, rfl⟩
  go_wp2_with fail
  refine (peek_no HM1.out (c.words : Int) (.inr (by have := HW.out; omega))).mono ?_
  rintro e w' ⟨rfl, rfl⟩
  go_wp2_with fail
  have a5 : (w1.alloc (.cells (plcC c) 47 (0, 0))).cell? ⟨w1.heap.size, 5, none⟩ = some (.int .i64 (c.pools : Int)) := by rw [cell_of (heap_alloc_new w1 _)]; rfl
  have a6 : (w1.alloc (.cells (plcC c) 47 (0, 0))).cell? ⟨w1.heap.size, 6, none⟩ = some (.int .i64 (c.links : Int)) := by rw [cell_of (heap_alloc_new w1 _)]; rfl
  have hz1 : w1.heap.size < (w1.alloc (.cells (plcC c) 47 (0, 0))).heap.size := by simp
  have HKW := hid (HK.out.trans ((Keep.refl Nil w1).alloc (.cells (plcC c) 47 (0, 0))) (fun _ _ h => h))
  generalize w1.alloc (.cells (plcC c) 47 (0, 0)) = W at *
  generalize w1.heap.size = pz at *
  clear hz HX HW HM HL HK
  have m1 := World.new_ne W ⟨pz, 5, none⟩ a5
  have m2 := World.new_ne W ⟨pz, 6, none⟩ a6
  go_region_held3 (fun w' => w'.cell? ⟨pz, 5, none⟩ = some (.int .i64 (c.pools : Int)) ∧ w'.cell? ⟨pz, 6, none⟩ = some (.int .i64 (c.links : Int))) (first | exact ⟨keep3 a5 _ _ _, keep3 a6 _ _ _⟩ | go_keep)
    (first | (go_at_call 79; (with_reducible refine (towers_ok ((HL1.out).keep (Keep.refl Nil W).drew)).mono ?_); rintro e w' ⟨rfl, rfl⟩) | (go_at_call 79; (with_reducible refine (towers_ok ((HL1.out).keep ((Keep.refl Nil W).alloc _).drew)).mono ?_); rintro e w' ⟨rfl, rfl⟩))
  all_goals
    go_wp2
    go_ret2
    have hs := HKW.out.size
    first
      | exact ⟨W.heap.size + 1 + 1, W.heap.size, W.heap.size + 1, rfl, ⟨(alloc3 W _ _ _).2.2.1, (alloc3 W _ _ _).1, (alloc3 W _ _ _).2.1⟩, HKW.out.trans (alloc3 W _ _ _).2.2.2.1 (fun _ _ h => h), by omega, by omega, by omega, by rw [(alloc3 W _ _ _).2.2.2.2]; omega, by rw [(alloc3 W _ _ _).2.2.2.2]; omega, by rw [(alloc3 W _ _ _).2.2.2.2]; omega⟩
      | exact ⟨W.heap.size + 1 + 1, W.heap.size + 1, W.heap.size, rfl, ⟨(alloc3 W _ _ _).2.2.1, (alloc3 W _ _ _).2.1, (alloc3 W _ _ _).1⟩, HKW.out.trans (alloc3 W _ _ _).2.2.2.1 (fun _ _ h => h), by omega, by omega, by omega, by rw [(alloc3 W _ _ _).2.2.2.2]; omega, by rw [(alloc3 W _ _ _).2.2.2.2]; omega, by rw [(alloc3 W _ _ _).2.2.2.2]; omega⟩
end
end Go.Proofs.YtjghenomeindcaaGreat
