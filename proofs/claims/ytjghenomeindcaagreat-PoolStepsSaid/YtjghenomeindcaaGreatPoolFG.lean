/- PoolSteps: few, config, and the pools of both sides as they were just made. -/
import Derived.Test.YtjghenomeindcaaGreatPoolE
import Derived.Test.YtjghenomeindcaaGreatLayNew
import Derived.Test.YtjghenomeindcaaGreatRef14
import Derived.Test.YtjghenomeindcaaGreatPoolQ
set_option linter.unusedVariables false
set_option linter.unusedSimpArgs false
namespace Go.Lf
open Go.RowKit
/-- What few asks for. -/
def FewP (zs : List Int) : Prop := (∀ z ∈ zs, 0 ≤ z ∧ z ≤ 40) ∧ zs.sum ≤ 40
def FewTo (zs : List Int) (e : Ending) : Prop := ∃ b, e = .returned (.bool b) ∧ (b = true → FewP zs)
theorem six_at {zs : List Int} {k : Nat} {x : Int} (h : zs[k]? = some x) : (zs.map (Value.int .i64))[k]? = some (.int .i64 x) := by simp [h]
theorem sum_take1 {zs : List Int} {k : Nat} {x : Int} (h : zs[k]? = some x) : (zs.take (k + 1)).sum = (zs.take k).sum + x := by
  rw [List.take_add_one, h]
  simp
theorem sum_bd {l : List Int} (h : ∀ z ∈ l, 0 ≤ z ∧ z ≤ 40) : 0 ≤ l.sum ∧ l.sum ≤ 40 * l.length := by
  induction l with
  | nil => exact ⟨Int.le_refl _, Int.le_refl _⟩
  | cons x l ih =>
    have h1 := h x (List.mem_cons_self ..)
    have h2 := ih fun z hz => h z (List.mem_cons_of_mem _ hz)
    simp only [List.sum_cons, List.length_cons]
    omega
/-- The six numbers. -/
theorem FewP.nats {zs : List Int} (h : FewP zs) : ∃ ts : List Nat, zs = ts.map (fun n : Nat => (n : Int)) ∧ ts.sum ≤ 40 := by
  refine ⟨zs.map Int.toNat, ?_, ?_⟩
  · rw [List.map_map]
    refine (List.map_id zs).symm.trans (List.map_congr_left fun z hz => ?_)
    have := h.1 z hz
    simp
    omega
  · have h1 := h.1
    have h2 := h.2
    have : ((zs.map Int.toNat).sum : Int) = zs.sum := by
      clear h2 h
      induction zs with
      | nil => rfl
      | cons x l ih =>
        have h1' := h1 x (List.mem_cons_self ..)
        have := ih fun z hz => h1 z (List.mem_cons_of_mem _ hz)
        simp only [List.map_cons, List.sum_cons, Int.natCast_add, this]
        omega
    omega
/-- The configuration of the runs. -/
def pcfg (ts : List Nat) : Cfg := ⟨8, 1, 1, 0, ⟨1, 0, []⟩, ts, 1, 1, 0⟩
end Go.Lf
namespace Go.Proofs.YtjghenomeindcaaGreat
open Go.RowKit Go.Lf
section
variable {w w' : World}
set_option maxRecDepth 100000 in
set_option maxHeartbeats 4000000 in
theorem few_ok (w : World) (zs : List Int) (hz : zs.length = 6) (hwf : ∀ z ∈ zs, (Lit.int .i64 z).wf = true) : Calls Tryz.prog 25 #[.agg (zs.map (Value.int .i64)).toArray] w fun e w' => FewTo zs e ∧ Keep Nil w w' := by
  have hrow := heap_alloc_new w (.cells (zs.map (Value.int .i64)).toArray 40)
  have HROW := hid (show ∀ (k : Nat) (x : Int) (wq : World), zs[k]? = some x → Keep Nil (w.alloc (.cells (zs.map (Value.int .i64)).toArray 40)) wq → wq.cell? ⟨w.heap.size, k, none⟩ = some (.int .i64 x) from fun k x wq hx hk => by
    rw [cell_of (hk.at hrow (fun h => h))]
    simpa using six_at hx)
  have HZ := hid hz
  have HA := hid ((Keep.refl Nil w).alloc (.cells (zs.map (Value.int .i64)).toArray 40))
  clear hrow hz hwf
  go_enter Tryz.func25, Tryz.ntmps25
  go_wp2
  go_loopw [3, 4] (fun s i wz => ∃ k : Nat, k ≤ 6 ∧ i = .int .i64 (k : Int) ∧ s = .int .i64 (zs.take k).sum ∧ (∀ z ∈ zs.take k, 0 ≤ z ∧ z ≤ 40) ∧ Keep Nil (w.alloc (.cells (zs.map (Value.int .i64)).toArray 40)) wz) (fun s i _ => 6 - (intOf i).toNat)
  case atStart => exact ⟨0, by omega, rfl, rfl, fun z hz => by simp at hz, Keep.refl _ _⟩
  case round =>
    obtain ⟨k, hk, rfl, rfl, hA, hkp⟩ := hrel
    by_cases hlt : k < 6
    · obtain ⟨x, hx⟩ : ∃ x, zs[k]? = some x := ⟨_, List.getElem?_eq_getElem (by have := HZ.out; omega)⟩
      have c1 := HROW.out k x _ hx hkp
      have hs := sum_bd hA
      rw [List.length_take] at hs
      obtain ⟨S, hS⟩ : ∃ S, S = (zs.take k).sum := ⟨_, rfl⟩
      rw [← hS] at hs
      have hs1 : 0 ≤ S ∧ S ≤ 240 := by omega
      have HTK := hid (sum_take1 hx)
      rw [← hS] at HTK
      have HLL := hid hA
      have HKP := hid hkp
      have HX := hid hx
      clear hA hkp hs hx
      rw [← hS]
      clear hS
      by_cases hx0 : x < 0
      · have b0 : decide (x < 0) = true := decide_eq_true hx0
        go_wp2
        go_ret
        exact ⟨⟨false, rfl, fun h => (by cases h)⟩, HA.out.trans HKP.out (fun _ _ h => h)⟩
      · have b0 : decide (x < 0) = false := decide_eq_false hx0
        by_cases hx4 : x > 40
        · have b1 : decide (x > 40) = true := decide_eq_true hx4
          go_wp2
          go_ret
          exact ⟨⟨false, rfl, fun h => (by cases h)⟩, HA.out.trans HKP.out (fun _ _ h => h)⟩
        · have b1 : decide (x > 40) = false := decide_eq_false hx4
          go_wp2
          go_roundw
          case rel =>
            refine ⟨k + 1, by omega, by go_num, ?_, ?_, HKP.out⟩
            · rw [HTK.out]
            · intro z hz
              rw [List.take_add_one, HX.out, List.mem_append] at hz
              rcases hz with hz | hz
              · exact HLL.out z hz
              · simp only [Option.toList_some, List.mem_singleton] at hz
                subst hz
                omega
          case measure => simp [intOf]; omega
    · obtain rfl : k = 6 := by omega
      have htk : zs.take 6 = zs := List.take_of_length_le (by have := HZ.out; omega)
      rw [htk] at hA ⊢
      obtain ⟨S, hS⟩ : ∃ S, S = zs.sum := ⟨_, rfl⟩
      rw [← hS]
      go_wp2
      go_ret
      exact ⟨⟨_, rfl, fun h => ⟨hA, of_decide_eq_true h⟩⟩, HA.out.trans hkp (fun _ _ h => h)⟩
set_option maxRecDepth 100000 in
set_option maxHeartbeats 4000000 in
theorem sizeCfg : (Tryz.prog.info? 42).map (·.size) = some 16 := by kernel_rfl
set_option maxRecDepth 100000 in
set_option maxHeartbeats 4000000 in
theorem config_ok (w : World) (t1 t2 t3 t4 t5 t6 : Nat) : Calls Tryz.prog 27 #[.agg #[.int .i64 t1, .int .i64 t2, .int .i64 t3, .int .i64 t4, .int .i64 t5, .int .i64 t6]] w fun e w' => e = .returned (cfgV (pcfg [t1, t2, t3, t4, t5, t6]) t1 t2 t3 t4 t5 t6 none 0) ∧ Keep Nil w w' := by
  have HA := hid (Keep.refl Nil w)
  go_enter Tryz.func27, Tryz.ntmps27
  go_wp2
  have hh := heap_alloc_new (w.alloc (.cells #[.int .i64 t1, .int .i64 t2, .int .i64 t3, .int .i64 t4, .int .i64 t5, .int .i64 t6] 40)) (.cells #[.int .i64 8, .int .i64 1, .int .u8 1, .int .i64 0, .int .u8 1, .int .i64 0, .slice none 0 0, .int .i64 t1, .int .i64 t2, .int .i64 t3, .int .i64 t4, .int .i64 t5, .int .i64 t6, .int .i64 1, .int .i64 1, .int .i64 0] 42)
  rw [World.size_alloc] at hh
  refine bodyPost_ret (results_cell_row rfl _ _ (w.heap.size + 1) _ _ (0, 0) _ rfl hh Tryz.underlying42 rfl sizeCfg) rfl ⟨rfl, (HA.out.alloc _).alloc _⟩
end
end Go.Proofs.YtjghenomeindcaaGreat

namespace Go.Lf
open Go.RowKit
theorem pinit_len (c : Cfg) : (ints c.init).length = c.words := by unfold ints; rw [List.length_map, c.init_len]
theorem pcfg_ok {ts : List Nat} (h6 : ts.length = 6) (hs : ts.sum ≤ 40) : (pcfg ts).ok :=
  ⟨(by decide : (1 : Int) ≤ 8), (by decide : (8 : Int) ≤ 64), (by decide : 1 ≤ 1), (by decide : 1 ≤ 64), .inl rfl, fun h => absurd (show (1 : Int) = 3 from h) (by decide), fun _ => rfl, .inl ⟨rfl, rfl, rfl⟩, h6, by show ts.sum ≤ 1024; omega, (by decide : 1 ≤ 1), (by decide : 1 ≤ 16), (by decide : (1 : Int) ≤ 1), (by decide : (1 : Int) ≤ 255), (by decide : (0 : Int) ≤ 0), (by decide : (0 : Int) ≤ 64)⟩
theorem pcfg_nT {ts : List Nat} : (pcfg ts).nT = ts.sum := by
  show (hts 1 ts).length = _
  rw [hts_len]
theorem QInv.init {c : Cfg} (hok : c.ok) : QInv c (PRun.init c).s [] (PRun.init c).L (PRun.init c).sw :=
  ⟨(PInv.init hok).si, fun j o h => by simp at h, fun j o h => by simp at h, fun i j o p h => by simp at h, (PInv.init hok).swl, (PInv.init hok).gb⟩
theorem takenL_none (n : Nat) : takenL n (fun _ => none) = List.replicate (n + 1) false := by
  unfold takenL
  apply List.ext_getElem
  · simp
  · intro i h1 h2; simp
theorem givingL_none (n : Nat) : givingL n (fun _ => none) = List.replicate (n + 1) false := by
  unfold givingL
  apply List.ext_getElem
  · simp
  · intro i h1 h2; simp
end Go.Lf
namespace Go.Proofs.YtjghenomeindcaaGreat
open Go.RowKit Go.Lf
def RPool14To (w : World) (mb l : Nat) (c : Cfg) (e : Ending) (w' : World) : Prop :=
  ∃ pb tb vb gb, e = .returned (.tuple #[.pointer (some ⟨pb, 0, none⟩), .int .i64 0]) ∧ RPool0 w' pb tb vb gb mb l c ∧ (pb ≠ tb ∧ pb ≠ vb ∧ pb ≠ gb ∧ tb ≠ vb ∧ tb ≠ gb ∧ vb ≠ gb) ∧ Keep Nil w w' ∧ ∀ k, k = pb ∨ k = tb ∨ k = vb ∨ k = gb → w.heap.size ≤ k ∧ k < w'.heap.size
section
variable {w : World} {mb l : Nat} {c : Cfg} {F G : Nat → Prop} {ws : List Int} {log : List Acc}
set_option maxRecDepth 100000 in
set_option maxHeartbeats 4000000 in
theorem rpool14_ok (hl : RLC w l c) (hm : RefAt w mb F ws log) (hw : ws.length = c.words) (hok : c.ok) : Calls Tryz.prog 34 #[.pointer (some ⟨mb, 0, none⟩), .pointer (some ⟨l, 0, none⟩)] w (RPool14To w mb l c) := by
  obtain ⟨gw, wc, q0⟩ := rf_len hm
  obtain ⟨ha, hc, c26, -⟩ := hl.c26
  have c25 := hl.c25
  rw [hw] at q0
  have dn : ((c.words : Int) != (c.words : Int)) = false := by simp
  have hlz := hl.lt
  have hmz : mb < w.heap.size := hm.lt mb hm.has
  have hn := hok.nT
  have hmb := make_boolN (c.nT + 1) (by omega)
  have hmi := make_intN (c.nT + 1) (by omega)
  rw [show ((c.nT + 1 : Nat) : Int) = (c.nT : Int) + 1 from rfl] at hmb hmi
  have hw1 : IntKind.i64.wrap ((c.nT : Int) + 1) = (c.nT : Int) + 1 := by rw [IntKind.wrap_i64]; omega
  clear hl hm hw hok
  go_enter Tryz.func34, Tryz.ntmps34
  go_wp2
  go_quiet (fail)
  go_upto_region 6 with fail
  go_region
  all_goals
    go_wp2
    go_ret2
    first
      | refine ⟨w.heap.size + 1 + 1 + 1, w.heap.size, w.heap.size + 1, w.heap.size + 1 + 1, rfl, ⟨(ralloc4 _ _ _ _ _).2.2.2.1, (ralloc4 _ _ _ _ _).1, (ralloc4 _ _ _ _ _).2.1, (ralloc4 _ _ _ _ _).2.2.1⟩, by omega, ?_, ?_⟩
      | refine ⟨w.heap.size + 1 + 1 + 1, w.heap.size, w.heap.size + 1 + 1, w.heap.size + 1, rfl, ⟨(ralloc4 _ _ _ _ _).2.2.2.1, (ralloc4 _ _ _ _ _).1, (ralloc4 _ _ _ _ _).2.2.1, (ralloc4 _ _ _ _ _).2.1⟩, by omega, ?_, ?_⟩
      | refine ⟨w.heap.size + 1 + 1 + 1, w.heap.size + 1, w.heap.size, w.heap.size + 1 + 1, rfl, ⟨(ralloc4 _ _ _ _ _).2.2.2.1, (ralloc4 _ _ _ _ _).2.1, (ralloc4 _ _ _ _ _).1, (ralloc4 _ _ _ _ _).2.2.1⟩, by omega, ?_, ?_⟩
      | refine ⟨w.heap.size + 1 + 1 + 1, w.heap.size + 1, w.heap.size + 1 + 1, w.heap.size, rfl, ⟨(ralloc4 _ _ _ _ _).2.2.2.1, (ralloc4 _ _ _ _ _).2.1, (ralloc4 _ _ _ _ _).2.2.1, (ralloc4 _ _ _ _ _).1⟩, by omega, ?_, ?_⟩
      | refine ⟨w.heap.size + 1 + 1 + 1, w.heap.size + 1 + 1, w.heap.size, w.heap.size + 1, rfl, ⟨(ralloc4 _ _ _ _ _).2.2.2.1, (ralloc4 _ _ _ _ _).2.2.1, (ralloc4 _ _ _ _ _).1, (ralloc4 _ _ _ _ _).2.1⟩, by omega, ?_, ?_⟩
      | refine ⟨w.heap.size + 1 + 1 + 1, w.heap.size + 1 + 1, w.heap.size + 1, w.heap.size, rfl, ⟨(ralloc4 _ _ _ _ _).2.2.2.1, (ralloc4 _ _ _ _ _).2.2.1, (ralloc4 _ _ _ _ _).2.1, (ralloc4 _ _ _ _ _).1⟩, by omega, ?_, ?_⟩
    all_goals first
      | exact ((Keep.refl Nil w).drewN _).drew.trans (ralloc4 _ _ _ _ _).2.2.2.2.1 (fun _ _ h => h)
      | (intro k hk; refine ⟨by omega, ?_⟩; rw [World.size_alloc, World.size_alloc, World.size_alloc, World.size_alloc]; show k < w.heap.size + 1 + 1 + 1 + 1; omega)
end
section
variable {w w' w1 : World} {c : Cfg} {R : PRun} {rb pb L mb ob gb l tb vb : Nat} {F G : Nat → Prop}
theorem rd_none (w : World) : Rd w 1 (.slice none 0 0) 0 (u64s []) := ⟨_, _, rfl, by simp [u64s], .inl ⟨rfl, rfl, rfl⟩⟩
/-- Pools that were just made. -/
theorem pa_new (hl : LayOn w L c G) (hm : MemAt w mb F (ints c.init) []) (hGF : ∀ k, G k → ¬ F k ∧ k < w.heap.size) (hp : PoolAt0 w' pb ob gb mb L c) (hk : Keep Nil w w') (h1 : w.heap.size ≤ pb) (h2 : w.heap.size ≤ ob) (h3 : w.heap.size ≤ gb) : PA w' (fun k => k = pb ∨ k = ob ∨ k = gb ∨ F k ∨ G k) c pb mb L ob gb F G (PRun.init c).s := by
  have hF : ∀ k, F k → k < w.heap.size := hm.lt
  refine ⟨hp.head, hm.keep hk (fun _ _ h => h), hl.keep hk (fun _ _ h => h), ⟨[], ⟨#[], 0, hp.out, rfl, ?_⟩, List.nodup_nil, fun _ => rfl⟩, ?_, List.length_replicate, fun _ => Iff.rfl, ty_ne hp.head hp.gens (by decide) |> fun _ => ?_, ty_ne hp.head hp.gens (by decide), ?_, ⟨fun h => ?_, fun h => ?_, fun h => ?_⟩, ⟨fun h => ?_, fun h => ?_, fun h => ?_⟩, fun k hG => ⟨(hGF k hG).1, by have := (hGF k hG).2; have := hk.size; omega⟩⟩
  · first
      | exact Stamped.empty
      | (intro e he; simp at he)
      | (refine ⟨?_, ?_⟩ <;> simp)
      | skip
  · rw [hp.gens]
    simp [intsI, PRun.init]
  · intro e
    have := hp.head
    rw [e, hp.out] at this
    cases this
  · intro e
    have := hp.gens
    rw [← e, hp.out] at this
    cases this
  · have := hF _ h; omega
  · have := hF _ h; omega
  · have := hF _ h; omega
  · have := (hGF _ h).2; omega
  · have := (hGF _ h).2; omega
  · have := (hGF _ h).2; omega
theorem pnew_lay (W : World) (t1 t2 t3 t4 t5 t6 : Nat) (hs : [t1, t2, t3, t4, t5, t6].sum ≤ 40) : Calls Tryz.prog 26 #[cfgV (pcfg [t1, t2, t3, t4, t5, t6]) t1 t2 t3 t4 t5 t6 none 0] W (NewTo W (pcfg [t1, t2, t3, t4, t5, t6])) :=
  lnew_ok (pcfg [t1, t2, t3, t4, t5, t6]) (pcfg_ok rfl hs) t1 t2 t3 t4 t5 t6 rfl none 0 (rd_none W)
/-- The reference's pools that were just made. -/
theorem rpa_new (hne : pb ≠ tb ∧ pb ≠ vb ∧ pb ≠ gb ∧ tb ≠ vb ∧ tb ≠ gb ∧ vb ≠ gb) (hl : KeepOn w G fun W => RLC W l c) (hm : RefAt w mb F (ints c.init) []) (hGF : ∀ k, G k → ¬ F k ∧ k < w.heap.size) (hp : RPool0 w' pb tb vb gb mb l c) (hk : Keep Nil w w') (hz : ∀ k, k = pb ∨ k = tb ∨ k = vb ∨ k = gb → w.heap.size ≤ k) : RPA w' (fun k => k = pb ∨ k = tb ∨ k = vb ∨ k = gb ∨ F k ∨ G k) c pb mb l tb vb gb F G (PRun.init c).s := by
  have hF : ∀ k, F k → k < w.heap.size := hm.lt
  have z1 := hz pb (.inl rfl)
  have z2 := hz tb (.inr (.inl rfl))
  have z3 := hz vb (.inr (.inr (.inl rfl)))
  have z4 := hz gb (.inr (.inr (.inr rfl)))
  refine ⟨hp.head, hm.keep hk (fun _ _ h => h), hl.keep hk (fun _ _ h => h), ?_, ?_, ?_, List.length_replicate, fun _ => Iff.rfl, hne, ⟨fun h => ?_, fun h => ?_, fun h => ?_, fun h => ?_⟩, ⟨fun h => ?_, fun h => ?_, fun h => ?_, fun h => ?_⟩, fun k hG => ⟨(hGF k hG).1, by have := (hGF k hG).2; have := hk.size; omega⟩⟩
  · rw [hp.tk]
    show _ = some (Obj.cells (boolsB (takenL c.nT (fun _ => none))).toArray _ _)
    rw [takenL_none]
    simp [boolsB]
  · rw [hp.gv]
    show _ = some (Obj.cells (boolsB (givingL c.nT (fun _ => none))).toArray _ _)
    rw [givingL_none]
    simp [boolsB]
  · rw [hp.gn]
    show _ = some (Obj.cells (intsR (0 :: List.replicate c.nT 0)).toArray _ _)
    rw [← List.replicate_succ]
    simp [intsR]
  · have := hF _ h; omega
  · have := hF _ h; omega
  · have := hF _ h; omega
  · have := hF _ h; omega
  · have := (hGF _ h).2; omega
  · have := (hGF _ h).2; omega
  · have := (hGF _ h).2; omega
  · have := (hGF _ h).2; omega
end
end Go.Proofs.YtjghenomeindcaaGreat
