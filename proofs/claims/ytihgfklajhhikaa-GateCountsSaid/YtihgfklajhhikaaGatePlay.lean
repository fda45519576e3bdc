/- gate: begin, play: contracts. -/
import Derived.Test.YtihgfklajhhikaaGateAct3
import Derived.Test.YtihgfklajhhikaaSizesWalk
import Derived.Test.YtihgfklajhhikaaIndex
import Derived.Test.YtihgfklajhhikaaDo
import Derived.LaidEqlPtr
set_option linter.unusedVariables false
set_option linter.unusedSimpArgs false
namespace Go.Lf
open Go.RowKit
def ga0 : GA := ⟨.idle, 0, 0, 0, []⟩
/-- A new run. -/
def GS.init (n : Nat) : GS := ⟨List.replicate (4 * n) 0, List.replicate 6 ga0⟩
theorem ginv_init {n : Nat} (hn : 1 ≤ n) : GInv n (GS.init n) 0 := by
  have emp : ∀ (i : Nat) (x : GA), (List.replicate 6 ga0)[i]? = some x → x = ga0 := fun i x h => by
    rw [List.getElem?_replicate] at h
    split at h
    · exact (Option.some.inj h).symm
    · cases h
  have hc : ∀ a, cntIn a (List.replicate 6 ga0) = 0 := fun a => cntIn_zero fun t x hx => by rw [emp t x hx]; rfl
  refine ⟨hn, by simp [GS.init], by simp [GS.init], fun b hb => ⟨0, by omega, ?_⟩, fun b hb => ?_, fun b hb => .inl ⟨?_, fun t x hx => ?_⟩, fun t x hx => ?_⟩
  · simp only [GS.init]; rw [List.getElem?_replicate, if_pos (by omega)]; rfl
  · simp only [GS.init, hc]
    rw [List.getElem?_replicate, if_pos (by omega), List.getElem?_replicate, if_pos (by omega)]
    exact ⟨rfl, rfl⟩
  · simp only [GS.init]; rw [List.getElem?_replicate, if_pos (by omega)]
  · rw [emp t x hx]; rfl
  · rw [emp t x hx]
    exact ⟨by simp [ga0], by simp [ga0], by simp [ga0], by simp [ga0], fun c hc => by simp [ga0] at hc, fun c hc => by simp [ga0] at hc, fun _ _ _ hc => by simp [ga0] at hc⟩
structure Act where
  h : Int
  a : Int
  v : Int
  s : Int
def Act.cells (x : Act) : List Value := [.int .u8 x.h, .int .u8 x.a, .int .u8 x.v, .int .u64 x.s]
def Act.wf (x : Act) : Prop := (Lit.int .u8 x.h).wf = true ∧ (Lit.int .u8 x.a).wf = true ∧ (Lit.int .u8 x.v).wf = true ∧ (Lit.int .u64 x.s).wf = true
def actCells (l : List Act) : List Value := l.flatMap Act.cells
theorem actCells_at {l : List Act} {k j : Nat} {x : Act} {u : Value} (hx : l[k]? = some x) (hu : x.cells[j]? = some u) : (actCells l)[k * 4 + j]? = some u := flat_get (size := 4) (fun _ => rfl) hx hu
/-- One act of a play. -/
def GS.one (n : Nat) (s : GS) (x : Act) : GS := s.act n (x.h % 6).toNat x.a (x.v % 64).toNat (if x.s = 0 then 18446744073709551615 else x.s.toNat)
def GS.plays (n : Nat) (s : GS) (l : List Act) : GS := l.foldl (GS.one n) s
theorem plays_succ (n : Nat) (s : GS) {l : List Act} {k : Nat} {x : Act} (hx : l[k]? = some x) : GS.plays n s (l.take (k + 1)) = GS.one n (GS.plays n s (l.take k)) x := by
  unfold GS.plays
  rw [List.take_add_one, hx, List.foldl_append]
  rfl
end Go.Lf
namespace Go.Proofs.Ytihgfklajhhikaa
open Go.RowKit Go.Lf
section
variable {w wr : World} {rb g r mb n k : Nat} {s : GS}
/-! What the run's cells say. -/
def GP.isEnt : GP → Bool
  | .ent _ => true
  | _ => false
theorem GGood.cIn (h : GGood w rb g r mb n k s wr) {t : Nat} {x : GA} (hx : s.th[t]? = some x) : wr.cell? ⟨rb, 2 + t * 7 + 2, none⟩ = some (.bool x.p.isIn) := by
  obtain ⟨F, ml, ws, th, log, h1, rfl, h3, h4⟩ := h
  simp only [List.getElem?_map, Option.map_eq_some_iff] at hx
  obtain ⟨y, hy, rfl⟩ := hx
  rw [← raw_c]
  exact (h1.cells hy).2.2.1
theorem GGood.cVal (h : GGood w rb g r mb n k s wr) {t : Nat} {x : GA} (hx : s.th[t]? = some x) : wr.cell? ⟨rb, 2 + t * 7 + 3, none⟩ = some (.int .i64 x.val) := by
  obtain ⟨F, ml, ws, th, log, h1, rfl, h3, h4⟩ := h
  simp only [List.getElem?_map, Option.map_eq_some_iff] at hx
  obtain ⟨y, hy, rfl⟩ := hx
  have := (h1.cells hy).2.2.2.1
  rw [raw_d] at this
  exact this
theorem GGood.cWt (h : GGood w rb g r mb n k s wr) {t : Nat} {x : GA} (hx : s.th[t]? = some x) (hw : x.p.isWt = true) : ∃ b, wr.cell? ⟨rb, 2 + t * 7 + 1, none⟩ = some (ptr b) := by
  obtain ⟨F, ml, ws, th, log, h1, rfl, h3, h4⟩ := h
  simp only [List.getElem?_map, Option.map_eq_some_iff] at hx
  obtain ⟨y, hy, rfl⟩ := hx
  have := (h1.cells hy).2.1
  unfold GT.abs GPh.abs at hw
  unfold GT.raw at this
  cases hp : y.p with
  | wt wb lb lv f st side left => rw [hp] at this; exact ⟨wb, this⟩
  | idle => rw [hp] at hw; cases hw
  | ent a b c => rw [hp] at hw; cases hw
  | inn a b => rw [hp] at hw; cases hw
theorem GGood.cNoWt (h : GGood w rb g r mb n k s wr) {t : Nat} {x : GA} (hx : s.th[t]? = some x) (hw : x.p.isWt = false) : wr.cell? ⟨rb, 2 + t * 7 + 1, none⟩ = some (.pointer none) := by
  obtain ⟨F, ml, ws, th, log, h1, rfl, h3, h4⟩ := h
  simp only [List.getElem?_map, Option.map_eq_some_iff] at hx
  obtain ⟨y, hy, rfl⟩ := hx
  have := (h1.cells hy).2.1
  unfold GT.abs GPh.abs at hw
  unfold GT.raw at this
  cases hp : y.p with
  | wt wb lb lv f st side left => rw [hp] at hw; cases hw
  | idle => rw [hp] at this; exact this
  | ent a b c => rw [hp] at this; exact this
  | inn a b => rw [hp] at this; exact this
theorem GGood.cEn (h : GGood w rb g r mb n k s wr) {t : Nat} {x : GA} (hx : s.th[t]? = some x) (hw : GP.isEnt x.p = true) : ∃ b, wr.cell? ⟨rb, 2 + t * 7, none⟩ = some (ptr b) := by
  obtain ⟨F, ml, ws, th, log, h1, rfl, h3, h4⟩ := h
  simp only [List.getElem?_map, Option.map_eq_some_iff] at hx
  obtain ⟨y, hy, rfl⟩ := hx
  have := (h1.cells hy).1
  unfold GT.abs GPh.abs at hw
  unfold GT.raw at this
  cases hp : y.p with
  | ent eb sb c => rw [hp] at this; exact ⟨eb, this⟩
  | idle => rw [hp] at hw; cases hw
  | wt wb lb lv f st side left => rw [hp] at hw; cases hw
  | inn a b => rw [hp] at hw; cases hw
theorem GGood.cNoEn (h : GGood w rb g r mb n k s wr) {t : Nat} {x : GA} (hx : s.th[t]? = some x) (hw : GP.isEnt x.p = false) : wr.cell? ⟨rb, 2 + t * 7, none⟩ = some (.pointer none) := by
  obtain ⟨F, ml, ws, th, log, h1, rfl, h3, h4⟩ := h
  simp only [List.getElem?_map, Option.map_eq_some_iff] at hx
  obtain ⟨y, hy, rfl⟩ := hx
  have := (h1.cells hy).1
  unfold GT.abs GPh.abs at hw
  unfold GT.raw at this
  cases hp : y.p with
  | ent eb sb c => rw [hp] at hw; cases hw
  | idle => rw [hp] at this; exact this
  | wt wb lb lv f st side left => rw [hp] at this; exact this
  | inn a b => rw [hp] at this; exact this
theorem GGood.top (h : GGood w rb g r mb n k s wr) : wr.cell? ⟨rb, 0, none⟩ = some (ptr mb) ∧ wr.cell? ⟨rb, 1, none⟩ = some (ptr g) := by
  obtain ⟨F, ml, ws, th, log, h1, -⟩ := h
  exact h1.run.top
theorem GGood.inv (h : GGood w rb g r mb n k s wr) : GInv n s k := by
  obtain ⟨F, ml, ws, th, log, h1, h2, h3, h4⟩ := h
  exact h3
theorem GGood.at6 (h : GGood w rb g r mb n k s wr) {t : Nat} (ht : t < 6) : ∃ x, s.th[t]? = some x := ⟨_, List.getElem?_eq_getElem (by have := h.inv.lt; omega)⟩

/-! begin. -/
def gt0 : GT := ⟨.idle, 0, 0, 0, none⟩
def GBegunTo (w : World) (n : Nat) (e : Ending) (w' : World) : Prop := ∃ rb g r mb, e = .returned (ptr rb) ∧ GGood w rb g r mb n 0 (GS.init n) w'
set_option maxRecDepth 100000 in
set_option maxHeartbeats 4000000 in
theorem gbegin_run (w0 : World) (hk0 : Keep Nil w0 w) (n : Nat) (n0 : 1 ≤ n) (n1 : n ≤ 6) : Calls Try.prog 48 #[.int .i64 n] w (GBegunTo w0 n) := by
  have HK0 := hid hk0
  clear hk0
  go_enter Try.func48, Try.ntmps48
  go_wp2_with (at_make; refine wpList_mk _ rfl _ _ 26 rfl 49 _ 1 8 Try.underlying26 infoU64 _ _ ((4 * n : Nat) : Int) rfl rfl ?p0 ?p1 ?p2 ?_)
  case p0 => omega
  case p1 => omega
  case p2 => omega
  intro w1 hh hk hz
  have hrd := zeros_rd hh
  have HK := hid (HK0.out.trans hk (fun _ _ h => h))
  have HRD := hid hrd
  clear hh hk hz hrd
  go_wp2_with fail
  refine (new_ok _ _ _ HRD.out (by simp; omega) (by simp; omega)).mono ?_
  rintro e w2 ⟨mb, F, rfl, hm, k2, f2⟩
  have HM := hid hm
  have HO := hid (Go.Lf.Own.fresh HK.out k2 f2)
  clear hm k2 f2 HRD
  go_wp2_with fail
  refine (gnew_ok HM.out (by simp; omega) 0 n (by unfold pErr; rw [if_neg (by omega), if_neg (by simp; omega)])).mono ?_
  rintro e w3 ⟨g, r, rfl, hg, k3, lg, lr⟩
  have HM3 := hid (HM.out.keep k3 (fun _ _ h => h))
  have HO3 := hid (HO.out.quiet k3)
  have HG := hid hg
  have hz := HO.out.1.size
  have hfl := HM.out.lt
  have HFL := hid hfl
  clear hg k3 hfl
  go_wp2
  go_ret
  have ha := heap_alloc_new w3 (.cells (rawCells mb g ((List.replicate 6 gt0).map GT.raw)).toArray 110)
  have kA : Keep Nil w3 (w3.alloc (.cells (rawCells mb g ((List.replicate 6 gt0).map GT.raw)).toArray 110)) := (Keep.refl Nil w3).alloc _
  have z3 := HO3.out.1.size
  have nF : ∀ k : Nat, w2.heap.size ≤ k → ¬ F k := fun k hk hF => by have := HFL.out k hF; omega
  have hg3 := lt_of_block HG.out.head
  have hz3 : w2.heap.size ≤ w3.heap.size := by omega
  have emp : ∀ (i : Nat) (x : GT), (List.replicate 6 gt0)[i]? = some x → x = gt0 := fun i x h => by
    rw [List.getElem?_replicate] at h
    split at h
    · exact (Option.some.inj h).symm
    · cases h
  have him : IMap .i64 w3 r [] := ⟨#[], 0, HG.out.map, rfl, MapKept.stamped_empty 0⟩
  refine ⟨w3.heap.size, g, r, mb, rfl, F, [], List.replicate (4 * n) 0, List.replicate 6 gt0, [], ⟨HM3.out.keep kA (fun _ _ h => h), ⟨kA.at HG.out.head (fun h => h), him.keep kA (fun h => h)⟩, ha, nF _ hz3, nF g lg, nF r lr, HO3.out.quiet kA, z3, by omega, by simp, fun i x hx => ?_, fun i x k hx hh => ?_, fun i j x y k hx hy hh => ?_, by simp [mkeys], fun k => ?_, fun i x hx => ?_⟩, ?_, ?_, by simp⟩
  · rw [emp i x hx]
    exact ⟨fun _ _ _ h => by simp [gt0] at h, fun _ _ h => by simp [gt0] at h, fun _ _ _ _ _ _ _ h => by simp [gt0] at h, fun _ _ h => by simp [gt0] at h⟩
  · rw [emp i x hx] at hh
    rcases hh with hh | ⟨l, hh⟩
    · exact hh.elim
    · simp [gt0] at hh
  · rw [emp i x hx] at hh
    rcases hh with hh | ⟨l, hh⟩
    · exact hh.elim
    · simp [gt0] at hh
  · unfold secOf
    split
    · rfl
    · rw [List.getElem?_replicate]
      split <;> rfl
  · rw [emp i x hx]
    intro _ _ _ _ _ _ _ h
    simp [gt0] at h
  · rfl
  · exact ginv_init n0

/-! play. -/
set_option maxRecDepth 100000 in
set_option maxHeartbeats 8000000 in
theorem gplay_ok {s0 : GS} {K : Nat} (hn : n ≤ 16) (a : Option Addr) (c : Nat) (l : List Go.Lf.Act) (hrd : Rd w 4 (.slice a l.length c) l.length (actCells l)) (hwf : ∀ x ∈ l, x.wf) (hl : l.length ≤ 1000) (hK : K < 10000) (hG : GGood w rb g r mb n K s0 wr) :
    Calls Try.prog 49 #[ptr rb, .slice a l.length c] wr fun e w' => e = .returned (.bool true) ∧ GGood w rb g r mb n (K + l.length) (s0.plays n l) w' := by
  have HD := hid hrd
  have HW := hid hwf
  have HG := hid hG
  have HN := hid hn
  have HP := hid (fun (k : Nat) (x : Go.Lf.Act) (hx : l[k]? = some x) => plays_succ n s0 hx)
  have HPL := hid (show s0.plays n l = s0.plays n (l.take l.length) by rw [List.take_length])
  clear hrd hwf hG hn
  go_enter Try.func49, Try.ntmps49
  go_wp2
  go_loopw [5] (fun i wr => ∃ k : Nat, k ≤ l.length ∧ i = .int .i64 k ∧ Hid (GGood w rb g r mb n (K + k) (s0.plays n (l.take k)) wr)) (fun i _ => l.length - (intOf i).toNat)
  case atStart => exact ⟨0, Nat.zero_le _, rfl, HG⟩
  case round =>
    obtain ⟨k, hk, rfl, HR⟩ := hrel
    clear HG
    by_cases hlt : k < l.length
    · obtain ⟨x, hx⟩ : ∃ x, l[k]? = some x := ⟨_, List.getElem?_eq_getElem hlt⟩
      obtain ⟨w1, w2, w3, w4⟩ := HW.out x (List.mem_of_getElem? hx)
      obtain ⟨xb, xo, xc, hve, hc⟩ := Rd.cell HD.out (by omega)
      simp only [Value.slice.injEq] at hve
      obtain ⟨rfl, -, rfl⟩ := hve
      obtain ⟨h0, h1⟩ := u8_wf w1
      obtain ⟨a0, a1⟩ := u8_wf w2
      obtain ⟨v0, v1⟩ := u8_wf w3
      obtain ⟨s0', s1⟩ := u64_wf w4
      have hcx : ∀ (wq : World), Keep Nil w wq → wq.cell? ⟨xb, xo + k * 4, none⟩ = some (.int .u8 x.h) ∧ wq.cell? ⟨xb, xo + k * 4 + 1, none⟩ = some (.int .u8 x.a) ∧ wq.cell? ⟨xb, xo + k * 4 + 2, none⟩ = some (.int .u8 x.v) ∧ wq.cell? ⟨xb, xo + k * 4 + 3, none⟩ = some (.int .u64 x.s) := fun wq hk =>
        ⟨hk.cell (hc _ _ (actCells_at hx (j := 0) rfl)) (fun h => h), hk.cell (hc _ _ (actCells_at hx (j := 1) rfl)) (fun h => h), hk.cell (hc _ _ (actCells_at hx (j := 2) rfl)) (fun h => h), hk.cell (hc _ _ (actCells_at hx (j := 3) rfl)) (fun h => h)⟩
      have HC := hid hcx
      obtain ⟨q0, q1, q2, q3⟩ := hcx _ HR.out.own
      have hact : ∀ s' : Nat, s' ≠ 0 → s' < 18446744073709551616 → s' = (if x.s = 0 then 18446744073709551615 else x.s.toNat) → Calls Try.prog 50 #[ptr rb, .int .i64 (IntKind.i64.wrap (x.h.tmod 6)), .int .u8 x.a, .int .i64 (IntKind.i64.wrap (x.v.tmod 64)), .int .u64 s'] wr.drew fun e w' => e = .returned (.bool true) ∧ GGood w rb g r mb n (K + (k + 1)) (s0.plays n (l.take (k + 1))) w' := by
        intro s' hs' hs1' he
        have e1 : IntKind.i64.wrap (x.h.tmod 6) = ((x.h % 6).toNat : Int) := by rw [Int.tmod_eq_emod_of_nonneg h0, IntKind.wrap_i64]; omega
        have e2 : IntKind.i64.wrap (x.v.tmod 64) = ((x.v % 64).toNat : Int) := by rw [Int.tmod_eq_emod_of_nonneg v0, IntKind.wrap_i64]; omega
        rw [e1, e2, HP.out k x hx]
        unfold GS.one
        rw [← he]
        exact gact_good (HR.out.keep (Keep.refl Nil _).drew) HN.out (by omega) (by omega) x.a _ s' a0 (by omega) hs' hs1'
      have HA := hid hact
      obtain ⟨sn, hsn⟩ := Int.eq_ofNat_of_zero_le s0'
      have SL := hid (show sn < 18446744073709551616 by omega)
      have SN := hid (show sn ≠ 0 → sn = (if x.s = 0 then 18446744073709551615 else x.s.toNat) from fun h => by rw [if_neg (by omega)]; omega)
      have SZ := hid (show sn = 0 → 18446744073709551615 = (if x.s = 0 then 18446744073709551615 else x.s.toNat) from fun h => by rw [if_pos (by omega)])
      rw [hsn] at q3
      clear hx hc hcx hact w1 w2 w3 w4 HR s0' s1 hsn
      by_cases hs : sn = 0
      · have d1 : ((sn : Int) == 0) = true := by rw [hs]; rfl
        have ha' := HA.out 18446744073709551615 (by decide) (by decide) (SZ.out hs)
        rw [show ((18446744073709551615 : Nat) : Int) = 18446744073709551615 from rfl] at ha'
        have HA' := hid ha'
        clear hs ha'
        go_wp2
        go_region_held3 (fun w' => w'.cell? ⟨xb, xo + k * 4, none⟩ = some (.int .u8 x.h) ∧ w'.cell? ⟨xb, xo + k * 4 + 1, none⟩ = some (.int .u8 x.a) ∧ w'.cell? ⟨xb, xo + k * 4 + 2, none⟩ = some (.int .u8 x.v)) (go_keep)
          ((go_at_call 50; (with_reducible refine HA'.out.mono ?_); rintro e w5 ⟨rfl, hg5⟩; obtain ⟨p0, p1, p2, -⟩ := HC.out w5 hg5.own; have G5 := hid hg5; clear hg5))
        go_wp2
        go_roundw
        case rel => exact ⟨k + 1, by omega, by go_num, G5⟩
        case measure => simp [intOf]; omega
      · have d1 : ((sn : Int) == 0) = false := beq_eq_false_iff_ne.2 (by omega)
        have HS := hid hs
        clear hs
        go_wp2
        go_region_held3 (fun w' => w'.cell? ⟨xb, xo + k * 4, none⟩ = some (.int .u8 x.h) ∧ w'.cell? ⟨xb, xo + k * 4 + 1, none⟩ = some (.int .u8 x.a) ∧ w'.cell? ⟨xb, xo + k * 4 + 2, none⟩ = some (.int .u8 x.v)) (go_keep)
          ((go_at_call 50; (with_reducible refine (HA.out sn HS.out SL.out (SN.out HS.out)).mono ?_); rintro e w5 ⟨rfl, hg5⟩; obtain ⟨p0, p1, p2, -⟩ := HC.out w5 hg5.own; have G5 := hid hg5; clear hg5))
        go_wp2
        go_roundw
        case rel => exact ⟨k + 1, by omega, by go_num, G5⟩
        case measure => simp [intOf]; omega
    · obtain rfl : k = l.length := by omega
      go_wp2
      go_ret
      exact ⟨rfl, by rw [HPL.out]; exact HR.out⟩
end
end Go.Proofs.Ytihgfklajhhikaa
