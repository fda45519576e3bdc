/- session: contracts of Close and Owners. -/
import Derived.Test.YtjghenomeindcaaGreatSessStep
set_option linter.unusedVariables false
set_option linter.unusedSimpArgs false
namespace Go.Lf
/-- Who has a slot, by the owner's word. -/
def ownOf (x : Int) : Int := if 1 ≤ x ∧ x ≤ 64 then x - 1 else -1
end Go.Lf
namespace Go.Proofs.YtjghenomeindcaaGreat
open Go.RowKit Go.Lf
attribute [local go_sem] fld0 fld1 fld2 fld3 fld4 fld5 fld6 fld7 fld8 fld9 fldc fldl
section
variable {w : World} {A : Nat → Prop} {c : Cfg} {b mb L : Nat} {F G : Nat → Prop} {ws : List Int} {log : List Acc} {t slot : Int}
theorem sclose_nil : Calls Tryz.prog 12 #[.pointer none, .int .i64 t, .int .i64 slot] w fun e w' => e = .returned (.int .i64 1) ∧ Keep Nil w w' := by
  go_enter Tryz.func12, Tryz.ntmps12
  go_wp2
  go_ret
  exact ⟨rfl, Keep.refl _ _⟩
theorem sclose_bad (b : Nat) (h : t < 0 ∨ 64 ≤ t) : Calls Tryz.prog 12 #[.pointer (some ⟨b, 0, none⟩), .int .i64 t, .int .i64 slot] w fun e w' => e = .returned (.int .i64 2) ∧ Keep Nil w w' := by
  by_cases h1 : t < 0
  · have d : decide (t < 0) = true := decide_eq_true h1
    clear h h1
    go_enter Tryz.func12, Tryz.ntmps12
    go_wp2
    go_ret
    exact ⟨rfl, Keep.refl _ _⟩
  · have d : decide (t < 0) = false := decide_eq_false h1
    have d2 : decide (64 ≤ t) = true := decide_eq_true (by omega)
    clear h h1
    go_enter Tryz.func12, Tryz.ntmps12
    go_wp2
    go_ret
    exact ⟨rfl, Keep.refl _ _⟩
set_option maxRecDepth 100000 in
set_option maxHeartbeats 4000000 in
theorem sclose_range (h : SP w A c b mb L F G ws log) (hok : c.ok) (t0 : 0 ≤ t) (t1 : t < 64) (hs : slot < 0 ∨ (c.sl : Int) ≤ slot) : Calls Tryz.prog 12 #[.pointer (some ⟨b, 0, none⟩), .int .i64 t, .int .i64 slot] w fun e w' => e = .returned (.int .i64 3) ∧ Keep Nil w w' := by
  have d1 : decide (t < 0) = false := decide_eq_false (by omega)
  have d2 : decide (64 ≤ t) = false := decide_eq_false (by omega)
  have H := hid h
  have HOK := hid hok
  by_cases h1 : slot < 0
  · have d : decide (slot < 0) = true := decide_eq_true h1
    clear h h1 hs t0 t1 hok
    go_enter Tryz.func12, Tryz.ntmps12
    go_wp2
    go_ret
    exact ⟨rfl, Keep.refl _ _⟩
  · have d : decide (slot < 0) = false := decide_eq_false h1
    have d3 : decide ((c.sl : Int) ≤ slot) = true := decide_eq_true (by omega)
    clear h h1 hs t0 t1 hok
    go_enter Tryz.func12, Tryz.ntmps12
    go_wp2_with fail
    refine (bconfig_ok H.out HOK.out).mono ?_
    rintro e w1 ⟨t1, t2, t3, t4, t5, t6, a, cp, rfl, hk⟩
    have HK := hid hk
    clear hk
    go_wp2
    go_ret
    exact ⟨rfl, HK.out⟩
set_option maxRecDepth 100000 in
set_option maxHeartbeats 4000000 in
theorem sclose_state (h : SP w A c b mb L F G ws log) (hok : c.ok) (t0 : 0 ≤ t) (t1 : t < 64) (s0 : 0 ≤ slot) (s1 : slot < c.sl) {x : Int} (hx : ws[slot.toNat]? = some x) (hne : x ≠ t + 1) : Calls Tryz.prog 12 #[.pointer (some ⟨b, 0, none⟩), .int .i64 t, .int .i64 slot] w fun e w' => e = .returned (.int .i64 8) ∧ Keep Nil w w' := by
  have d1 : decide (t < 0) = false := decide_eq_false (by omega)
  have d2 : decide (64 ≤ t) = false := decide_eq_false (by omega)
  have d3 : decide (slot < 0) = false := decide_eq_false (by omega)
  have d4 : decide ((c.sl : Int) ≤ slot) = false := decide_eq_false (by omega)
  have d5 : (x != t + 1) = true := bne_iff_ne.2 hne
  have wt : IntKind.u64.wrap t = t := by rw [IntKind.wrap_u64]; omega
  have wt1 : IntKind.u64.wrap (t + 1) = t + 1 := by rw [IntKind.wrap_u64]; omega
  have hsl := hok.sl2
  have H := hid h
  have HOK := hid hok
  have HX := hid hx
  have S64 := hid (show slot ≤ 64 by omega)
  have S0 := hid s0
  clear h hok hx hne t0 t1 s0 s1
  go_enter Tryz.func12, Tryz.ntmps12
  go_wp2_with fail
  refine (bconfig_ok H.out HOK.out).mono ?_
  rintro e w1 ⟨t1, t2, t3, t4, t5, t6, a, cp, rfl, hk⟩
  have HK := hid hk
  clear hk
  go_wp2_with fail
  refine (bmem_ok (H.out.quiet HK.out)).mono ?_
  rintro e w2 ⟨rfl, rfl⟩
  go_wp2_with fail
  refine (owner_ok (H.out.quiet HK.out) slot S0.out S64.out).mono ?_
  rintro e w3 ⟨rfl, hk3⟩
  have HK3 := hid (HK.out.trans hk3 (fun _ _ h => h))
  clear hk3
  go_wp2_with fail
  refine (peek_ok (H.out.quiet HK3.out).mem slot x S0.out HX.out).mono ?_
  rintro e w4 ⟨rfl, rfl⟩
  go_wp2
  go_ret
  exact ⟨rfl, HK3.out⟩
set_option maxRecDepth 100000 in
set_option maxHeartbeats 4000000 in
theorem sclose_ok (h : SP w A c b mb L F G ws log) (hok : c.ok) (t0 : 0 ≤ t) (t1 : t < 64) (s0 : 0 ≤ slot) (s1 : slot < c.sl) (hx : ws[slot.toNat]? = some (t + 1)) (hlog : log.length < 1000000000000) : Calls Tryz.prog 12 #[.pointer (some ⟨b, 0, none⟩), .int .i64 t, .int .i64 slot] w fun e w' => e = .returned (.int .i64 0) ∧ (StoreL c b mb).To w A (ws.set slot.toNat 0, log ++ [⟨t, slot, 2, t + 1, 0, false⟩]) w' := by
  have d1 : decide (t < 0) = false := decide_eq_false (by omega)
  have d2 : decide (64 ≤ t) = false := decide_eq_false (by omega)
  have d3 : decide (slot < 0) = false := decide_eq_false (by omega)
  have d4 : decide ((c.sl : Int) ≤ slot) = false := decide_eq_false (by omega)
  have wt : IntKind.u64.wrap t = t := by rw [IntKind.wrap_u64]; omega
  have wt1 : IntKind.u64.wrap (t + 1) = t + 1 := by rw [IntKind.wrap_u64]; omega
  have hsl := hok.sl2
  have H := hid h
  have HOK := hid hok
  have HX := hid hx
  have S64 := hid (show slot ≤ 64 by omega)
  have S0 := hid s0
  have T0 := hid t0
  have T1 := hid t1
  clear h hok hx t0 t1 s0 s1
  go_enter Tryz.func12, Tryz.ntmps12
  go_wp2_with fail
  refine (bconfig_ok H.out HOK.out).mono ?_
  rintro e w1 ⟨t1, t2, t3, t4, t5, t6, a, cp, rfl, hk⟩
  have HK := hid hk
  clear hk
  go_wp2_with fail
  refine (bmem_ok (H.out.quiet HK.out)).mono ?_
  rintro e w2 ⟨rfl, rfl⟩
  go_wp2_with fail
  refine (owner_ok (H.out.quiet HK.out) slot S0.out S64.out).mono ?_
  rintro e w3 ⟨rfl, hk3⟩
  have HK3 := hid (HK.out.trans hk3 (fun _ _ h => h))
  clear hk3
  go_wp2_with fail
  refine (peek_ok (H.out.quiet HK3.out).mem slot (t + 1) S0.out HX.out).mono ?_
  rintro e w4 ⟨rfl, rfl⟩
  go_wp2_with fail
  refine (bmem_ok (H.out.quiet HK3.out)).mono ?_
  rintro e w5 ⟨rfl, rfl⟩
  go_wp2_with fail
  refine (owner_ok (H.out.quiet HK3.out) slot S0.out S64.out).mono ?_
  rintro e w6 ⟨rfl, hk6⟩
  have HK6 := hid (HK3.out.trans hk6 (fun _ _ h => h))
  clear hk6
  go_wp2_with fail
  refine (store_ok (H.out.quiet HK6.out).mem t slot (t + 1) 0 T0.out T1.out S0.out HX.out hlog).mono ?_
  rintro e w7 ⟨rfl, hm⟩
  have HM := hid (H.out.turn HK6.out hm)
  clear hm
  go_wp2
  go_ret
  exact ⟨rfl, HM.out⟩
theorem sowners_nil : Calls Tryz.prog 13 #[.pointer none] w fun e w' => e = .returned (.slice none 0 0) ∧ w = w' := by
  go_enter Tryz.func13, Tryz.ntmps13
  go_wp2
  go_ret
  exact ⟨rfl, rfl⟩
/-- The owners are returned. -/
def OwnTo (w : World) (l : List Int) (e : Ending) (w' : World) : Prop :=
  ∃ g, e = .returned (.slice (some ⟨g, 0, none⟩) l.length l.length) ∧ w'.heap[g]? = some (.cells (i64s l).toArray 3 (0, 0)) ∧ w.heap.size ≤ g ∧ Keep Nil w w'
theorem i64s_set (l : List Int) (i : Nat) (v : Int) : (i64s l).toArray.setIfInBounds i (.int .i64 v) = (i64s (l.set i v)).toArray := by simp [i64s, List.map_set]
set_option maxRecDepth 100000 in
set_option maxHeartbeats 8000000 in
theorem sowners_ok (h : SP w A c b mb L F G ws log) (hok : c.ok) (hlen : c.sl ≤ ws.length) (hwf : ∀ x ∈ ws, 0 ≤ x ∧ x < 18446744073709551616) : Calls Tryz.prog 13 #[.pointer (some ⟨b, 0, none⟩)] w (OwnTo w ((ws.take c.sl).map ownOf)) := by
  have H := hid h
  have HOK := hid hok
  have hsl := hok.sl2
  have hmk := make_int c.sl (by omega)
  have HWF := hid hwf
  have hll : ((ws.take c.sl).map ownOf).length = c.sl := by rw [List.length_map, List.length_take]; omega
  clear h hok hwf
  go_enter Tryz.func13, Tryz.ntmps13
  go_wp2_with fail
  refine (bconfig_ok H.out HOK.out).mono ?_
  rintro e w1 ⟨t1, t2, t3, t4, t5, t6, a, cp, rfl, hk⟩
  have HK := hid hk
  clear hk
  go_wp2
  go_loopw [15] (fun i wr => ∃ k : Nat, k ≤ c.sl ∧ i = .int .i64 k ∧ wr.heap[w1.heap.size]? = some (.cells (i64s (((ws.take k).map ownOf) ++ List.replicate (c.sl - k) 0)).toArray 3 (0, 0)) ∧ Keep Nil w wr) (fun i _ => c.sl - (intOf i).toNat)
  case atStart => exact ⟨0, Nat.zero_le _, rfl, by rw [heap_alloc_new]; simp [i64s], HK.out.alloc _⟩
  case round =>
    obtain ⟨k, hk, rfl, hr, hkw⟩ := hrel
    have HR := hid hr
    have HKW := hid hkw
    have HZ := hid (HK.out.size)
    clear hkw
    by_cases hlt : k < c.sl
    · obtain ⟨x, hx⟩ : ∃ x, ws[k]? = some x := ⟨_, List.getElem?_eq_getElem (by omega)⟩
      obtain ⟨x0, x1⟩ := HWF.out x (List.mem_of_getElem? hx)
      have dk : decide ((k : Int) < (c.sl : Int)) = true := decide_eq_true (by omega)
      have k0 : (0 : Int) ≤ (k : Int) := by omega
      have k1 : (k : Int) < (c.sl : Int) := by omega
      have wk : IntKind.i64.wrap ((k : Int) + 1) = (k : Int) + 1 := by rw [IntKind.wrap_i64]; omega
      obtain ⟨l, hl⟩ : ∃ l, l = (ws.take k).map ownOf ++ List.replicate (c.sl - k) 0 := ⟨_, rfl⟩
      have hlen' : l.length = c.sl := by rw [hl, List.length_append, List.length_map, List.length_take, List.length_replicate]; omega
      have hnext : (ws.take (k + 1)).map ownOf ++ List.replicate (c.sl - (k + 1)) 0 = l.set k (ownOf x) := by
        rw [hl, List.take_add_one, hx, Option.toList_some, List.map_append, List.map_singleton, List.append_assoc]
        have e1 : ((ws.take k).map ownOf).length = k := by rw [List.length_map, List.length_take]; omega
        rw [List.set_append_right _ _ (by omega), e1, Nat.sub_self, show c.sl - k = (c.sl - (k + 1)) + 1 by omega, List.replicate_succ, List.set_cons_zero]
        rfl
      rw [← hl] at hr
      obtain ⟨y, hy⟩ : ∃ y, l[k]? = some y := ⟨_, List.getElem?_eq_getElem (by omega)⟩
      have cx : wr.cell? ⟨w1.heap.size, k, none⟩ = some (.int .i64 y) := by rw [cell_of hr]; simp [i64s, hy]
      have fx : wr.frozen? ⟨w1.heap.size, k, none⟩ = false := free_of hr k
      have HNEXT := hid hnext
      have HR2 := hid hr
      have HLT := hid hlt
      have HX := hid hx
      have HX0 := hid x0
      clear hlt hk hx hr hl hnext hy
      go_wp2_with fail
      obtain ⟨W2, hW2⟩ : ∃ W2, W2 = wr.setCell ⟨w1.heap.size, k, none⟩ (.int .i64 (-1)) := ⟨_, rfl⟩
      rw [← hW2]
      have h2 : W2.heap[w1.heap.size]? = some (.cells (i64s (l.set k (-1))).toArray 3 (0, 0)) := by rw [hW2, set_same HR2.out, i64s_set]
      have k2 := HKW.out.setCell (p := ⟨w1.heap.size, k, none⟩) (.inr HZ.out) (.int .i64 (-1))
      rw [← hW2] at k2
      have H2 := hid h2
      have K2 := hid k2
      clear hW2 h2 k2 cx fx
      refine (bmem_ok (H.out.quiet K2.out)).mono ?_
      rintro e w2 ⟨rfl, rfl⟩
      go_wp2_with fail
      refine (owner_ok (H.out.quiet K2.out) (k : Int) (by omega) (by omega)).mono ?_
      rintro e w3 ⟨rfl, hk3⟩
      have H3 := hid (hk3.at H2.out (fun h => h))
      have K3 := hid (K2.out.trans hk3 (fun _ _ h => h))
      clear hk3
      go_wp2_with fail
      refine (peek_ok (H.out.quiet K3.out).mem (k : Int) x (by omega) (by simpa using HX.out)).mono ?_
      rintro e w4 ⟨rfl, rfl⟩
      have c3 : w3.cell? ⟨w1.heap.size, k, none⟩ = some (.int .i64 (-1)) := by rw [cell_of H3.out]; simp [i64s, hlen', HLT.out]
      have f3 : w3.frozen? ⟨w1.heap.size, k, none⟩ = false := free_of H3.out k
      by_cases h1 : 1 ≤ x
      · by_cases h64 : x ≤ 64
        · have d1 : decide (1 ≤ x) = true := decide_eq_true h1
          have d2 : decide (x ≤ 64) = true := decide_eq_true h64
          have wx : IntKind.i64.wrap x = x := by rw [IntKind.wrap_i64]; omega
          have wx1 : IntKind.i64.wrap (x - 1) = x - 1 := by rw [IntKind.wrap_i64]; omega
          have HOX := hid (show ownOf x = x - 1 from if_pos ⟨h1, h64⟩)
          clear h1 h64 x0 x1
          go_wp2
          go_roundw
          case rel => exact ⟨k + 1, by have := HLT.out; omega, by go_num, by rw [HNEXT.out, HOX.out, set_same H3.out, i64s_set, List.set_set], K3.out.setCell (.inr HZ.out) _⟩
          case measure => have := HLT.out; simp [intOf]; omega
        · have d1 : decide (1 ≤ x) = true := decide_eq_true h1
          have d2 : decide (x ≤ 64) = false := decide_eq_false h64
          have HOX := hid (show ownOf x = -1 from if_neg (fun h => h64 h.2))
          clear h1 h64 x0 x1
          go_wp2
          go_roundw
          case rel => exact ⟨k + 1, by have := HLT.out; omega, by go_num, by rw [HNEXT.out, HOX.out]; exact H3.out, K3.out⟩
          case measure => have := HLT.out; simp [intOf]; omega
      · have d1 : decide (1 ≤ x) = false := decide_eq_false h1
        have HOX := hid (show ownOf x = -1 from if_neg (fun h => h1 h.1))
        clear h1 x0 x1
        go_wp2
        go_roundw
        case rel => exact ⟨k + 1, by have := HLT.out; omega, by go_num, by rw [HNEXT.out, HOX.out]; exact H3.out, K3.out⟩
        case measure => have := HLT.out; simp [intOf]; omega
    · have hkn : k = c.sl := by omega
      subst hkn
      have dk : decide ((c.sl : Int) < (c.sl : Int)) = false := decide_eq_false (by omega)
      clear hlt hk hr
      go_wp2
      go_ret
      have HR' := HR.out
      rw [Nat.sub_self, List.replicate_zero, List.append_nil] at HR'
      exact ⟨w1.heap.size, by rw [hll]; rfl, HR', HZ.out, HKW.out⟩
end
end Go.Proofs.YtjghenomeindcaaGreat
