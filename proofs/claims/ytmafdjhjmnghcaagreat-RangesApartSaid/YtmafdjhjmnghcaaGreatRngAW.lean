/- RangesApart: what is held, asked. -/
import Derived.Test.YtmafdjhjmnghcaaGreatRngQS
import Derived.Test.YtmafdjhjmnghcaaGreatRngAP
set_option linter.unusedVariables false
set_option linter.unusedSimpArgs false
namespace Go.Lf
open Go.RowKit
theorem heldP_tab {lk T : Nat} {ws : List Int} {tb : List (Option Spn)} (h : TabE lk T ws tb) : ∀ n : Nat, n ≤ lk → heldP T ws n = (tb.take n).filterMap id
  | 0, _ => by rw [List.take_zero]; rfl
  | n + 1, hn => by
    obtain ⟨o, ho⟩ : ∃ o, tb[n]? = some o := ⟨_, List.getElem?_eq_getElem (by rw [h.len]; omega)⟩
    have ht : tb.take (n + 1) = tb.take n ++ [o] := by rw [List.take_add_one, ho]; rfl
    rw [heldP, heldP_tab h n (by omega), ht, List.filterMap_append]
    cases o with
    | none => rw [h.no n ho]; rfl
    | some sp =>
      obtain ⟨a, b, c⟩ := h.yes n sp ho
      rw [a, b, c]
      rfl
theorem held_all {lk T : Nat} {ws : List Int} {tb : List (Option Spn)} (h : TabE lk T ws tb) : heldP T ws lk = tb.filterMap id := by
  rw [heldP_tab h lk (Nat.le_refl _), List.take_of_length_le (by rw [h.len]; exact Nat.le_refl _)]
theorem used_at : ∀ {tb : List (Option Spn)} {i j : Nat} {a b : Spn}, i ≠ j → (tb.filterMap id)[i]? = some a → (tb.filterMap id)[j]? = some b → ∃ i' j' : Nat, i' ≠ j' ∧ tb[i']? = some (some a) ∧ tb[j']? = some (some b)
  | [], i, _, _, _, _, h, _ => by cases h
  | none :: r, i, j, a, b, hne, h1, h2 => by
    obtain ⟨i', j', q1, q2, q3⟩ := used_at (tb := r) hne h1 h2
    exact ⟨i' + 1, j' + 1, by omega, q2, q3⟩
  | some x :: r, i, j, a, b, hne, h1, h2 => by
    have one : ∀ {i : Nat} {a : Spn}, (r.filterMap id)[i]? = some a → ∃ i', r[i']? = some (some a) := fun {i a} h => by
      have hm := List.mem_of_getElem? h
      rw [List.mem_filterMap] at hm
      obtain ⟨o, ho, e⟩ := hm
      obtain ⟨i', hi'⟩ := List.getElem?_of_mem ho
      have e' : o = some a := e
      exact ⟨i', by rw [hi', e']⟩
    have hfm : (some x :: r).filterMap id = x :: r.filterMap id := rfl
    rw [hfm] at h1 h2
    cases i with
    | zero =>
      cases j with
      | zero => exact absurd rfl hne
      | succ j =>
        cases h1
        obtain ⟨j', hj'⟩ := one (i := j) h2
        exact ⟨0, j' + 1, by omega, rfl, hj'⟩
    | succ i =>
      cases j with
      | zero =>
        cases h2
        obtain ⟨i', hi'⟩ := one (i := i) h1
        exact ⟨i' + 1, 0, by omega, hi', rfl⟩
      | succ j =>
        obtain ⟨i', j', q1, q2, q3⟩ := used_at (tb := r) (i := i) (j := j) (by omega) h1 h2
        exact ⟨i' + 1, j' + 1, by omega, q2, q3⟩
end Go.Lf
namespace Go.Proofs.YtmafdjhjmnghcaaGreat
open Go.RowKit Go.Lf
section
variable {w wr w' : World} {b : Nat}
set_option maxRecDepth 100000 in
set_option maxHeartbeats 4000000 in
theorem apart_ok (hl : List Spn) (n : Int) (hh : Calls Tryz.prog 17 #[.pointer (some ⟨b, 0, none⟩)] w (HeldTo w hl)) (hn : n = hl.length) (hm : hl.length ≤ 1000)
    (hap : ∀ (i j : Nat) (a b : Spn), i ≠ j → hl[i]? = some a → hl[j]? = some b → ovl a b = false) :
    Calls Tryz.prog 30 #[.pointer (some ⟨b, 0, none⟩), .int .i64 n] w fun e w' => e = .returned (.bool true) ∧ Keep Nil w w' := by
  subst hn
  have HAP := hid hap
  have HH := hid hh
  clear hap hh
  go_enter Tryz.func30, Tryz.ntmps30
  go_wp2_with fail
  refine HH.out.mono ?_
  rintro e w1 ⟨a, cp, rfl, hrd, hk, -⟩
  have HK := hid hk
  have HRD := hid hrd
  clear hk hrd HH
  go_wp2
  go_loopw [6] (fun i wz => ∃ k : Nat, k ≤ hl.length ∧ i = .int .i64 k ∧ Keep Nil w1 wz) (fun i _ => hl.length - (intOf i).toNat)
  case atStart => exact ⟨0, Nat.zero_le _, rfl, Keep.refl _ _⟩
  case round =>
    obtain ⟨k, hk, rfl, hkk⟩ := hrel
    have HKK := hid hkk
    clear hkk
    have wk : IntKind.i64.wrap ((k : Int) + 1) = (k : Int) + 1 := by rw [IntKind.wrap_i64]; omega
    by_cases hlt : k < hl.length
    · have d1 : decide ((k : Int) < (hl.length : Int)) = true := decide_eq_true (by omega)
      have e1 : decide (k < hl.length) = true := decide_eq_true hlt
      have k0 : (0 : Int) ≤ (k : Int) := by omega
      have k1 : (k : Int) < (hl.length : Int) := by omega
      obtain ⟨y, hy⟩ : ∃ y, hl[k]? = some y := ⟨_, List.getElem?_eq_getElem hlt⟩
      have HY := hid hy
      have HLT := hid hlt
      clear hy hlt hk
      go_wp2
      obtain ⟨w2, hw2⟩ : ∃ v, v = wr := ⟨_, rfl⟩
      rw [← hw2] at HKK ⊢
      clear hw2
      go_loopw [7] (fun j wz => ∃ q : Nat, q ≤ k ∧ j = .int .i64 q ∧ Keep Nil w2 wz) (fun j _ => k - (intOf j).toNat)
      case atStart => exact ⟨0, Nat.zero_le _, rfl, Keep.refl _ _⟩
      case round =>
        obtain ⟨q, hq, rfl, hqk⟩ := hrel
        have HQK := hid (HKK.out.trans hqk (fun _ _ h => h))
        have HQ2 := hid hqk
        clear hqk
        have wq : IntKind.i64.wrap ((q : Int) + 1) = (q : Int) + 1 := by rw [IntKind.wrap_i64]; have := HLT.out; omega
        by_cases hqt : q < k
        · have d2 : decide ((q : Int) < (k : Int)) = true := decide_eq_true (by omega)
          have e2 : decide (q < k) = true := decide_eq_true hqt
          have q0 : (0 : Int) ≤ (q : Int) := by omega
          have q1 : (q : Int) < (hl.length : Int) := by have := HLT.out; omega
          obtain ⟨x, hx⟩ : ∃ x, hl[q]? = some x := ⟨_, List.getElem?_eq_getElem (by have := HLT.out; omega)⟩
          obtain ⟨bb, off, cc, hv, hcell⟩ := Rd.cell HRD.out (by have := HLT.out; omega)
          simp only [Value.slice.injEq] at hv
          obtain ⟨hv1, -, hv2⟩ := hv
          have hcell2 : ∀ (j : Nat) (u : Value), (spnCells hl)[j]? = some u → wr.cell? ⟨bb, off + j, none⟩ = some u := fun j u h => HQK.out.cell (hcell j u h) (fun h => h)
          have c0 : wr.cell? ⟨bb, off + k * 2, none⟩ = some (.int .u64 y.1) := hcell2 (k * 2) _ (by have := eqS_at HY.out (j := 0) (by decide); simpa using this)
          have c1 : wr.cell? ⟨bb, off + k * 2 + 1, none⟩ = some (.int .u64 y.2) := by rw [Nat.add_assoc]; exact hcell2 (k * 2 + 1) _ (by have := eqS_at HY.out (j := 1) (by decide); simpa using this)
          have c2 : wr.cell? ⟨bb, off + q * 2, none⟩ = some (.int .u64 x.1) := hcell2 (q * 2) _ (by have := eqS_at hx (j := 0) (by decide); simpa using this)
          have c3 : wr.cell? ⟨bb, off + q * 2 + 1, none⟩ = some (.int .u64 x.2) := by rw [Nat.add_assoc]; exact hcell2 (q * 2 + 1) _ (by have := eqS_at hx (j := 1) (by decide); simpa using this)
          have HOV := hid (HAP.out k q y x (by omega) HY.out hx)
          have HQT := hid hqt
          clear hcell hcell2 hx hqt hq
          subst hv1 hv2
          go_wp2
          go_region_held3 (fun w' => w'.cell? ⟨bb, off + k * 2, none⟩ = some (.int .u64 y.1) ∧ w'.cell? ⟨bb, off + k * 2 + 1, none⟩ = some (.int .u64 y.2) ∧ w'.cell? ⟨bb, off + q * 2, none⟩ = some (.int .u64 x.1) ∧ w'.cell? ⟨bb, off + q * 2 + 1, none⟩ = some (.int .u64 x.2)) (go_keep)
            (first | (go_at_call 32; (with_reducible refine (overlap_ok y x false HOV.out.symm).mono ?_); rintro e w20 ⟨rfl, hk20⟩; have r1 := (((Keep.refl Nil wr).drew).trans hk20 (fun _ _ h => h)); have i0 := r1.cell c0 (fun h => h); have i1 := r1.cell c1 (fun h => h); have i2 := r1.cell c2 (fun h => h); have i3 := r1.cell c3 (fun h => h); have HR1 := hid r1; clear r1 hk20))
          all_goals
            have HKE := hid (HQ2.out.trans HR1.out (fun _ _ h => h))
            go_wp2
            go_roundw
            case rel => exact ⟨q + 1, by have := HQT.out; omega, by go_num, HKE.out⟩
            case measure => have := HQT.out; simp [intOf]; omega
        · have d2 : decide ((q : Int) < (k : Int)) = false := decide_eq_false (by omega)
          have e2 : decide (q < k) = false := decide_eq_false hqt
          go_wp2
          go_roundw
          case rel => exact ⟨k + 1, by have := HLT.out; omega, by go_num, HQK.out⟩
          case measure => have := HLT.out; simp [intOf]; omega
    · obtain rfl : k = hl.length := by omega
      go_wp2
      go_ret
      exact ⟨by simp, HK.out.trans HKK.out (fun _ _ h => h)⟩
set_option maxRecDepth 100000 in
set_option maxHeartbeats 4000000 in
theorem listed_ok (hl os : List Spn) (es : List Int) (bo be n : Nat) (hh : Calls Tryz.prog 17 #[.pointer (some ⟨b, 0, none⟩)] w (HeldTo w hl)) (hm : hl.length ≤ 1000) (hos : os.length = n) (hes : es.length = n) (hn : n ≤ 1000)
    (ho : w.heap[bo]? = some (.cells (spnCells os).toArray 28 (0, 0))) (he : w.heap[be]? = some (.cells (es.map (Value.int .i64)).toArray 3 (0, 0)))
    (hin : ∀ (k : Nat) (e : Int) (x : Spn), es[k]? = some e → os[k]? = some x → e < 0 ∨ x ∈ hl) :
    Calls Tryz.prog 31 #[.pointer (some ⟨b, 0, none⟩), .slice (some ⟨bo, 0, none⟩) n n, .slice (some ⟨be, 0, none⟩) n n] w fun e w' => e = .returned (.bool true) ∧ Keep Nil w w' := by
  have HIN := hid hin
  have HH := hid hh
  have HO := hid ho
  have HE := hid he
  have HN := hid (And.intro hos hes)
  clear hin hh ho he hos hes
  go_enter Tryz.func31, Tryz.ntmps31
  go_wp2_with fail
  refine HH.out.mono ?_
  rintro e w1 ⟨a, cp, rfl, hrd, hk, -⟩
  have HK := hid hk
  have HRD := hid hrd
  clear hk hrd HH
  go_wp2
  go_loopw [8] (fun i wz => ∃ k : Nat, k ≤ n ∧ i = .int .i64 k ∧ Keep Nil w1 wz) (fun i _ => n - (intOf i).toNat)
  case atStart => exact ⟨0, Nat.zero_le _, rfl, Keep.refl _ _⟩
  case round =>
    obtain ⟨k, hk, rfl, hkk⟩ := hrel
    have HKK := hid hkk
    clear hkk
    have wk : IntKind.i64.wrap ((k : Int) + 1) = (k : Int) + 1 := by rw [IntKind.wrap_i64]; omega
    by_cases hlt : k < n
    · have d1 : decide ((k : Int) < (n : Int)) = true := decide_eq_true (by omega)
      have e1 : decide (k < n) = true := decide_eq_true hlt
      have k0 : (0 : Int) ≤ (k : Int) := by omega
      have k1 : (k : Int) < (n : Int) := by omega
      obtain ⟨y, hy⟩ : ∃ y, os[k]? = some y := ⟨_, List.getElem?_eq_getElem (by rw [HN.out.1]; exact hlt)⟩
      obtain ⟨ev, hev⟩ : ∃ ev, es[k]? = some ev := ⟨_, List.getElem?_eq_getElem (by rw [HN.out.2]; exact hlt)⟩
      have HY := hid hy
      have HLT := hid hlt
      have ce : wr.cell? ⟨be, k, none⟩ = some (.int .i64 ev) := by
        rw [cell_of ((HK.out.trans HKK.out (fun _ _ h => h)).at HE.out (fun h => h))]; simp [hev]
      obtain ⟨q0, hq0⟩ : ∃ q0 : Bool, q0 = decide (ev < 0) := ⟨_, rfl⟩
      have HQ0 := hid (show q0 = true ∨ y ∈ hl.drop 0 by
        rcases HIN.out k ev y hev hy with h | h
        · exact .inl (by rw [hq0]; exact decide_eq_true h)
        · exact .inr h)
      have hq0' := hq0.symm
      clear hy hlt hk hev hq0
      go_wp2
      obtain ⟨w2, hw2⟩ : ∃ v, v = wr := ⟨_, rfl⟩
      rw [← hw2] at HKK ⊢
      clear hw2 ce hq0'
      go_loopw [9, 10] (fun v j wz => ∃ (q : Nat) (bv : Bool), q ≤ hl.length ∧ j = .int .i64 q ∧ v = .bool bv ∧ Keep Nil w2 wz ∧ (bv = true ∨ y ∈ hl.drop q)) (fun _ j _ => hl.length - (intOf j).toNat)
      case atStart => exact ⟨0, q0, Nat.zero_le _, rfl, rfl, Keep.refl _ _, HQ0.out⟩
      case round =>
        obtain ⟨q, bv, hq, rfl, hv, hqk, hbv⟩ := hrel
        subst hv
        have HQK := hid (HKK.out.trans hqk (fun _ _ h => h))
        have HQ2 := hid hqk
        have HBV := hid hbv
        clear hqk hbv
        have wq : IntKind.i64.wrap ((q : Int) + 1) = (q : Int) + 1 := by rw [IntKind.wrap_i64]; omega
        by_cases hqt : q < hl.length
        · have d2 : decide ((q : Int) < (hl.length : Int)) = true := decide_eq_true (by omega)
          have e2 : decide (q < hl.length) = true := decide_eq_true hqt
          have q0 : (0 : Int) ≤ (q : Int) := by omega
          have q1 : (q : Int) < (hl.length : Int) := by omega
          cases bv with
          | true =>
            have HQT := hid hqt
            clear hqt hq
            go_wp2
            go_quiet (fail)
            go_wp2
            go_roundw
            case rel => exact ⟨q + 1, true, by have := HQT.out; omega, by go_num, rfl, HQ2.out.drewN _, .inl rfl⟩
            case measure => have := HQT.out; simp [intOf]; omega
          | false =>
            obtain ⟨x, hx⟩ : ∃ x, hl[q]? = some x := ⟨_, List.getElem?_eq_getElem hqt⟩
            obtain ⟨bb, off, cc, hv, hcell⟩ := Rd.cell HRD.out (by omega)
            simp only [Value.slice.injEq] at hv
            obtain ⟨hv1, -, hv2⟩ := hv
            have hcell2 : ∀ (j : Nat) (u : Value), (spnCells hl)[j]? = some u → wr.cell? ⟨bb, off + j, none⟩ = some u := fun j u h => HQK.out.cell (hcell j u h) (fun h => h)
            have c2 : wr.cell? ⟨bb, off + q * 2, none⟩ = some (.int .u64 x.1) := hcell2 (q * 2) _ (by have := eqS_at hx (j := 0) (by decide); simpa using this)
            have c3 : wr.cell? ⟨bb, off + q * 2 + 1, none⟩ = some (.int .u64 x.2) := by rw [Nat.add_assoc]; exact hcell2 (q * 2 + 1) _ (by have := eqS_at hx (j := 1) (by decide); simpa using this)
            have c0 : wr.cell? ⟨bo, k * 2, none⟩ = some (.int .u64 y.1) := by
              rw [cell_of ((HK.out.trans HQK.out (fun _ _ h => h)).at HO.out (fun h => h))]; have := eqS_at HY.out (j := 0) (by decide); simpa using this
            have c1 : wr.cell? ⟨bo, k * 2 + 1, none⟩ = some (.int .u64 y.2) := by
              rw [cell_of ((HK.out.trans HQK.out (fun _ _ h => h)).at HO.out (fun h => h))]; have := eqS_at HY.out (j := 1) (by decide); simpa using this
            have HX := hid hx
            have HQT := hid hqt
            clear hcell hcell2 hx hqt hq
            subst hv1 hv2
            have HBN := hid (show x = y ∨ y ∈ hl.drop (q + 1) by
              rcases HBV.out with h | h
              · cases h
              · have hd : hl.drop q = x :: hl.drop (q + 1) := by
                  obtain ⟨h1, h2⟩ := List.getElem?_eq_some_iff.1 HX.out
                  rw [List.drop_eq_getElem_cons h1, h2]
                rw [hd] at h
                rcases List.mem_cons.1 h with h | h
                · exact .inl h.symm
                · exact .inr h)
            obtain ⟨x1, x2⟩ := x
            obtain ⟨y1, y2⟩ := y
            by_cases h1 : x1 = y1
            · by_cases h2 : x2 = y2
              · subst h1 h2
                go_wp2
                go_quiet (fail)
                go_wp2
                go_roundw
                case rel => exact ⟨q + 1, true, by have := HQT.out; omega, by go_num, rfl, HQ2.out.drewN _, .inl rfl⟩
                case measure => have := HQT.out; simp [intOf]; omega
              · have b2 : (x2 == y2) = false := beq_eq_false_iff_ne.2 h2
                subst h1
                go_wp2
                go_quiet (fail)
                go_wp2
                go_roundw
                case rel => exact ⟨q + 1, false, by have := HQT.out; omega, by go_num, rfl, HQ2.out.drewN _, .inr (HBN.out.resolve_left (fun e => h2 (congrArg Prod.snd e)))⟩
                case measure => have := HQT.out; simp [intOf]; omega
            · have b1 : (x1 == y1) = false := beq_eq_false_iff_ne.2 h1
              go_wp2
              go_quiet (fail)
              go_wp2
              go_roundw
              case rel => exact ⟨q + 1, false, by have := HQT.out; omega, by go_num, rfl, HQ2.out.drewN _, .inr (HBN.out.resolve_left (fun e => h1 (congrArg Prod.fst e)))⟩
              case measure => have := HQT.out; simp [intOf]; omega
        · have d2 : decide ((q : Int) < (hl.length : Int)) = false := decide_eq_false (by omega)
          have e2 : decide (q < hl.length) = false := decide_eq_false hqt
          obtain rfl : bv = true := by
            rcases HBV.out with h | h
            · exact h
            · rw [List.drop_eq_nil_of_le (by omega)] at h; cases h
          go_wp2
          go_roundw
          case rel => exact ⟨k + 1, by have := HLT.out; omega, by go_num, HQK.out⟩
          case measure => have := HLT.out; simp [intOf]; omega
    · obtain rfl : k = n := by omega
      go_wp2
      go_ret
      exact ⟨rfl, HK.out.trans HKK.out (fun _ _ h => h)⟩
end
end Go.Proofs.YtmafdjhjmnghcaaGreat
