/- domain.Set: contract. And DomainMembers: the walk. -/
import Derived.Test.YtfpobagkananeaaDomLaws
import Derived.BigQuiet
namespace Go.Proofs.Ytfpobagkananeaa
open Go.RowKit Go.Lf

def InR (l : List Int) : Prop := ∀ v ∈ l, 0 ≤ v ∧ v < 64

/-- The cells of a slice of numbers. -/
theorem rd_int {w : World} {a : Option Addr} {c : Nat} {l : List Int} (hrd : Rd w 1 (.slice a l.length c) l.length (i64s l)) {i : Nat} (hi : i < l.length) : ∃ b off, a = some ⟨b, off, none⟩ ∧ ∀ j x, l[j]? = some x → w.cell? ⟨b, off + j, none⟩ = some (.int .i64 x) := by
  obtain ⟨b, off, c', hv, hc⟩ := Rd.cell hrd (by omega)
  simp only [Value.slice.injEq] at hv
  exact ⟨b, off, hv.1, fun j x hj => hc j _ (i64s_at hj)⟩

section
variable {a : Option Addr} {c : Nat} {w : World}

set_option maxHeartbeats 1000000 in
theorem set_ok (l : List Int) (hrd : Rd w 1 (.slice a l.length c) l.length (i64s l)) (hm : l.length ≤ maxLen) (hr : InR l) :
    Calls Try.prog 13 #[.slice a l.length c] w fun e w' => e = .returned (.tuple #[.int .u64 (setN l), .int .i64 0]) ∧ w = w' := by
  unfold maxLen at hm
  have HR := hid hr
  have HD := hid hrd
  clear hr hrd
  go_enter Try.func13, Try.ntmps13
  go_wp2
  go_loop [4, 9] (fun s i => ∃ k : Nat, k ≤ l.length ∧ i = .int .i64 k ∧ s = .int .u64 (setTo l k : Nat)) (fun _ i => l.length - (intOf i).toNat)
  case atStart => exact ⟨0, Nat.zero_le _, rfl, by simp [setTo, setN]⟩
  case round =>
    obtain ⟨k, hk, rfl, rfl⟩ := hrel
    by_cases hlt : k < l.length
    · obtain ⟨b, off, rfl, hc⟩ := rd_int HD.out hlt
      obtain ⟨x, hx⟩ : ∃ x, l[k]? = some x := ⟨_, List.getElem?_eq_getElem hlt⟩
      obtain ⟨x0, x1⟩ := HR.out x (List.mem_of_getElem? hx)
      obtain ⟨u, rfl⟩ := Int.eq_ofNat_of_zero_le x0
      have hck := hc k _ hx
      have hsl : setTo l k < 18446744073709551616 := setTo_lt (fun j v _ hj => HR.out v (List.mem_of_getElem? hj))
      have so := hid (shl_or hsl (show u < 64 by omega))
      have nx := hid (setTo_succ hx)
      have d1 : decide ((u : Int) < 0) = false := decide_eq_false (by omega)
      have d2 : decide (64 ≤ (u : Int)) = false := decide_eq_false (by omega)
      clear hc hx
      generalize setTo l k = z at *
      go_wp2
      go_round
      case rel => exact ⟨k + 1, by omega, by go_num, by rw [nx.out, Int.toNat_natCast, ← so.out]⟩
      case measure => simp [intOf]; omega
    · obtain rfl : k = l.length := by omega
      rw [setTo_all]
      go_wp2
      go_ret2
      exact ⟨rfl, rfl⟩

set_option maxHeartbeats 1000000 in
theorem set_bad (l : List Int) (hrd : Rd w 1 (.slice a l.length c) l.length (i64s l)) (hm : l.length ≤ maxLen) (hr : ¬ InR l) :
    Calls Try.prog 13 #[.slice a l.length c] w fun e w' => e = .returned (.tuple #[.int .u64 0, .int .i64 3]) ∧ w = w' := by
  unfold maxLen at hm
  have HR := hid hr
  have HD := hid hrd
  clear hr hrd
  go_enter Try.func13, Try.ntmps13
  go_wp2
  go_loop [4, 9] (fun s i => ∃ k : Nat, k ≤ l.length ∧ i = .int .i64 k ∧ s = .int .u64 (setTo l k : Nat) ∧ ∀ j v, j < k → l[j]? = some v → 0 ≤ v ∧ v < 64) (fun _ i => l.length - (intOf i).toNat)
  case atStart => exact ⟨0, Nat.zero_le _, rfl, by simp [setTo, setN], fun j v h => absurd h (by omega)⟩
  case round =>
    obtain ⟨k, hk, rfl, rfl, hin⟩ := hrel
    have HI := hid hin
    clear hin
    by_cases hlt : k < l.length
    · obtain ⟨b, off, rfl, hc⟩ := rd_int HD.out hlt
      obtain ⟨x, hx⟩ : ∃ x, l[k]? = some x := ⟨_, List.getElem?_eq_getElem hlt⟩
      have hck := hc k _ hx
      have hsl : setTo l k < 18446744073709551616 := setTo_lt HI.out
      have HX := hid hx
      clear hc hx
      by_cases h0 : x < 0
      · have d1 : decide (x < 0) = true := decide_eq_true h0
        clear h0
        go_wp2
        go_ret2
        exact ⟨rfl, rfl⟩
      · have d1 : decide (x < 0) = false := decide_eq_false h0
        by_cases h1 : 64 ≤ x
        · have d2 : decide (64 ≤ x) = true := decide_eq_true h1
          clear h0 h1
          go_wp2
          go_ret2
          exact ⟨rfl, rfl⟩
        · obtain ⟨u, rfl⟩ := Int.eq_ofNat_of_zero_le (show 0 ≤ x by omega)
          have so := hid (shl_or hsl (show u < 64 by omega))
          have nx := hid (setTo_succ HX.out)
          have d2 : decide (64 ≤ (u : Int)) = false := decide_eq_false h1
          have hu : u < 64 := by omega
          clear h0 h1
          generalize setTo l k = z at *
          go_wp2
          go_round
          case rel => exact ⟨k + 1, by omega, by go_num, by rw [nx.out, Int.toNat_natCast, ← so.out], fun j v hj hv => by
            rcases Nat.lt_or_ge j k with h | h
            · exact HI.out j v h hv
            · obtain rfl : j = k := by omega
              rw [HX.out] at hv
              obtain rfl := Option.some.inj hv
              omega⟩
          case measure => simp [intOf]; omega
    · obtain rfl : k = l.length := by omega
      exfalso
      apply HR.out
      intro v hv
      obtain ⟨j, hj⟩ := List.getElem?_of_mem hv
      exact HI.out j v (lt_of_at hj) hj
end

theorem inr_mems (s : Nat) : InR (ints (mems s 64)) := by
  intro v hv
  simp only [ints, List.mem_map, mem_mems] at hv
  obtain ⟨i, ⟨h, -⟩, rfl⟩ := hv
  exact ⟨by show 0 ≤ (i : Int); omega, by show (i : Int) < 64; omega⟩
theorem length_ints (l : List Nat) : (ints l).length = l.length := by simp [ints]
theorem ints_at {l : List Nat} {i x : Nat} (h : l[i]? = some x) : (ints l)[i]? = some (x : Int) := by simp [ints, h]
/-- A list has a number among its first. -/
def hasTo (m : List Nat) (v : Int) (k : Nat) : Bool := (m.take k).any (fun x => (x : Int) == v)
theorem hasTo_zero (m : List Nat) (v : Int) : hasTo m v 0 = false := by simp [hasTo]
theorem hasTo_succ {m : List Nat} {v : Int} {k x : Nat} (h : m[k]? = some x) : hasTo m v (k + 1) = (hasTo m v k || ((x : Int) == v)) := by
  obtain ⟨hk, rfl⟩ := List.getElem?_eq_some_iff.1 h
  unfold hasTo
  rw [List.take_succ_eq_append_getElem hk, List.any_append]
  simp
theorem hasTo_all {l : List Int} {v : Int} (h : InR l) (hv : v ∈ l) : hasTo (mems (setN l) 64) v (mems (setN l) 64).length = true := by
  unfold hasTo
  rw [List.take_length, List.any_eq_true]
  exact ⟨v.toNat, mems_setN_mem h hv, by have := (h v hv).1; simp; omega⟩

set_option maxRecDepth 100000 in
set_option maxHeartbeats 8000000 in
theorem walk_members (w : World) (s : Int) (bs : (Lit.int .u64 s).wf = true) (v : Value) (zs : List Int) (hrd : Rd w 1 v zs.length (i64s zs)) (_bz : ∀ n ∈ zs, (Lit.int .i64 n).wf = true) (hm : zs.length ≤ maxLen) :
    Calls Try.prog 3 #[.int .u64 s, v] w fun e w' => e = .returned (.bool true) ∧ Keep Nil w w' := by
  obtain ⟨va, vc, rfl, -, -⟩ := id hrd
  obtain ⟨n, rfl, hn⟩ : ∃ n : Nat, s = n ∧ n < 18446744073709551616 := by
    simp [Lit.wf, IntKind.min, IntKind.max, IntKind.signed, IntKind.bits] at bs
    exact ⟨s.toNat, by omega, by omega⟩
  have HD := hid hrd
  clear hrd bs
  have hml := mems_length n 64
  have HM := hid (fun (w : World) => members_any n hn w)
  go_enter Try.func3, Try.ntmps3
  go_wp2_with fail
  refine (HM.out _).mono ?_
  rintro e w1 ⟨lv, rfl, hr1, hk1⟩
  obtain ⟨la, lc, rfl, -, -⟩ := id hr1
  have HL := hid (show Rd w1 1 (.slice la (ints (mems n 64)).length lc) (ints (mems n 64)).length (i64s (ints (mems n 64))) from by rw [length_ints]; exact hr1)
  have HK1 := hid hk1
  have hset := @set_ok la lc w1 (ints (mems n 64)) HL.out (by rw [length_ints]; unfold maxLen; omega) (inr_mems n)
  rw [setN_mems hn, length_ints] at hset
  have HSET := hid hset
  have HAT := hid (fun i x => @mems_lt n 64 i x)
  have HASC := hid (fun i x y => @mems_asc n 64 i x y)
  obtain ⟨m, hmm⟩ : ∃ m, m = mems n 64 := ⟨_, rfl⟩
  rw [← hmm] at hml HL HSET HAT HASC ⊢
  clear hr1 hk1 hmm hset
  go_wp2_with fail
  refine HSET.out.mono ?_
  rintro e w2 ⟨rfl, rfl⟩
  have e1 : ((n : Int) != (n : Int)) = false := by simp
  clear HSET
  go_wp2
  go_loopw [8] (fun i wr => ∃ k : Nat, k ≤ m.length ∧ i = .int .i64 k ∧ Keep Nil w1 wr) (fun i _ => m.length - (intOf i).toNat)
  case atStart => exact ⟨0, Nat.zero_le _, rfl, Keep.refl _ _⟩
  case round =>
    obtain ⟨k, hk, rfl, hkw⟩ := hrel
    have KW := hid hkw
    clear hkw
    by_cases hlt : k < m.length
    · obtain ⟨b, off, rfl, hc⟩ := rd_int (rd_keep HL.out KW.out (fun _ _ h => h)) (i := k) (by rw [length_ints]; exact hlt)
      obtain ⟨x, hx⟩ : ∃ x, m[k]? = some x := ⟨_, List.getElem?_eq_getElem hlt⟩
      have hx64 := HAT.out k x hx
      have hck := hc k _ (ints_at hx)
      obtain ⟨y, hy⟩ : ∃ y : Int, y = x := ⟨_, rfl⟩
      rw [← hy] at hck
      have d1 : decide (y < 0) = false := decide_eq_false (by omega)
      have d2 : decide (64 ≤ y) = false := decide_eq_false (by omega)
      have i0 : (0 : Int) ≤ (k : Int) := by omega
      have i1 : (k : Int) < (m.length : Int) := by omega
      cases k with
      | zero =>
        clear hc hx hy hx64
        have hc0 : wr.cell? ⟨b, off, none⟩ = some (.int .i64 y) := hck
        have hp0 : 0 < m.length := hlt
        clear hck i0 i1
        go_wp2
        go_quiet (fail)
        go_wp2
        go_roundw
        case rel => exact ⟨1, by omega, by go_num, KW.out.drewN _⟩
        case measure => simp [intOf]; omega
      | succ u =>
        obtain ⟨x', hx'⟩ : ∃ x', m[u]? = some x' := ⟨_, List.getElem?_eq_getElem (by omega)⟩
        have hasc := HASC.out u x' x hx' hx
        have hcu := hc u _ (ints_at hx')
        obtain ⟨y', hy'⟩ : ∃ y' : Int, y' = x' := ⟨_, rfl⟩
        rw [← hy'] at hcu
        have d3 : decide (y ≤ y') = false := decide_eq_false (by omega)
        have d4 : decide ((0 : Int) < (u : Int) + 1) = true := decide_eq_true (by omega)
        have j0 : (0 : Int) ≤ (u : Int) := by omega
        have j1 : (u : Int) < (m.length : Int) := by omega
        have j2 : (u : Int) + 1 < (m.length : Int) := by omega
        clear hc hx hy hx64 hasc hx' hy'
        go_wp2
        go_quiet (fail)
        go_wp2
        go_roundw
        case rel => exact ⟨u + 1 + 1, by omega, by go_num, KW.out.drewN _⟩
        case measure => simp [intOf]; omega
    · obtain rfl : k = m.length := by omega
      obtain ⟨wp, rfl⟩ : ∃ wp : World, wp = wr := ⟨_, rfl⟩
      have hkk := HK1.out.trans KW.out (fun _ _ h => h)
      have KK := hid hkk
      clear hkk
      by_cases hin : InR zs
      · have hs2 := @set_ok va vc wp zs (rd_keep HD.out KK.out (fun _ _ h => h)) hm hin
        have HS2 := hid hs2
        have hsl : setN zs < 18446744073709551616 := setN_lt hin
        have HM2 := hid (fun (w : World) => members_any (setN zs) hsl w)
        have hlen2 := mems_setN_length zs
        have HAS := hid (fun v => @hasTo_all zs v hin)
        have hml2 := mems_length (setN zs) 64
        clear hs2
        have hm' : zs.length ≤ 9223372036854775807 := by unfold maxLen at hm; omega
        clear hm
        go_wp2_with fail
        refine HS2.out.mono ?_
        rintro e w2 ⟨rfl, rfl⟩
        by_cases h3 : 300 < zs.length
        · have d1 : decide (300 < (zs.length : Int)) = true := decide_eq_true (by omega)
          go_wp2_with fail
          refine (known_any _).mono ?_
          rintro e w3 ⟨rfl, hk⟩
          have K3 := hid (KK.out.trans hk (fun _ _ h => h))
          clear hk
          go_wp2
          go_ret
          exact ⟨rfl, K3.out⟩
        · have d1 : decide (300 < (zs.length : Int)) = false := decide_eq_false (by omega)
          go_wp2_with fail
          refine (HM2.out _).mono ?_
          obtain ⟨q, hq⟩ : ∃ q, q = mems (setN zs) 64 := ⟨_, rfl⟩
          rw [← hq] at hlen2 HAS hml2 ⊢
          clear hq
          rintro e w3 ⟨qv, rfl, hr3, hk3⟩
          obtain ⟨qa, qc, rfl, -, -⟩ := id hr3
          have HQ := hid (show Rd w3 1 (.slice qa (ints q).length qc) (ints q).length (i64s (ints q)) from by rw [length_ints]; exact hr3)
          have K3 := hid (KK.out.trans hk3 (fun _ _ h => h))
          clear hr3 hk3
          go_wp2
          go_loopw [11] (fun i wr => ∃ k : Nat, k ≤ zs.length ∧ i = .int .i64 k ∧ Keep Nil w3 wr) (fun i _ => zs.length - (intOf i).toNat)
          case atStart => exact ⟨0, Nat.zero_le _, rfl, Keep.refl _ _⟩
          case round =>
            obtain ⟨j, hj, rfl, hkw⟩ := hrel
            have K4 := hid hkw
            clear hkw
            by_cases hjl : j < zs.length
            · obtain ⟨b2, off2, ha2, hc2⟩ := rd_int (rd_keep HD.out (K3.out.trans K4.out (fun _ _ h => h)) (fun _ _ h => h)) hjl
              obtain ⟨z, hz⟩ : ∃ z, zs[j]? = some z := ⟨_, List.getElem?_eq_getElem hjl⟩
              have hcz := hc2 j _ hz
              have hall := HAS.out z (List.mem_of_getElem? hz)
              have HALL := hid hall
              have HCZ := hid hcz
              clear hc2 hz hall hcz
              subst ha2
              have j0 : (0 : Int) ≤ (j : Int) := by omega
              have j1 : (j : Int) < (zs.length : Int) := by omega
              obtain ⟨wo, rfl⟩ : ∃ wo : World, wo = wr := ⟨_, rfl⟩
              go_wp2
              go_loopw [12, 13] (fun h i wi => ∃ p : Nat, p ≤ q.length ∧ i = .int .i64 p ∧ h = .bool (hasTo q z p) ∧ Keep Nil wo wi) (fun _ i _ => q.length - (intOf i).toNat)
              case atStart => exact ⟨0, Nat.zero_le _, rfl, by rw [hasTo_zero], Keep.refl _ _⟩
              case round =>
                obtain ⟨p, hp, rfl, rfl, hkw⟩ := hrel
                have K5 := hid hkw
                clear hkw
                by_cases hpl : p < q.length
                · obtain ⟨b3, off3, ha3, hc3⟩ := rd_int (rd_keep HQ.out (K4.out.trans K5.out (fun _ _ h => h)) (fun _ _ h => h)) (i := p) (by rw [length_ints]; exact hpl)
                  obtain ⟨x, hx⟩ : ∃ x, q[p]? = some x := ⟨_, List.getElem?_eq_getElem hpl⟩
                  have hcx := hc3 p _ (ints_at hx)
                  have hcz := K5.out.cell HCZ.out (fun h => h)
                  have nx := hid (hasTo_succ (v := z) hx)
                  obtain ⟨y, hy⟩ : ∃ y : Int, y = x := ⟨_, rfl⟩
                  rw [← hy] at hcx nx
                  have p0 : (0 : Int) ≤ (p : Int) := by omega
                  have p1 : (p : Int) < (q.length : Int) := by omega
                  clear hc3 hx hy
                  subst ha3
                  generalize hasTo q z p = g at *
                  cases g with
                  | true =>
                    go_wp2
                    go_quiet (fail)
                    go_wp2
                    go_roundw
                    case rel => exact ⟨p + 1, by omega, by go_num, by rw [nx.out]; rfl, K5.out.drewN _⟩
                    case measure => simp [intOf]; omega
                  | false =>
                    generalize hyz : (y == z) = yz at nx
                    go_wp2
                    go_quiet (fail)
                    go_wp2
                    go_roundw
                    case rel => exact ⟨p + 1, by omega, by go_num, by rw [nx.out]; rfl, K5.out.drewN _⟩
                    case measure => simp [intOf]; omega
                · obtain rfl : p = q.length := by omega
                  rw [HALL.out]
                  go_wp2
                  go_roundw
                  case rel => exact ⟨j + 1, by omega, by go_num, K4.out.trans K5.out (fun _ _ h => h)⟩
                  case measure => simp [intOf]; omega
            · obtain rfl : j = zs.length := by omega
              have d2 : decide (q.length ≤ zs.length) = true := decide_eq_true hlen2
              go_wp2_with fail
              refine (known_any _).mono ?_
              rintro e w4 ⟨rfl, hk⟩
              have K5 := hid (K3.out.trans (K4.out.trans hk (fun _ _ h => h)) (fun _ _ h => h))
              clear hk
              go_wp2
              go_ret
              exact ⟨rfl, K5.out⟩
      · have HS2 := hid (@set_bad va vc wp zs (rd_keep HD.out KK.out (fun _ _ h => h)) hm hin)
        have hm' : zs.length ≤ 9223372036854775807 := by unfold maxLen at hm; omega
        clear hm hin
        go_wp2_with fail
        refine HS2.out.mono ?_
        rintro e w2 ⟨rfl, rfl⟩
        generalize hdz : decide (300 < (zs.length : Int)) = dz
        cases dz
        all_goals
          go_wp2_with fail
          refine (known_any _).mono ?_
          rintro e w3 ⟨rfl, hk⟩
          have K3 := hid (KK.out.trans hk (fun _ _ h => h))
          clear hk
          go_wp2
          go_ret
          exact ⟨rfl, K3.out⟩
end Go.Proofs.Ytfpobagkananeaa
