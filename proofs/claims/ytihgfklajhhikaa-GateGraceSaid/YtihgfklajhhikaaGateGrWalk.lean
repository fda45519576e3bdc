/- GateGrace: the walk. -/
import Derived.Test.YtihgfklajhhikaaGateHolds
import Derived.Test.YtihgfklajhhikaaKitInts
set_option linter.unusedVariables false
set_option linter.unusedSimpArgs false
namespace Go.Lf
/-- Whether thread k is in a section. -/
def sIn (s : GS) (k : Nat) : Bool := match s.th[k]? with
  | some x => x.p.isIn
  | none => false
theorem sIn_at {s : GS} {k : Nat} {x : GA} (hx : s.th[k]? = some x) : sIn s k = x.p.isIn := by unfold sIn; rw [hx]
end Go.Lf
namespace Go.Proofs.Ytihgfklajhhikaa
open Go.RowKit Go.Lf
theorem openTo_more {en : Nat → Bool} {k : Nat} (h : ∀ j, k ≤ j → en j = false) (j : Nat) : openTo en (k + j) = openTo en k := by
  induction j with
  | zero => rfl
  | succ j ih =>
    rw [show k + (j + 1) = (k + j) + 1 from rfl, openTo_succ, if_neg (by rw [h _ (by omega)]; decide), ih]
section
variable {w wr : World} {rb g r mb n k : Nat} {s : GS}
theorem gopen_run (h : GGood w rb g r mb n k s wr) : Calls Try.prog 22 #[ptr g] wr (NumsTo wr (openTo (sIn s) 6)) := by
  obtain ⟨F, ml, ws, th, log, H, rfl, hI, hl⟩ := h
  have e : openTo (sIn ⟨ws, th.map GT.abs⟩) 64 = openTo (sIn ⟨ws, th.map GT.abs⟩) 6 := openTo_more (k := 6) (fun j hj => by
    unfold sIn
    rw [show (⟨ws, th.map GT.abs⟩ : GS).th[j]? = none from List.getElem?_eq_none (by simp [H.lth]; omega)]) 58
  rw [← e]
  refine gopen_ok H.eng _ (fun k _ => ?_)
  cases hx : th[k]? with
  | none =>
    refine .inl ⟨?_, ?_⟩
    · rw [H.ml, secOf, if_neg (by omega), Int.toNat_natCast, hx]; rfl
    · unfold sIn
      rw [show (⟨ws, th.map GT.abs⟩ : GS).th[k]? = none from by simp [hx]]
  | some x =>
    have hl := H.look hx
    have ha : sIn ⟨ws, th.map GT.abs⟩ k = x.abs.p.isIn := sIn_at (by simp [hx])
    have ht := H.thr k x hx
    rw [ha, hl]
    unfold GT.abs GPh.abs
    cases hp : x.p with
    | idle => exact .inl ⟨rfl, rfl⟩
    | wt a b c d e f g => exact .inl ⟨rfl, rfl⟩
    | ent eb sb c => exact .inr ⟨sb, _, rfl, (ht.ent eb sb c hp).2.1⟩
    | inn sb c => exact .inr ⟨sb, _, rfl, ht.inn sb c hp⟩
set_option maxRecDepth 100000 in
set_option maxHeartbeats 1600000 in
theorem grace_ok (n : Int) (n0 : 0 ≤ n) (a : Option Addr) (c : Nat) (l : List Go.Lf.Act) (hrd : Rd w 4 (.slice a l.length c) l.length (actCells l)) (hwf : ∀ x ∈ l, x.wf) (hl : l.length ≤ 400) :
    Calls Try.prog 12 #[.int .u8 n, .slice a l.length c] w fun e w' => e = .returned (.bool true) ∧ Keep Nil w w' := by
  obtain ⟨k, hk⟩ : ∃ k : Nat, k = 1 + (n % 6).toNat := ⟨_, rfl⟩
  have K1 : 1 ≤ k := by omega
  have K6 : k ≤ 6 := by omega
  have HB := hid (gbegin_run (w := w) w (Keep.refl _ _) k K1 K6)
  rw [show ((k : Nat) : Int) = 1 + n % 6 from by omega] at HB
  have HD := hid hrd
  have HW := hid hwf
  have K16 := hid (show k ≤ 16 by omega)
  have d0 : decide (400 < (l.length : Int)) = false := decide_eq_false (by omega)
  clear hrd hwf hk K1 K6
  go_enter Try.func12, Try.ntmps12
  go_wp2_with fail
  refine (HB.out).mono ?_
  rintro e w1 ⟨rb, g, r, mb, rfl, hr⟩
  have HG := hid hr
  clear hr HB
  go_wp2_with fail
  refine (gplay_ok K16.out a c l HD.out HW.out (by omega) (by decide) HG.out).mono ?_
  rintro e w2 ⟨rfl, hg2⟩
  obtain ⟨s, hs⟩ : ∃ s, s = GS.plays k (GS.init k) l := ⟨_, rfl⟩
  rw [← hs] at hg2
  have R2 := hid hg2
  clear hg2 HG hs
  go_wp2
  go_loopw [6, 7] (fun v' i wr => ∃ (j : Nat) (v : Value), j ≤ 6 ∧ i = .int .i64 j ∧ v' = v ∧ wr.ownsRow 0 3 1 v (openTo (sIn s) j).length (nums (openTo (sIn s) j)) ∧ Hid (Keep Nil w2 wr) ∧ ∀ k, v.ownBlock = some k → w2.heap.size ≤ k) (fun _ i _ => 6 - (intOf i).toNat)
  case atStart => exact ⟨0, _, Nat.zero_le _, rfl, rfl, World.ownsRow_nil _ _ _ _, hid (Keep.refl _ _), by simp [Value.ownBlock]⟩
  case round =>
    obtain ⟨j, v, hj, rfl, hvv, ho, HK, hv⟩ := hrel
    obtain rfl : v = _ := hvv.symm
    have HO := hid ho
    have HV := hid hv
    have hlen := openTo_len (sIn s) j
    have HM := hid (openTo_succ (sIn s) j)
    clear ho hv
    by_cases hlt : j < 6
    · obtain ⟨z, hz⟩ := R2.out.at6 hlt
      have ci := (R2.out.keep HK.out).cIn hz
      rw [sIn_at hz] at HM
      clear hz
      generalize z.p.isIn = b at ci HM
      cases b with
      | true =>
        have hM := hid (HM.out.trans (if_pos rfl))
        clear HM
        go_wp2_with (at_builtin; refine wpList_app _ rfl _ _ 39 rfl 3 _ 1 8 Try.underlying39 infoInt rfl (by decide) v (openTo (sIn s) j).length (nums (openTo (sIn s) j)) rfl ?own _ 1 [.int .i64 j] rfl ?rd ?one ?byt ?len ?_)
        case own => exact HO.out.alloc _
        case rd => exact rd_new _ _ _ _ _ _
        case one => simp [Value.oneCell']
        case byt => omega
        case len => unfold maxLen; omega
        intro a' c' w3 ho hg hs
        have HO3 := hid ho
        have HK3 := hid (Keep.grown (HK.out.alloc _) hg (fun j hj => .inr (HV.out j hj)))
        have HV3 := hid (show ∀ q, (Value.slice a' ((openTo (sIn s) j).length + 1) c').ownBlock = some q → w2.heap.size ≤ q from fun q hq => by
          rcases hs q hq with h | h
          · exact HV.out q h
          · have := HK.out.size; simp at h; omega)
        clear ho hg hs
        go_wp2
        go_roundw
        case rel =>
          refine ⟨j + 1, _, by omega, by go_num, rfl, ?_, HK3, HV3.out⟩
          rw [hM.out, nums_snoc, List.length_append]
          exact HO3.out
        case measure => simp [intOf]; omega
      | false =>
        have hM := hid (HM.out.trans (if_neg (by decide)))
        clear HM
        go_wp2
        go_roundw
        case rel => exact ⟨j + 1, _, by omega, by go_num, rfl, by rw [hM.out]; exact HO.out, HK, HV.out⟩
        case measure => simp [intOf]; omega
    · obtain rfl : j = 6 := by omega
      rw [show ((6 : Nat) : Int) = 6 from rfl]
      have R3 := hid (R2.out.keep HK.out)
      have cg := R3.out.top.2
      have HF := hid (gopen_run R3.out)
      clear hlt
      go_wp2_with fail
      refine HF.out.mono ?_
      rintro e w4 ⟨v4, rfl, ho4, hk4⟩
      have E1 := hid ho4
      have E2 := hid (rd_keep (row_rd HO.out) hk4 (fun _ _ h => h))
      have K4 := hid (R3.out.own.trans hk4 (fun _ _ h => h))
      have EL := hid (show (ints (openTo (sIn s) 6)).length = (openTo (sIn s) 6).length by simp [ints])
      clear ho4 hk4 cg HF
      go_wp2_with fail
      refine (eqI_yes _ _ (ints (openTo (sIn s) 6)) _ (by rw [EL.out]; exact E1.out) (by rw [EL.out]; exact E2.out) (by rw [EL.out]; omega)).mono ?_
      rintro e w5 ⟨rfl, hk5⟩
      have HH := hid (holds_ok w (w := w5) (K4.out.trans hk5 (fun _ _ h => h)))
      clear hk5
      go_wp2_with fail
      refine HH.out.mono ?_
      rintro e w6 ⟨rfl, hk6⟩
      have HK6 := hid hk6
      clear hk6
      go_wp2
      go_ret
      exact ⟨rfl, HK6.out⟩
end
set_option maxRecDepth 100000 in
theorem grace_out (w : World) (n : Int) (a : Option Addr) (m c : Nat) (hm : 400 < m) (_h : m ≤ maxLen) :
    Calls Try.prog 12 #[.int .u8 n, .slice a m c] w fun e w' => e = .returned (.bool true) ∧ w = w' := by
  have d0 : decide (400 < (m : Int)) = true := decide_eq_true (by omega)
  clear hm
  go_enter Try.func12, Try.ntmps12
  go_wp2
  go_ret
  exact ⟨rfl, rfl⟩
theorem walk_grace (w : World) (n : Int) (bn : (Lit.int .u8 n).wf = true) (v : Value) (l : List Go.Lf.Act) (hrd : Rd w 4 v l.length (actCells l)) (hb : ∀ x ∈ l, Go.Lf.Act.wf x) (hm : l.length ≤ maxLen) :
    Calls Try.prog 12 #[.int .u8 n, v] w fun e w' => e = .returned (.bool true) ∧ Keep Nil w w' := by
  obtain ⟨a, c, rfl, -, -⟩ := id hrd
  by_cases hl : l.length ≤ 400
  · exact grace_ok n (u8_wf bn).1 a c l hrd hb hl
  · refine (grace_out w n a l.length c (by omega) hm).mono ?_
    rintro e w' ⟨h1, rfl⟩
    exact ⟨h1, Keep.refl _ _⟩
end Go.Proofs.Ytihgfklajhhikaa
