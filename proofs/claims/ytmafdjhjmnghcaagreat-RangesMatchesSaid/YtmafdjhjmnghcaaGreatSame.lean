/- What both stores have beside words and log, as long as only words have changed: nothing (law24.Two.Same, its parts). -/
import Derived.Test.YtmafdjhjmnghcaaGreatRefLayO
import Derived.Test.YtmafdjhjmnghcaaGreatIMap
import Derived.Test.YtmafdjhjmnghcaaGreatOpenCp
import Derived.Deep.RegionHeld3
set_option linter.unusedVariables false
set_option linter.unusedSimpArgs false
namespace Go.Proofs.YtmafdjhjmnghcaaGreat
open Go.RowKit Go.Lf
/-- No elements are returned. -/
def NoneTo (w : World) (e : Ending) (w' : World) : Prop := e = .returned (.slice none 0 0) ∧ Keep Nil w w'
section
variable {w : World}
set_option maxRecDepth 100000 in
set_option maxHeartbeats 1000000 in
theorem ins_nil : Calls Tryz.prog 211 #[.slice none 0 0, .int .i64 0, .int .i64 0] w fun e w' => e = .returned (.tuple #[]) ∧ w = w' := by
  go_enter Tryz.func211, Tryz.ntmps211
  go_wp2
  go_rounds 1
  go_end0
  exact ⟨rfl, rfl⟩
set_option maxRecDepth 100000 in
set_option maxHeartbeats 1000000 in
theorem len64_0 : Calls Tryz.prog 221 #[.int .u64 0] w fun e w' => e = .returned (.int .i64 0) ∧ w = w' := by
  go_enter Tryz.func221, Tryz.ntmps221
  go_wp2
  go_ret
  exact ⟨by kernel_rfl, rfl⟩
set_option maxRecDepth 100000 in
set_option maxHeartbeats 1000000 in
theorem len_0 : Calls Tryz.prog 199 #[.int .u64 0] w fun e w' => e = .returned (.int .i64 0) ∧ w = w' := by
  go_enter Tryz.func199, Tryz.ntmps199
  go_wp2_with fail
  refine (len64_0).mono ?_
  rintro e w' ⟨rfl, rfl⟩
  go_wp2
  go_ret
  exact ⟨rfl, rfl⟩
set_option maxHeartbeats 2000000 in
theorem pdq_nil : Calls Tryz.prog 198 #[.slice none 0 0, .int .i64 0, .int .i64 0, .int .i64 0] w fun e w' => e = .returned (.tuple #[]) ∧ w = w' := by
  go_enter Tryz.func198, Tryz.ntmps198
  go_wp2
  go_loopw [1, 2] (fun av bv wz => av = .int .i64 0 ∧ bv = .int .i64 0 ∧ w = wz) (fun _ _ _ => 0)
  case atStart => exact ⟨rfl, rfl, rfl⟩
  case round =>
    obtain ⟨rfl, rfl, rfl⟩ := hrel
    go_wp2_with fail
    refine (ins_nil).mono ?_
    rintro e w' ⟨rfl, rfl⟩
    go_wp2
    exact bodyPost_ret (results_none rfl _ _ _) rfl ⟨rfl, rfl⟩
set_option maxHeartbeats 2000000 in
theorem sort_nil : Calls Tryz.prog 169 #[.slice none 0 0] w fun e w' => e = .returned (.tuple #[]) ∧ w = w' := by
  go_enter Tryz.func169, Tryz.ntmps169
  go_wp2_with fail
  refine (len_0).mono ?_
  rintro e w' ⟨rfl, rfl⟩
  go_wp2_with fail
  refine (pdq_nil).mono ?_
  rintro e w' ⟨rfl, rfl⟩
  go_wp2
  go_end0
  exact ⟨rfl, rfl⟩
theorem imap_nil {ob : Nat} (h : w.heap[ob]? = some (.map #[] 0)) : IMap .i64 w ob [] :=
  ⟨#[], 0, h, rfl, by first | exact Stamped.nil | exact ⟨by simp, by simp⟩ | simp [Stamped]⟩
set_option maxRecDepth 100000 in
set_option maxHeartbeats 4000000 in
theorem pout_none {pb ob gb mb L : Nat} {c : Cfg} (h : PoolAt0 w pb ob gb mb L c) : Calls Tryz.prog 115 #[.pointer (some ⟨pb, 0, none⟩)] w (NoneTo w) := by
  have p4 : w.cell? ⟨pb, 4, none⟩ = some (.map (some ob)) := by rw [cell_of h.head]; rfl
  have hz : pb < w.heap.size := lt_of_block h.head
  have HIM := hid (imap_nil h.out)
  clear h
  go_enter Tryz.func115, Tryz.ntmps115
  go_wp2_with (at_range; refine wpList_range_imap _ rfl _ rfl Tryz.underlying223 rfl HIM.out ?_)
  intro w1 hi hk hz
  have HI := hid hi
  have HK := hid hk
  clear hi hk hz
  go_wp2
  go_loopw [3] (fun vs wz => vs = .slice none 0 0 ∧ IRng .i64 wz ob w.heap.size [] [] ∧ Keep Nil w wz) (fun vs _ => 0)
  case atStart => exact ⟨rfl, HI.out, HK.out⟩
  case round =>
    obtain ⟨rfl, hi, hkk⟩ := hrel
    have HJ := hid hi
    have HKK := hid hkk
    clear hi hkk
    go_wp2_with (at_next; refine wpList_next_imap _ rfl _ rfl rfl HJ.out ?done ?more)
    case done =>
      intro hp
      clear hp
      go_wp2_with fail
      refine (sort_nil).mono ?_
      rintro e w2 ⟨rfl, rfl⟩
      go_wp2
      go_ret
      exact ⟨rfl, HKK.out⟩
    case more =>
      intro x v w2 hi2 hk2 hz2 hen
      have := hi2.len
      simp at this
set_option maxRecDepth 100000 in
set_option maxHeartbeats 1000000 in
theorem evclone_nil : Calls Tryz.prog 166 #[.slice none 0 0] w fun e w' => e = .returned (.slice none 0 0) ∧ w = w' := by
  have hq := run_eql_none (P := Tryz.prog) w Tryz.underlying120 0 0
  go_enter Tryz.func166, Tryz.ntmps166
  go_wp2
  go_ret
  exact ⟨rfl, rfl⟩
set_option maxRecDepth 100000 in
set_option maxHeartbeats 1000000 in
theorem eqEv_nil : Calls Tryz.prog 107 #[.slice none 0 0, .slice none 0 0] w fun e w' => e = .returned (.bool true) ∧ w = w' := by
  go_enter Tryz.func107, Tryz.ntmps107
  go_wp2
  go_rounds 1
  go_ret
  exact ⟨rfl, rfl⟩
set_option maxRecDepth 100000 in
set_option maxHeartbeats 1000000 in
theorem eqI_nil : Calls Tryz.prog 109 #[.slice none 0 0, .slice none 0 0] w fun e w' => e = .returned (.bool true) ∧ w = w' := by
  go_enter Tryz.func109, Tryz.ntmps109
  go_wp2
  go_rounds 1
  go_ret
  exact ⟨rfl, rfl⟩
end
section
variable {w : World} {A F G : Nat → Prop} {c : Cfg} {b mb L : Nat} {ws : List Int} {log : List Acc}
set_option maxHeartbeats 2000000 in
theorem bevents_none (h : ExtP b mb L c w) : Calls Tryz.prog 108 #[.pointer (some ⟨b, 0, none⟩)] w fun e w' => e = .returned (.slice none 0 0) ∧ w = w' := by
  obtain ⟨pb, m7, m8, ob, gb, x3, x4, hb, hp, h7, h8⟩ := h
  have c6 : w.cell? ⟨b, 6, none⟩ = some (.slice none 0 0) := by rw [cell_of hb]; rfl
  have hz : b < w.heap.size := lt_of_block hb
  clear hb hp h7 h8
  go_enter Tryz.func108, Tryz.ntmps108
  go_wp2_with fail
  refine (evclone_nil).mono ?_
  rintro e w' ⟨rfl, rfl⟩
  go_wp2
  go_ret
  exact ⟨rfl, rfl⟩
set_option maxHeartbeats 2000000 in
theorem bof_none (h : ExtP b mb L c w) (k : Bool) : Calls Tryz.prog 167 #[.pointer (some ⟨b, 0, none⟩), .bool k] w (NoneTo w) := by
  obtain ⟨pb, m7, m8, ob, gb, x3, x4, hb, hp, h7, h8⟩ := h
  have c2 : w.cell? ⟨b, 2, none⟩ = some (.pointer (some ⟨pb, 0, none⟩)) := by rw [cell_of hb]; rfl
  have hz : b < w.heap.size := lt_of_block hb
  have HP := hid hp
  clear hb hp h7 h8
  go_enter Tryz.func167, Tryz.ntmps167
  go_wp2_with fail
  refine (pout_none HP.out).mono ?_
  rintro e w1 ⟨rfl, hk⟩
  have HK := hid hk
  clear hk
  go_wp2
  go_rounds 1
  go_ret
  exact ⟨rfl, HK.out⟩
set_option maxHeartbeats 2000000 in
theorem blinked_none (h : ExtP b mb L c w) : Calls Tryz.prog 110 #[.pointer (some ⟨b, 0, none⟩)] w (NoneTo w) := by
  have H := hid h
  clear h
  go_enter Tryz.func110, Tryz.ntmps110
  go_wp2_with fail
  refine (bof_none H.out false).mono ?_
  rintro e w1 ⟨rfl, hk⟩
  have HK := hid hk
  clear hk
  go_wp2
  go_ret
  exact ⟨rfl, HK.out⟩
set_option maxHeartbeats 2000000 in
theorem bretired_none (h : ExtP b mb L c w) : Calls Tryz.prog 112 #[.pointer (some ⟨b, 0, none⟩)] w (NoneTo w) := by
  have H := hid h
  clear h
  go_enter Tryz.func112, Tryz.ntmps112
  go_wp2_with fail
  refine (bof_none H.out true).mono ?_
  rintro e w1 ⟨rfl, hk⟩
  have HK := hid hk
  clear hk
  go_wp2
  go_ret
  exact ⟨rfl, HK.out⟩
set_option maxHeartbeats 2000000 in
theorem bpool_ok (h : ExtP b mb L c w) : Calls Tryz.prog 114 #[.pointer (some ⟨b, 0, none⟩)] w fun e w' => ∃ pb ob gb, (e = .returned (.pointer (some ⟨pb, 0, none⟩)) ∧ w = w') ∧ PoolAt0 w pb ob gb mb L c := by
  obtain ⟨pb, m7, m8, ob, gb, x3, x4, hb, hp, h7, h8⟩ := h
  have c2 : w.cell? ⟨b, 2, none⟩ = some (.pointer (some ⟨pb, 0, none⟩)) := by rw [cell_of hb]; rfl
  have hz : b < w.heap.size := lt_of_block hb
  have HP := hid hp
  clear hb hp h7 h8
  go_enter Tryz.func114, Tryz.ntmps114
  go_wp2
  go_ret
  exact ⟨pb, ob, gb, ⟨rfl, rfl⟩, HP.out⟩
end
end Go.Proofs.YtmafdjhjmnghcaaGreat

/-! law24.Two.Same: both stores are the same as long as only words have changed, and these alike. -/
set_option linter.unusedVariables false
set_option linter.unusedSimpArgs false
namespace Go.Proofs.YtmafdjhjmnghcaaGreat
open Go.RowKit Go.Lf
section
variable {w : World} {c : Cfg} {b mb l : Nat}
set_option maxRecDepth 100000 in
set_option maxHeartbeats 2000000 in
theorem rkind_0 (h : RExtP b mb l c w) (hn : c.nT ≤ 1024) (t : Nat) (ht : t ≤ c.nT) : Calls Tryz.prog 197 #[.pointer (some ⟨b, 0, none⟩), .int .i64 t] w fun e w' => e = .returned (.int .i64 0) ∧ w = w' := by
  obtain ⟨pb, tb, vb, gb, kb, ub, x3, x4, v9, hb, hp, hk, hu⟩ := h
  have c2 : w.cell? ⟨b, 2, none⟩ = some (.pointer (some ⟨pb, 0, none⟩)) := by rw [cell_of hb]; rfl
  have p2 : w.cell? ⟨pb, 2, none⟩ = some (.slice (some ⟨tb, 0, none⟩) (c.nT + 1) (c.nT + 1)) := by rw [cell_of hp.head]; rfl
  have p4 : w.cell? ⟨pb, 4, none⟩ = some (.slice (some ⟨gb, 0, none⟩) (c.nT + 1) (c.nT + 1)) := by rw [cell_of hp.head]; rfl
  have g0 : w.cell? ⟨gb, t, none⟩ = some (.int .i64 0) := by rw [cell_of hp.gn, List.getElem?_toArray, List.getElem?_replicate, if_pos (by omega)]
  have t0 : w.cell? ⟨tb, t, none⟩ = some (.bool false) := by rw [cell_of hp.tk, List.getElem?_toArray, List.getElem?_replicate, if_pos (by omega)]
  have hz : b < w.heap.size := lt_of_block hb
  have hz2 : pb < w.heap.size := lt_of_block hp.head
  have k0 : (0 : Int) ≤ (t : Int) := by omega
  have k1 : (t : Int) < (c.nT : Int) + 1 := by omega
  clear hb hp hk hu
  go_enter Tryz.func197, Tryz.ntmps197
  go_wp2
  go_ret
  exact ⟨rfl, rfl⟩
set_option maxRecDepth 100000 in
set_option maxHeartbeats 2000000 in
theorem rof_none (h : RExtP b mb l c w) (hn : c.nT ≤ 1024) (k : Int) (hk : k ≠ 0) : Calls Tryz.prog 168 #[.pointer (some ⟨b, 0, none⟩), .int .i64 k] w fun e w' => e = .returned (.slice none 0 0) ∧ w = w' := by
  obtain ⟨pb, tb, vb, gb, kb, ub, x3, x4, v9, hb, -⟩ := id h
  have c10 : w.cell? ⟨b, 10, none⟩ = some (.slice (some ⟨kb, 0, none⟩) (c.nT + 1) (c.nT + 1)) := by rw [cell_of hb]; rfl
  have hz : b < w.heap.size := lt_of_block hb
  have dk : ((0 : Int) == k) = false := beq_eq_false_iff_ne.2 (fun e => hk e.symm)
  have H := hid h
  clear hb h hk
  go_enter Tryz.func168, Tryz.ntmps168
  go_wp2
  go_loopw [5, 6] (fun vs tv wz => ∃ t : Nat, t ≤ c.nT ∧ vs = .slice none 0 0 ∧ tv = .int .i64 ((t : Int) + 1) ∧ w = wz) (fun _ tv _ => c.nT + 1 - (intOf tv).toNat)
  case atStart => exact ⟨0, Nat.zero_le _, rfl, rfl, rfl⟩
  case round =>
    obtain ⟨t, ht, rfl, rfl, rfl⟩ := hrel
    by_cases hlt : t < c.nT
    · have d1 : decide ((t : Int) + 1 < (c.nT : Int) + 1) = true := decide_eq_true (by omega)
      have wk : IntKind.i64.wrap ((t : Int) + 1 + 1) = (t : Int) + 1 + 1 := by rw [IntKind.wrap_i64]; omega
      have HT := hid (rkind_0 H.out hn (t + 1) (by omega))
      go_wp2_with fail
      refine HT.out.mono ?_
      rintro e w' ⟨rfl, rfl⟩
      go_wp2
      go_roundw
      case rel => exact ⟨t + 1, by omega, rfl, by go_num, trivial⟩
      case measure => simp [intOf]; omega
    · have d1 : decide ((t : Int) + 1 < (c.nT : Int) + 1) = false := decide_eq_false (by omega)
      go_wp2
      go_ret
      exact ⟨rfl, rfl⟩
set_option maxHeartbeats 1000000 in
theorem rlinked_none (h : RExtP b mb l c w) (hn : c.nT ≤ 1024) : Calls Tryz.prog 111 #[.pointer (some ⟨b, 0, none⟩)] w fun e w' => e = .returned (.slice none 0 0) ∧ w = w' := by
  have H := hid h
  clear h
  go_enter Tryz.func111, Tryz.ntmps111
  go_wp2_with fail
  refine (rof_none H.out hn 2 (by decide)).mono ?_
  rintro e w' ⟨rfl, rfl⟩
  go_wp2
  go_ret
  exact ⟨rfl, rfl⟩
set_option maxHeartbeats 1000000 in
theorem rretired_none (h : RExtP b mb l c w) (hn : c.nT ≤ 1024) : Calls Tryz.prog 113 #[.pointer (some ⟨b, 0, none⟩)] w fun e w' => e = .returned (.slice none 0 0) ∧ w = w' := by
  have H := hid h
  clear h
  go_enter Tryz.func113, Tryz.ntmps113
  go_wp2_with fail
  refine (rof_none H.out hn 3 (by decide)).mono ?_
  rintro e w' ⟨rfl, rfl⟩
  go_wp2
  go_ret
  exact ⟨rfl, rfl⟩
set_option maxRecDepth 100000 in
set_option maxHeartbeats 2000000 in
theorem rout_none {pb tb vb gb : Nat} (h : RPool0 w pb tb vb gb mb l c) (hn : c.nT ≤ 1024) : Calls Tryz.prog 116 #[.pointer (some ⟨pb, 0, none⟩)] w fun e w' => e = .returned (.slice none 0 0) ∧ w = w' := by
  have p2 : w.cell? ⟨pb, 2, none⟩ = some (.slice (some ⟨tb, 0, none⟩) (c.nT + 1) (c.nT + 1)) := by rw [cell_of h.head]; rfl
  have hz : pb < w.heap.size := lt_of_block h.head
  have H := hid h
  clear h
  go_enter Tryz.func116, Tryz.ntmps116
  go_wp2
  go_loopw [3, 4] (fun vs tv wz => ∃ t : Nat, t ≤ c.nT ∧ vs = .slice none 0 0 ∧ tv = .int .i64 ((t : Int) + 1) ∧ w = wz) (fun _ tv _ => c.nT + 1 - (intOf tv).toNat)
  case atStart => exact ⟨0, Nat.zero_le _, rfl, rfl, rfl⟩
  case round =>
    obtain ⟨t, ht, rfl, rfl, rfl⟩ := hrel
    by_cases hlt : t < c.nT
    · have d1 : decide ((t : Int) + 1 < (c.nT : Int) + 1) = true := decide_eq_true (by omega)
      have wk : IntKind.i64.wrap ((t : Int) + 1 + 1) = (t : Int) + 1 + 1 := by rw [IntKind.wrap_i64]; omega
      have t0 : w.cell? ⟨tb, t + 1, none⟩ = some (.bool false) := by rw [cell_of H.out.tk, List.getElem?_toArray, List.getElem?_replicate, if_pos (by omega)]
      have k0 : (0 : Int) ≤ (t : Int) + 1 := by omega
      have k1 : (t : Int) + 1 < (c.nT : Int) + 1 := by omega
      have kt : ((t : Int) + 1).toNat = t + 1 := by omega
      go_wp2
      go_roundw
      case rel => exact ⟨t + 1, by omega, rfl, by go_num, trivial⟩
      case measure => simp [intOf]; omega
    · have d1 : decide ((t : Int) + 1 < (c.nT : Int) + 1) = false := decide_eq_false (by omega)
      go_wp2
      go_ret
      exact ⟨rfl, rfl⟩
end
theorem PoolAt0.quiet {W W' : World} {pb ob gb mb L : Nat} {c : Cfg} (h : PoolAt0 W pb ob gb mb L c) (hk : Keep Nil W W') : PoolAt0 W' pb ob gb mb L c := ⟨hk.at h.head (fun h => h), hk.at h.out (fun h => h), hk.at h.gens (fun h => h)⟩
set_option maxHeartbeats 1000000 in
theorem bpool_at {W : World} {b pb : Nat} {x0 x1 x3 x4 x5 x6 x7 x8 : Value} (hb : W.heap[b]? = some (.cells #[x0, x1, .pointer (some ⟨pb, 0, none⟩), x3, x4, x5, x6, x7, x8] 146 (0, 0))) : Calls Tryz.prog 114 #[.pointer (some ⟨b, 0, none⟩)] W fun e w' => e = .returned (.pointer (some ⟨pb, 0, none⟩)) ∧ W = w' := by
  have c2 : W.cell? ⟨b, 2, none⟩ = some (.pointer (some ⟨pb, 0, none⟩)) := by rw [cell_of hb]; rfl
  have hz : b < W.heap.size := lt_of_block hb
  clear hb
  go_enter Tryz.func114, Tryz.ntmps114
  go_wp2
  go_ret
  exact ⟨rfl, rfl⟩
/-- The cells that the comparison reads. -/
structure SC (W : World) (q b rb rm pb gw wc n : Nat) (la : Option Addr) (lc ln : Nat) : Prop where
  c0 : W.cell? ⟨q, 0, none⟩ = some (.pointer (some ⟨b, 0, none⟩))
  c1 : W.cell? ⟨q, 1, none⟩ = some (.pointer (some ⟨rb, 0, none⟩))
  r1 : W.cell? ⟨rb, 1, none⟩ = some (.pointer (some ⟨rm, 0, none⟩))
  r2 : W.cell? ⟨rb, 2, none⟩ = some (.pointer (some ⟨pb, 0, none⟩))
  r8 : W.cell? ⟨rb, 8, none⟩ = some (.slice none 0 0)
  m0 : W.cell? ⟨rm, 0, none⟩ = some (.slice (some ⟨gw, 0, none⟩) n wc)
  m1 : W.cell? ⟨rm, 1, none⟩ = some (.slice la ln lc)
  z0 : q < W.heap.size
  z1 : rb < W.heap.size
  z2 : rm < W.heap.size
theorem SC.lts {W : World} {q b rb rm pb gw wc n : Nat} {la : Option Addr} {lc ln : Nat} (h : SC W q b rb rm pb gw wc n la lc ln) : q < W.heap.size ∧ rb < W.heap.size ∧ rm < W.heap.size := ⟨h.z0, h.z1, h.z2⟩
theorem SC.conj {W : World} {q b rb rm pb gw wc n : Nat} {la : Option Addr} {lc ln : Nat} (h : SC W q b rb rm pb gw wc n la lc ln) : W.cell? ⟨q, 0, none⟩ = some (.pointer (some ⟨b, 0, none⟩)) ∧ W.cell? ⟨q, 1, none⟩ = some (.pointer (some ⟨rb, 0, none⟩)) ∧ W.cell? ⟨rb, 1, none⟩ = some (.pointer (some ⟨rm, 0, none⟩)) ∧ W.cell? ⟨rb, 2, none⟩ = some (.pointer (some ⟨pb, 0, none⟩)) ∧ W.cell? ⟨rb, 8, none⟩ = some (.slice none 0 0) ∧ W.cell? ⟨rm, 0, none⟩ = some (.slice (some ⟨gw, 0, none⟩) n wc) ∧ W.cell? ⟨rm, 1, none⟩ = some (.slice la ln lc) := ⟨h.c0, h.c1, h.r1, h.r2, h.r8, h.m0, h.m1⟩
theorem SC.quiet {W W' : World} {q b rb rm pb gw wc n : Nat} {la : Option Addr} {lc ln : Nat} (h : SC W q b rb rm pb gw wc n la lc ln) (hk : Keep Nil W W') : SC W' q b rb rm pb gw wc n la lc ln :=
  ⟨hk.cell h.c0 (fun h => h), hk.cell h.c1 (fun h => h), hk.cell h.r1 (fun h => h), hk.cell h.r2 (fun h => h), hk.cell h.r8 (fun h => h), hk.cell h.m0 (fun h => h), hk.cell h.m1 (fun h => h), Nat.lt_of_lt_of_le h.z0 hk.size, Nat.lt_of_lt_of_le h.z1 hk.size, Nat.lt_of_lt_of_le h.z2 hk.size⟩
def LogTo (w : World) (log : List Acc) (e : Ending) (w' : World) : Prop := ∃ v, e = .returned v ∧ Rd w' 6 v log.length (logCells log) ∧ Keep Nil w w'
theorem log_any {w : World} {mb : Nat} {F : Nat → Prop} {ws : List Int} {log : List Acc} (h : MemAt w mb F ws log) (hn : log.length < 1000000000000) : Calls Tryz.prog 106 #[.pointer (some ⟨mb, 0, none⟩), .int .i64 0] w (LogTo w log) := by
  by_cases h0 : log.length = 0
  · have hl : log = [] := List.eq_nil_of_length_eq_zero h0
    subst hl
    refine (log_none h 0 (.inr (Int.le_refl 0))).mono ?_
    rintro e w' ⟨rfl, rfl⟩
    exact ⟨_, rfl, ⟨none, 0, rfl, rfl, .inl ⟨rfl, rfl, rfl⟩⟩, Keep.refl Nil w⟩
  · refine (log_ok h 0 (Int.le_refl 0) (by omega) hn).mono ?_
    rintro e w' ⟨g, rfl, hg, hz, hk⟩
    exact ⟨_, rfl, rd_of_heap hg (by simp [length_logCells]), hk⟩
section
variable {ω ω' : Type} {O : OpLies ω} {O' : OpLies ω'} {c : Cfg} {b mb rb rm : Nat} {w wr : World} {L : Nat → Prop} {x : List Int × List Acc} {ops : List ω} {bl : List Nat} {ops' : List ω'} {bl' : List Nat}
theorem t2_ext (h : T2 O O' c b mb rb rm w L x ops bl x ops' bl' wr) : ∃ l, ExtP b mb l c wr := by
  obtain ⟨A, l, F, G, hp⟩ := h.sp
  exact ⟨l, hp.more.1⟩
theorem t2_rext (h : T2 O O' c b mb rb rm w L x ops bl x ops' bl' wr) : ∃ l, RExtP rb rm l c wr := by
  obtain ⟨A, l, F, G, hp⟩ := h.rp
  exact ⟨l, hp.more.1⟩
theorem t2_wordsS (h : T2 O O' c b mb rb rm w L x ops bl x ops' bl' wr) (hn : x.1.length ≤ 1000000000) : Calls Tryz.prog 50 #[.pointer (some ⟨mb, 0, none⟩)] wr (RowTo wr 26 x.1.length (u64s x.1)) := by
  obtain ⟨A, l, F, G, hsp⟩ := h.sp
  exact words_ok hsp.mem hn
theorem t2_log (h : T2 O O' c b mb rb rm w L x ops bl x ops' bl' wr) (hn : x.2.length < 1000000000000) : Calls Tryz.prog 106 #[.pointer (some ⟨mb, 0, none⟩), .int .i64 0] wr (LogTo wr x.2) := by
  obtain ⟨A, l, F, G, hsp⟩ := h.sp
  exact log_any hsp.mem hn
theorem t2_refs (h : T2 O O' c b mb rb rm w L x ops bl x ops' bl' wr) : ∃ gw wc la lc, wr.cell? ⟨rm, 0, none⟩ = some (.slice (some ⟨gw, 0, none⟩) x.1.length wc) ∧ wr.cell? ⟨rm, 1, none⟩ = some (.slice la x.2.length lc) ∧ Rd wr 1 (.slice (some ⟨gw, 0, none⟩) x.1.length wc) x.1.length (u64s x.1) ∧ Rd wr 6 (.slice la x.2.length lc) x.2.length (logCells x.2) := by
  obtain ⟨A, l, F, G, hp⟩ := h.rp
  obtain ⟨gw, wc, la, lc, hr, -⟩ := hp.mem.rep
  exact ⟨gw, wc, la, lc, hr.cell0, hr.cell1, row_rd hr.wrow, row_rd hr.lrow⟩
set_option maxRecDepth 100000 in
set_option maxHeartbeats 8000000 in
theorem t2_same (h : T2 O O' c b mb rb rm w L x ops bl x ops' bl' wr) (hok : c.ok) (hx : x.1.length ≤ 1000000) (hn : x.2.length < 1000000000) :
    Calls Tryz.prog 58 #[.agg #[.pointer (some ⟨b, 0, none⟩), .pointer (some ⟨rb, 0, none⟩)]] wr fun e w' => e = .returned (.bool true) ∧ Keep Nil wr w' := by
  have H := hid h
  have HNT := hid hok.nT
  have HX := hid (And.intro hx hn)
  obtain ⟨l1, hext⟩ := t2_ext h
  obtain ⟨l2, pb, tb, vb, gb, kb, ub, x3, x4, v9, hrb, hpl, -, -⟩ := t2_rext h
  obtain ⟨gw, wc, la, lc, hm0, hm1, hr1, hr2⟩ := t2_refs h
  have HR1 := hid hr1
  have HR2 := hid hr2
  have HPL := hid hpl
  have hS : SC (wr.alloc (.cells #[.pointer (some ⟨b, 0, none⟩), .pointer (some ⟨rb, 0, none⟩)] 96)) wr.heap.size b rb rm pb gw wc x.1.length la lc x.2.length := by
    have hk := (Keep.refl Nil wr).alloc (.cells #[.pointer (some ⟨b, 0, none⟩), .pointer (some ⟨rb, 0, none⟩)] 96)
    have hb := heap_alloc_new wr (.cells #[.pointer (some ⟨b, 0, none⟩), .pointer (some ⟨rb, 0, none⟩)] 96)
    obtain ⟨q1, q2, q3⟩ := h.rc1
    refine ⟨by rw [cell_of hb]; rfl, by rw [cell_of hb]; rfl, hk.cell q1 (fun h => h), hk.cell (v := .pointer (some ⟨pb, 0, none⟩)) (by rw [cell_of hrb]; rfl) (fun h => h), hk.cell (v := .slice none 0 0) (by rw [cell_of hrb]; rfl) (fun h => h), hk.cell hm0 (fun h => h), hk.cell hm1 (fun h => h), lt_of_block hb, ?_, ?_⟩
    · have := hk.size; omega
    · have := hk.size; omega
  have HS := hid hS
  have HKA := hid ((Keep.refl Nil wr).alloc (.cells #[.pointer (some ⟨b, 0, none⟩), .pointer (some ⟨rb, 0, none⟩)] 96))
  obtain ⟨pA, m7, m8, oA, gA, y3, y4, hbA, hpA, -, -⟩ := hext
  have HBA := hid hbA
  have HPA := hid hpA
  clear h hok hx hn hbA hpA hrb hpl hm0 hm1 hr1 hr2 hS
  go_enter Tryz.func58, Tryz.ntmps58
  obtain ⟨W, hW⟩ : ∃ W, W = wr.alloc (.cells #[.pointer (some ⟨b, 0, none⟩), .pointer (some ⟨rb, 0, none⟩)] 96) := ⟨_, rfl⟩
  rw [← hW] at HS HKA
  obtain ⟨z0, z1, z2⟩ := HS.out.lts
  obtain ⟨c0, c1, r1, r2, r8, m0, m1⟩ := HS.out.conj
  go_upto_region 1 with fail
  rw [← hW]
  clear hW
  have HK := hid ((Keep.refl Nil W).drew)
  simp only [List.append]
  go_region_held3 (fun w' => w'.cell? ⟨wr.heap.size, 0, none⟩ = some (.pointer (some ⟨b, 0, none⟩)) ∧ w'.cell? ⟨wr.heap.size, 1, none⟩ = some (.pointer (some ⟨rb, 0, none⟩)) ∧ w'.cell? ⟨rb, 1, none⟩ = some (.pointer (some ⟨rm, 0, none⟩)) ∧ w'.cell? ⟨rb, 2, none⟩ = some (.pointer (some ⟨pb, 0, none⟩)) ∧ w'.cell? ⟨rb, 8, none⟩ = some (.slice none 0 0) ∧ w'.cell? ⟨rm, 0, none⟩ = some (.slice (some ⟨gw, 0, none⟩) x.1.length wc) ∧ w'.cell? ⟨rm, 1, none⟩ = some (.slice la x.2.length lc)) (first | (exact s9; done) | go_keep)
    (first
      | (go_at_call 24; (with_reducible refine (t2_mem (H.out.quiet (HKA.out.trans HK.out (fun _ _ h => h)))).mono ?_); rintro e w1 ⟨rfl, rfl⟩)
      | (go_at_call 50; (with_reducible refine (t2_wordsS (H.out.quiet (HKA.out.trans HK.out (fun _ _ h => h))) (by have := HX.out.1; omega)).mono ?_); rintro e w1 ⟨g, rfl, hg, hgz, hk⟩; have HRG := hid (rd_of_heap (n := x.1.length) (size := 1) hg (by simp [length_u64s])); clear hg hgz; have HKN := hid (HK.out.trans hk (fun _ _ h => h)); clear hk HK; have HK := hid HKN.out; clear HKN; have s9 := (HS.out.quiet HK.out).conj; have sz := (HS.out.quiet HK.out).lts)
      | (go_at_call 104; (with_reducible refine (eqU_yes _ _ x.1 _ HRG.out (rd_keep HR1.out (HKA.out.trans HK.out (fun _ _ h => h)) (fun _ _ h => h)) (by have := HX.out.1; omega)).mono ?_); rintro e w1 ⟨rfl, hk⟩; have HKN := hid (HK.out.trans hk (fun _ _ h => h)); clear hk HK; have HK := hid HKN.out; clear HKN; have s9 := (HS.out.quiet HK.out).conj; have sz := (HS.out.quiet HK.out).lts)
      | (go_at_call 106; (with_reducible refine (t2_log (H.out.quiet (HKA.out.trans HK.out (fun _ _ h => h))) (by have := HX.out.2; omega)).mono ?_); rintro e w1 ⟨v, rfl, hrv, hk⟩; have HRV := hid hrv; clear hrv; have HKN := hid (HK.out.trans hk (fun _ _ h => h)); clear hk HK; have HK := hid HKN.out; clear HKN; have s9 := (HS.out.quiet HK.out).conj; have sz := (HS.out.quiet HK.out).lts)
      | (go_at_call 105; (with_reducible refine (eqA_yes _ _ x.2 _ HRV.out (rd_keep HR2.out (HKA.out.trans HK.out (fun _ _ h => h)) (fun _ _ h => h)) (by have := HX.out.2; omega)).mono ?_); rintro e w1 ⟨rfl, hk⟩; have HKN := hid (HK.out.trans hk (fun _ _ h => h)); clear hk HK; have HK := hid HKN.out; clear HKN; have s9 := (HS.out.quiet HK.out).conj; have sz := (HS.out.quiet HK.out).lts)
      | (go_at_call 108; (with_reducible refine (bevents_none (t2_ext (H.out.quiet (HKA.out.trans HK.out (fun _ _ h => h)))).choose_spec).mono ?_); rintro e w1 ⟨rfl, rfl⟩)
      | (go_at_call 107; (with_reducible refine (eqEv_nil).mono ?_); rintro e w1 ⟨rfl, rfl⟩)
      | (go_at_call 110; (with_reducible refine (blinked_none (t2_ext (H.out.quiet (HKA.out.trans HK.out (fun _ _ h => h)))).choose_spec).mono ?_); rintro e w1 ⟨rfl, hk⟩; have HKN := hid (HK.out.trans hk (fun _ _ h => h)); clear hk HK; have HK := hid HKN.out; clear HKN; have s9 := (HS.out.quiet HK.out).conj; have sz := (HS.out.quiet HK.out).lts)
      | (go_at_call 111; (with_reducible refine (rlinked_none (t2_rext (H.out.quiet (HKA.out.trans HK.out (fun _ _ h => h)))).choose_spec HNT.out).mono ?_); rintro e w1 ⟨rfl, rfl⟩)
      | (go_at_call 109; (with_reducible refine (eqI_nil).mono ?_); rintro e w1 ⟨rfl, rfl⟩)
      | (go_at_call 112; (with_reducible refine (bretired_none (t2_ext (H.out.quiet (HKA.out.trans HK.out (fun _ _ h => h)))).choose_spec).mono ?_); rintro e w1 ⟨rfl, hk⟩; have HKN := hid (HK.out.trans hk (fun _ _ h => h)); clear hk HK; have HK := hid HKN.out; clear HKN; have s9 := (HS.out.quiet HK.out).conj; have sz := (HS.out.quiet HK.out).lts)
      | (go_at_call 113; (with_reducible refine (rretired_none (t2_rext (H.out.quiet (HKA.out.trans HK.out (fun _ _ h => h)))).choose_spec HNT.out).mono ?_); rintro e w1 ⟨rfl, rfl⟩)
      | (go_at_call 114; (with_reducible refine (bpool_at ((HKA.out.trans HK.out (fun _ _ h => h)).at HBA.out (fun h => h))).mono ?_); rintro e w1 ⟨rfl, rfl⟩)
      | (go_at_call 115; (with_reducible refine (pout_none (HPA.out.quiet (HKA.out.trans HK.out (fun _ _ h => h)))).mono ?_); rintro e w1 ⟨rfl, hk⟩; have HKN := hid (HK.out.trans hk (fun _ _ h => h)); clear hk HK; have HK := hid HKN.out; clear HKN; have s9 := (HS.out.quiet HK.out).conj; have sz := (HS.out.quiet HK.out).lts)
      | (go_at_call 116; (with_reducible refine (rout_none (HPL.out.keep (HKA.out.trans HK.out (fun _ _ h => h)) (fun _ _ h => h)) HNT.out).mono ?_); rintro e w1 ⟨rfl, rfl⟩))
  all_goals
    go_wp2
    go_ret
    exact ⟨rfl, (HKA.out.trans HK.out (fun _ _ h => h))⟩
end
end Go.Proofs.YtmafdjhjmnghcaaGreat
