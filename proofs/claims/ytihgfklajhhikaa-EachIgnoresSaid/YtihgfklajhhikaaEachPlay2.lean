/- each: play: contract. -/
import Derived.Test.YtihgfklajhhikaaEachHolds
import Derived.Test.YtihgfklajhhikaaIndex
import Derived.Test.YtihgfklajhhikaaDo
namespace Go.Lf
open Go.RowKit
structure Act where
  h : Int
  a : Int
  v : Int
  s : Int
def Act.cells (x : Act) : List Value := [.int .u8 x.h, .int .u8 x.a, .int .u8 x.v, .int .u64 x.s]
def Act.wf (x : Act) : Prop := (Lit.int .u8 x.h).wf = true ∧ (Lit.int .u8 x.a).wf = true ∧ (Lit.int .u8 x.v).wf = true ∧ (Lit.int .u64 x.s).wf = true
def actCells (l : List Act) : List Value := l.flatMap Act.cells
theorem actCells_at {l : List Act} {k j : Nat} {x : Act} {u : Value} (hx : l[k]? = some x) (hu : x.cells[j]? = some u) : (actCells l)[k * 4 + j]? = some u := flat_get (size := 4) (fun _ => rfl) hx hu
end Go.Lf
namespace Go.Proofs.Ytihgfklajhhikaa
open Go.RowKit Go.Lf
section
variable {w wr : World} {rb g sb cb mb : Nat}
set_option maxRecDepth 100000 in
set_option maxHeartbeats 8000000 in
theorem play_ok (a : Option Addr) (c : Nat) (l : List Go.Lf.Act) (hrd : Rd w 4 (.slice a l.length c) l.length (actCells l)) (hwf : ∀ x ∈ l, x.wf) (hl : l.length ≤ 1000) (hG : EGood w rb g sb cb mb 0 wr) :
    Calls Try.prog 29 #[.pointer (some ⟨rb, 0, none⟩), .slice a l.length c] wr fun e w' => e = .returned (.bool true) ∧ EGood w rb g sb cb mb l.length w' := by
  have HD := hid hrd
  have HW := hid hwf
  have HG := hid hG
  clear hrd hwf hG
  go_enter Try.func29, Try.ntmps29
  go_wp2
  go_loopw [5] (fun i wr => ∃ k : Nat, k ≤ l.length ∧ i = .int .i64 k ∧ Hid (EGood w rb g sb cb mb k wr)) (fun i _ => l.length - (intOf i).toNat)
  case atStart => exact ⟨0, Nat.zero_le _, rfl, HG⟩
  case round =>
    obtain ⟨k, hk, rfl, HR⟩ := hrel
    clear HG
    by_cases hlt : k < l.length
    · obtain ⟨x, hx⟩ : ∃ x, l[k]? = some x := ⟨_, List.getElem?_eq_getElem hlt⟩
      obtain ⟨w1, w2, w3, w4⟩ := HW.out x (List.mem_of_getElem? hx)
      obtain ⟨xb, xo, xc, hve, hc⟩ := Rd.cell HD.out (by omega)
      simp only [Value.slice.injEq] at hve
      obtain ⟨rfl, -, rfl⟩ := hve
      obtain ⟨h0, h1⟩ := u8_wf w1
      obtain ⟨a0, a1⟩ := u8_wf w2
      obtain ⟨v0, v1⟩ := u8_wf w3
      obtain ⟨s0, s1⟩ := u64_wf w4
      have hcx : ∀ (wq : World), Keep Nil w wq → wq.cell? ⟨xb, xo + k * 4, none⟩ = some (.int .u8 x.h) ∧ wq.cell? ⟨xb, xo + k * 4 + 1, none⟩ = some (.int .u8 x.a) ∧ wq.cell? ⟨xb, xo + k * 4 + 2, none⟩ = some (.int .u8 x.v) ∧ wq.cell? ⟨xb, xo + k * 4 + 3, none⟩ = some (.int .u64 x.s) := fun wq hk =>
        ⟨hk.cell (hc _ _ (actCells_at hx (j := 0) rfl)) (fun h => h), hk.cell (hc _ _ (actCells_at hx (j := 1) rfl)) (fun h => h), hk.cell (hc _ _ (actCells_at hx (j := 2) rfl)) (fun h => h), hk.cell (hc _ _ (actCells_at hx (j := 3) rfl)) (fun h => h)⟩
      have HC := hid hcx
      obtain ⟨q0, q1, q2, q3⟩ := hcx _ HR.out.own
      have hact : ∀ s' : Nat, s' ≠ 0 → s' < 18446744073709551616 → Calls Try.prog 30 #[.pointer (some ⟨rb, 0, none⟩), .int .i64 (IntKind.i64.wrap (x.h.tmod 6)), .int .u8 x.a, .int .i64 (IntKind.i64.wrap (x.v.tmod 64)), .int .u64 s'] wr.drew fun e w' => e = .returned (.bool true) ∧ EGood w rb g sb cb mb (k + 1) w' := by
        intro s' hs' hs1'
        obtain ⟨t, ht⟩ : ∃ t : Nat, x.h % 6 = t := ⟨(x.h % 6).toNat, by omega⟩
        have e1 : IntKind.i64.wrap (x.h.tmod 6) = t := by rw [Int.tmod_eq_emod_of_nonneg h0, IntKind.wrap_i64]; omega
        have e2 : IntKind.i64.wrap (x.v.tmod 64) = x.v % 64 := by rw [Int.tmod_eq_emod_of_nonneg v0, IntKind.wrap_i64]; omega
        rw [e1, e2]
        exact eact_good (HR.out.keep (Keep.refl Nil _).drew) (by omega) t (by omega) x.a (x.v % 64) s' a0 (by omega) (by omega) hs' hs1'
      have HA := hid hact
      obtain ⟨sn, hsn⟩ := Int.eq_ofNat_of_zero_le s0
      have SL := hid (show sn < 18446744073709551616 by omega)
      rw [hsn] at q3
      clear hx hc hcx hact w1 w2 w3 w4 HR s0 s1 hsn
      by_cases hs : sn = 0
      · have d1 : ((sn : Int) == 0) = true := by rw [hs]; rfl
        have ha' := HA.out 18446744073709551615 (by decide) (by decide)
        rw [show ((18446744073709551615 : Nat) : Int) = 18446744073709551615 from rfl] at ha'
        have HA' := hid ha'
        clear hs ha'
        go_wp2
        go_region_held3 (fun w' => w'.cell? ⟨xb, xo + k * 4, none⟩ = some (.int .u8 x.h) ∧ w'.cell? ⟨xb, xo + k * 4 + 1, none⟩ = some (.int .u8 x.a) ∧ w'.cell? ⟨xb, xo + k * 4 + 2, none⟩ = some (.int .u8 x.v)) (go_keep)
          ((go_at_call 30; (with_reducible refine HA'.out.mono ?_); rintro e w5 ⟨rfl, hg5⟩; obtain ⟨p0, p1, p2, -⟩ := HC.out w5 hg5.own; have G5 := hid hg5; clear hg5))
        go_wp2
        go_roundw
        case rel => exact ⟨k + 1, by omega, by go_num, G5⟩
        case measure => simp [intOf]; omega
      · have d1 : ((sn : Int) == 0) = false := beq_eq_false_iff_ne.2 (by omega)
        have HS := hid hs
        clear hs
        go_wp2
        go_region_held3 (fun w' => w'.cell? ⟨xb, xo + k * 4, none⟩ = some (.int .u8 x.h) ∧ w'.cell? ⟨xb, xo + k * 4 + 1, none⟩ = some (.int .u8 x.a) ∧ w'.cell? ⟨xb, xo + k * 4 + 2, none⟩ = some (.int .u8 x.v)) (go_keep)
          ((go_at_call 30; (with_reducible refine (HA.out sn HS.out SL.out).mono ?_); rintro e w5 ⟨rfl, hg5⟩; obtain ⟨p0, p1, p2, -⟩ := HC.out w5 hg5.own; have G5 := hid hg5; clear hg5))
        go_wp2
        go_roundw
        case rel => exact ⟨k + 1, by omega, by go_num, G5⟩
        case measure => simp [intOf]; omega
    · obtain rfl : k = l.length := by omega
      go_wp2
      go_ret
      exact ⟨rfl, HR.out⟩
end
end Go.Proofs.Ytihgfklajhhikaa
