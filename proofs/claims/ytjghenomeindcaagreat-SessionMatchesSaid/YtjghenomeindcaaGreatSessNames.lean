/- the statements on sessions: the example; the closed statement. -/
import Derived.Test.YtjghenomeindcaaGreatSessOpen
import Derived.Test.YtjghenomeindcaaGreatStoreEx
import Derived.Test.YtjghenomeindcaaGreatStoreSw
import Derived.Test.YtjghenomeindcaaGreatKit
set_option linter.unusedVariables false
set_option linter.unusedSimpArgs false
namespace Go.Lf
theorem OSpec.first {n : Nat} {ws : List Int} {t s st err : Int} {ws' : List Int} (h : OSpec n ws t s st err ws') {k : Nat} (hk : k < n) (h0 : ws[k]? = some 0) (hj : ∀ j, j < k → ∃ x, ws[j]? = some x ∧ x ≠ 0) : s = (k : Int) ∧ st = (k : Int) + 1 ∧ err = 0 ∧ ws' = ws.set k (t + 1) := by
  rcases h with ⟨q, hq, h1, h2, h3, h4, h5, h6⟩ | ⟨h1, -⟩
  · have : q = k := by
      rcases Nat.lt_trichotomy q k with h | h | h
      · obtain ⟨x, hx, hx0⟩ := hj q h
        rw [h1] at hx; cases hx; exact absurd rfl hx0
      · exact h
      · obtain ⟨x, hx, hx0⟩ := h2 k h
        rw [h0] at hx; cases hx; exact absurd rfl hx0
    subst this
    exact ⟨h3, h4, h5, h6⟩
  · obtain ⟨x, hx, hx0⟩ := h1 k hk
    rw [h0] at hx; cases hx; exact absurd rfl hx0
theorem OSpec.full {n : Nat} {ws : List Int} {t s st err : Int} {ws' : List Int} (h : OSpec n ws t s st err ws') (hj : ∀ j, j < n → ∃ x, ws[j]? = some x ∧ x ≠ 0) : s = 0 ∧ st = (n : Int) ∧ err = 10 ∧ ws' = ws := by
  rcases h with ⟨q, hq, h1, -⟩ | ⟨-, h⟩
  · obtain ⟨x, hx, hx0⟩ := hj q hq
    rw [h1] at hx; cases hx; exact absurd rfl hx0
  · exact h
theorem ex_init : ∃ rest, ints exC.init = 0 :: 0 :: rest ∧ (∀ x ∈ rest, 0 ≤ x ∧ x < 18446744073709551616) ∧ rest.length < 1000 := by
  refine ⟨(ints exC.init).drop 2, ?_, ?_, ?_⟩
  · decide +kernel
  · decide +kernel
  · decide +kernel
end Go.Lf
namespace Go.Proofs.YtjghenomeindcaaGreat
open Go.RowKit Go.Lf
section
variable {w : World}
/-- The owners are compared. -/
theorem own_rd {W W' : World} {l : List Int} {g : Nat} (h : W.heap[g]? = some (.cells (i64s l).toArray 3 (0, 0))) (hk : Keep Nil W W') : Rd W' 1 (.slice (some ⟨g, 0, none⟩) l.length l.length) l.length (l.map (Value.int .i64)) :=
  rd_keep (rd_of_heap h (by simp [i64s])) hk (fun _ _ h => h)
def SOpenTo (w : World) (c : Cfg) (b mb : Nat) (ws : List Int) (log : List Acc) (t : Int) (e : Ending) (w' : World) : Prop :=
  ∃ s st err ws' log', e = .returned (.tuple #[.int .i64 s, .int .i64 st, .int .i64 err]) ∧ SW w w' c b mb ws' log' ∧ OSpec c.sl ws t s st err ws' ∧ log'.length ≤ log.length + 64
section
variable {wr : World} {c : Cfg} {b mb : Nat} {ws : List Int} {log : List Acc} {t slot : Int}
theorem sw_open (h : SW w wr c b mb ws log) (hok : c.ok) (hlen : c.sl ≤ ws.length) (t0 : 0 ≤ t) (t1 : t < 64) (hlog : log.length < 100000000000) : Calls Tryz.prog 16 #[.pointer (some ⟨b, 0, none⟩), .int .i64 t] wr (SOpenTo w c b mb ws log t) := by
  obtain ⟨⟨A, hlie, hA⟩, hown⟩ := h
  refine (open_ok (ws := ws) (log := log) hlie hok hlen t0 t1 hlog).mono ?_
  rintro e w' ⟨s, st, err, ws', log', rfl, hto, hsp, hl⟩
  exact ⟨s, st, err, ws', log', rfl, SW.turn hown hA hto, hsp, hl⟩
theorem sw_owners (h : SW w wr c b mb ws log) (hok : c.ok) (hlen : c.sl ≤ ws.length) (hwf : ∀ x ∈ ws, 0 ≤ x ∧ x < 18446744073709551616) {l : List Int} (hl : (ws.take c.sl).map ownOf = l) : Calls Tryz.prog 13 #[.pointer (some ⟨b, 0, none⟩)] wr (OwnTo wr l) := by
  subst hl
  obtain ⟨⟨A, ⟨L, F, G, hsp⟩, hA⟩, hown⟩ := h
  exact sowners_ok hsp hok hlen hwf
theorem sw_new (h : SW w wr c b mb ws log) (hok : c.ok) (t0 : 0 ≤ t) (t1 : t < 64) : Calls Tryz.prog 8 #[.pointer (some ⟨b, 0, none⟩), .int .i64 t] wr (SNewTo wr b t c.sl) := by
  obtain ⟨⟨A, ⟨L, F, G, hsp⟩, hA⟩, hown⟩ := h
  exact snew_ok hsp hok t t0 t1
theorem sw_close_range (h : SW w wr c b mb ws log) (hok : c.ok) (t0 : 0 ≤ t) (t1 : t < 64) (hs : slot < 0 ∨ (c.sl : Int) ≤ slot) : Calls Tryz.prog 12 #[.pointer (some ⟨b, 0, none⟩), .int .i64 t, .int .i64 slot] wr fun e w' => e = .returned (.int .i64 3) ∧ Keep Nil wr w' := by
  obtain ⟨⟨A, ⟨L, F, G, hsp⟩, hA⟩, hown⟩ := h
  exact sclose_range hsp hok t0 t1 hs
theorem sw_close_state (h : SW w wr c b mb ws log) (hok : c.ok) (t0 : 0 ≤ t) (t1 : t < 64) (s0 : 0 ≤ slot) (s1 : slot < c.sl) {x : Int} (hx : ws[slot.toNat]? = some x) (hne : x ≠ t + 1) : Calls Tryz.prog 12 #[.pointer (some ⟨b, 0, none⟩), .int .i64 t, .int .i64 slot] wr fun e w' => e = .returned (.int .i64 8) ∧ Keep Nil wr w' := by
  obtain ⟨⟨A, ⟨L, F, G, hsp⟩, hA⟩, hown⟩ := h
  exact sclose_state hsp hok t0 t1 s0 s1 hx hne
theorem sw_close (h : SW w wr c b mb ws log) (hok : c.ok) (t0 : 0 ≤ t) (t1 : t < 64) (s0 : 0 ≤ slot) (s1 : slot < c.sl) (hx : ws[slot.toNat]? = some (t + 1)) (hlog : log.length < 1000000000000) : Calls Tryz.prog 12 #[.pointer (some ⟨b, 0, none⟩), .int .i64 t, .int .i64 slot] wr fun e w' => e = .returned (.int .i64 0) ∧ SW w w' c b mb (ws.set slot.toNat 0) (log ++ [⟨t, slot, 2, t + 1, 0, false⟩]) := by
  obtain ⟨⟨A, ⟨L, F, G, hsp⟩, hA⟩, hown⟩ := h
  refine (sclose_ok hsp hok t0 t1 s0 s1 hx hlog).mono ?_
  rintro e w' ⟨rfl, hto⟩
  exact ⟨rfl, SW.turn hown hA hto⟩
end
set_option maxRecDepth 100000 in
set_option maxHeartbeats 8000000 in
theorem awake_ok : Calls Tryz.prog 22 #[] w fun e w' => e = .returned (.bool true) ∧ Keep Nil w w' := by
  obtain ⟨rest, hinit, hrest, hrl⟩ := ex_init
  have HI := hid hinit
  have HR := hid hrest
  have HL := hid hrl
  clear hinit hrest hrl
  go_enter Tryz.func22, Tryz.ntmps22
  go_wp2_with fail
  refine example_ok.mono ?_
  rintro e w1 ⟨rfl, hk1⟩
  have HK1 := hid hk1
  clear hk1
  go_wp2_with fail
  refine exnew_ok.mono ?_
  rintro e w2 hnew
  obtain ⟨b, mb, rfl, hs⟩ := SW.new HK1.out hnew
  rw [HI.out] at hs
  have HS := hid hs
  clear hnew hs
  go_wp2_with fail
  refine (sw_open HS.out exC_ok (by simp [exC]) (by decide) (by decide) (by decide)).mono ?_
  rintro e w3 ⟨s, st, err, ws', log', rfl, hs, hsp, hlen⟩
  obtain ⟨rfl, rfl, rfl, rfl⟩ := hsp.first (k := 0) (by decide) rfl (fun j hj => by omega)
  have HS3 := hid hs
  have HLEN := hid hlen
  clear hs hsp hlen HS
  go_wp2_with fail
  refine (sw_open HS3.out exC_ok (by simp [exC]) (by decide) (by decide) (by have := HLEN.out; simp at this; omega)).mono ?_
  rintro e w4 ⟨s, st, err, ws', log2, rfl, hs, hsp, hlen⟩
  obtain ⟨rfl, rfl, rfl, rfl⟩ := hsp.first (k := 1) (by decide) rfl (fun j hj => by obtain rfl : j = 0 := (by omega); exact ⟨_, rfl, by decide⟩)
  have HS4 := hid hs
  have HLEN2 := hid hlen
  clear hs hsp hlen HS3
  go_wp2_with fail
  refine (sw_open HS4.out exC_ok (by simp [exC]) (by decide) (by decide) (by have h1 := HLEN.out; have h2 := HLEN2.out; simp at h1; omega)).mono ?_
  rintro e w5 ⟨s, st, err, ws', log3, rfl, hs, hsp, hlen⟩
  obtain ⟨rfl, rfl, rfl, rfl⟩ := hsp.full (fun j hj => by
    have : j = 0 ∨ j = 1 := by have : j < 2 := hj; omega
    rcases this with rfl | rfl
    · exact ⟨_, rfl, by decide⟩
    · exact ⟨_, rfl, by decide⟩)
  have HS5 := hid hs
  clear hs hsp hlen HS4
  go_wp2_with fail
  refine (sw_owners HS5.out exC_ok (by simp [exC]) (by
    intro x hx
    simp at hx
    rcases hx with rfl | rfl | hx
    · decide
    · decide
    · exact HR.out x hx) (l := [1, 0]) rfl).mono ?_
  rintro e w6 ⟨g, rfl, hg, -, hk6⟩
  have HG := hid hg
  have HK6 := hid (HS5.out.own.trans hk6 (fun _ _ h => h))
  clear hg hk6
  go_wp2_with fail
  refine (eqI_yes _ _ [1, 0] _ (own_rd HG.out ((Keep.refl Nil w6).alloc _)) (rd_new _ _ _ _ _ _) (by decide)).mono ?_
  rintro e w7 ⟨rfl, hk7⟩
  have HK7 := hid ((HK6.out.alloc _).trans hk7 (fun _ _ h => h))
  clear hk7
  go_wp2
  go_ret
  exact ⟨rfl, HK7.out⟩
end
end Go.Proofs.YtjghenomeindcaaGreat
