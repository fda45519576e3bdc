/- law14: what the examples need: the pools and operations that the walk has made. -/
import Derived.Test.YtjghenomeindcaaPoolE
import Derived.Test.YtjghenomeindcaaPoolSi
set_option linter.unusedVariables false
set_option linter.unusedSimpArgs false
namespace Go.Lf
open Go.RowKit
/-- A step over the pools. -/
def stp (c : Cfg) (p : PSt × PO) : PSt × PO := (p.2.st c p.1 ((p.1.ws[p.2.at c]?).getD 0), p.2.op ((p.1.ws[p.2.at c]?).getD 0))
def stpN (c : Cfg) : Nat → PSt × PO → PSt × PO
  | 0, p => p
  | n + 1, p => stp c (stpN c n p)
/-- What a step asks of the numbers, as a test. -/
def stpOk (c : Cfg) (p : PSt × PO) : Bool :=
  decide (0 ≤ p.2.th ∧ p.2.th < 64 ∧ 1 ≤ p.2.ht ∧ p.2.ht ≤ 6 ∧ p.1.log.length < 1000000000) &&
  (if p.2.gv then decide (p.2.pc = 4 ∨ p.2.pc = 7 ∨ p.2.pc = 8) else decide (p.2.pc = 4 ∨ p.2.pc = 5 ∨ p.2.pc = 6)) &&
  (match p.1.ws[p.2.at c]? with
  | none => false
  | some x =>
    decide (p.2.pc = 4 → 0 ≤ x ∧ x < 18446744073709551616) && decide (p.2.pc = 5 ∨ p.2.pc = 7 → 1 ≤ p.2.tw ∧ p.2.tw ≤ c.nT) && decide (p.2.pc = 5 → 0 ≤ x ∧ x ≤ 1024) && decide (p.2.pc ≠ 4 → 0 ≤ p.2.w ∧ p.2.w / 65536 < 1099511627775) &&
    decide (p.2.pc = 6 → 0 ≤ p.2.bl ∧ p.2.bl ≤ 1024 ∧ 0 ≤ p.2.fl ∧ p.2.fl < 1000000000) &&
    decide (p.2.pc = 8 → 1 ≤ p.2.tw ∧ p.2.tw ≤ c.nT ∧ (match p.1.gens[p.2.tw.toNat - 1]? with | none => false | some g => decide (0 ≤ g ∧ g < 1000000000)) = true))
theorem stpOk_num {c : Cfg} {p : PSt × PO} (h : stpOk c p = true) : (0 ≤ p.2.th ∧ p.2.th < 64 ∧ 1 ≤ p.2.ht ∧ p.2.ht ≤ 6 ∧ p.1.log.length < 1000000000) ∧ (if p.2.gv then (p.2.pc = 4 ∨ p.2.pc = 7 ∨ p.2.pc = 8) else (p.2.pc = 4 ∨ p.2.pc = 5 ∨ p.2.pc = 6)) ∧ ∃ x, p.1.ws[p.2.at c]? = some x ∧ PGo c p.1 p.2 x := by
  unfold stpOk at h
  rw [Bool.and_eq_true, Bool.and_eq_true] at h
  obtain ⟨⟨h1, h2⟩, h3⟩ := h
  refine ⟨of_decide_eq_true h1, ?_, ?_⟩
  · split at h2
    · rename_i e; rw [if_pos e]; exact of_decide_eq_true h2
    · rename_i e; rw [if_neg e]; exact of_decide_eq_true h2
  · cases hx : p.1.ws[p.2.at c]? with
    | none => rw [hx] at h3; cases h3
    | some x =>
      rw [hx] at h3
      simp only [Bool.and_eq_true, decide_eq_true_eq] at h3
      obtain ⟨⟨⟨⟨⟨a1, a2⟩, a3⟩, a4⟩, a5⟩, a6⟩ := h3
      refine ⟨x, rfl, a1, a2, a3, a4, a5, fun hp => ?_⟩
      obtain ⟨b1, b2, b3⟩ := a6 hp
      cases hg : p.1.gens[p.2.tw.toNat - 1]? with
      | none => rw [hg] at b3; cases b3
      | some g => rw [hg] at b3; exact ⟨b1, b2, g, rfl, by simpa using b3⟩
end Go.Lf
namespace Go.Proofs.Ytjghenomeindcaa
open Go.RowKit Go.Lf
/-- The pools and operations that a walk has made, beside blocks of the walk (ob). -/
structure PXA (w : World) (ob : Nat → Option Obj) (c : Cfg) (pb L : Nat) (s : PSt) (ops : List POb) (A : Nat → Prop) (wr : World) : Prop where
  lie : (PoolsL c pb L).lie wr A (s, ops)
  low : ∀ k, A k → w.heap.size ≤ k
  kp : Keep Nil w wr
  blk : ∀ k o, ob k = some o → ¬ A k ∧ wr.heap[k]? = some o
def PX (w : World) (ob : Nat → Option Obj) (c : Cfg) (pb L : Nat) (s : PSt) (ops : List POb) (wr : World) : Prop := ∃ A, PXA w ob c pb L s ops A wr
section
variable {w wr w' : World} {ob : Nat → Option Obj} {c : Cfg} {pb L mb j : Nat} {s s' : PSt} {ops ops' : List POb} {x : POb} {A F : Nat → Prop} {ws : List Int} {log : List Acc}
theorem PXA.turn (h0 : PXA w ob c pb L s ops A wr) (h : (PoolsL c pb L).To wr A (s', ops') w') : PX w ob c pb L s' ops' w' := by
  obtain ⟨A', h1, h2, h3⟩ := h
  exact ⟨A', h1, fun k e => (h3 k e).elim (h0.low k) (fun e => by have := h0.kp.size; omega), h0.kp.trans h2 (fun k hlt e => by have := h0.low k e; omega), fun k o hk => by
    obtain ⟨b1, b2⟩ := h0.blk k o hk
    exact ⟨fun e => (h3 k e).elim b1 (fun e => by have := lt_of_block b2; omega), h2.at b2 b1⟩⟩
theorem PX.quiet (h : PX w ob c pb L s ops wr) (hk : Keep Nil wr w') : PX w ob c pb L s ops w' := by
  obtain ⟨A, h1, h2, h3, h4⟩ := h
  exact ⟨A, (PoolsL c pb L).keep h1 hk (fun _ _ h => h), h2, h3.trans hk (fun _ _ h => h), fun k o e => ⟨(h4 k o e).1, hk.at (h4 k o e).2 (fun h => h)⟩⟩
theorem PX.keep (h : PX w ob c pb L s ops wr) : Keep Nil w wr := by
  obtain ⟨A, h1, h2, h3, h4⟩ := h
  exact h3
/-- A new block of the walk, in place of the elder ones. -/
theorem PX.mark (h : PX w ob c pb L s ops wr) (cs : Array Value) (e : TypeId) : PX w (fun k => if k = wr.heap.size then some (.cells cs e) else none) c pb L s ops (wr.alloc (.cells cs e)) := by
  obtain ⟨A, h1, h2, h3, h4⟩ := h
  have hk := (Keep.refl Nil wr).alloc (.cells cs e)
  refine ⟨A, (PoolsL c pb L).keep h1 hk (fun _ _ h => h), h2, h3.trans hk (fun _ _ h => h), fun k o hk => ?_⟩
  split at hk
  · rename_i e1
    subst e1
    cases hk
    exact ⟨fun e => by have := (PoolsL c pb L).lt h1 _ e; omega, heap_alloc_new wr _⟩
  · cases hk
theorem PX.tstep (h : PX w ob c pb L s ops wr) (hok : c.ok) (hj : ops[j]? = some x) (hg : x.o.gv = false) (ht : stpOk c (s, x.o) = true) :
    Calls Try.prog 21 #[.pointer (some ⟨x.tb, 0, none⟩)] wr fun e w' => e = .returned (.tuple #[.int .u8 x.o.pc, .bool ((stp c (s, x.o)).2.pc == 0)]) ∧ PX w ob c pb L (stp c (s, x.o)).1 (ops.set j ⟨x.tb, x.m, (stp c (s, x.o)).2⟩) w' := by
  obtain ⟨A, h0⟩ := h
  have h1 := h0.lie
  obtain ⟨⟨a1, a2, a3, a4, a5⟩, hp, v, hv, hgo⟩ := stpOk_num ht
  have hp' : ¬ (x.o.gv = true) := by rw [hg]; decide
  simp only at a1 a2 a3 a4 a5 hp hv hgo
  rw [if_neg hp'] at hp
  have e : stp c (s, x.o) = (x.o.st c s v, x.o.op v) := by unfold stp; simp only [hv, Option.getD_some]
  rw [e]
  refine (pools_tstep h1 hok hj hg ⟨a1, a2, a3, a4, a5⟩ hp hgo hv).mono ?_
  rintro e w' ⟨rfl, h4⟩
  exact ⟨rfl, h0.turn h4⟩
theorem PX.gstep (h : PX w ob c pb L s ops wr) (hok : c.ok) (hj : ops[j]? = some x) (hg : x.o.gv = true) (ht : stpOk c (s, x.o) = true) :
    Calls Try.prog 24 #[.pointer (some ⟨x.tb, 0, none⟩)] wr fun e w' => e = .returned (.tuple #[.int .u8 x.o.pc, .bool ((stp c (s, x.o)).2.pc == 0)]) ∧ PX w ob c pb L (stp c (s, x.o)).1 (ops.set j ⟨x.tb, x.m, (stp c (s, x.o)).2⟩) w' := by
  obtain ⟨A, h0⟩ := h
  have h1 := h0.lie
  obtain ⟨⟨a1, a2, a3, a4, a5⟩, hp, v, hv, hgo⟩ := stpOk_num ht
  simp only at a1 a2 a3 a4 a5 hp hv hgo
  rw [if_pos hg] at hp
  have e : stp c (s, x.o) = (x.o.st c s v, x.o.op v) := by unfold stp; simp only [hv, Option.getD_some]
  rw [e]
  refine (pools_gstep h1 hok hj hg ⟨a1, a2, a3, a4, a5⟩ hp hgo hv).mono ?_
  rintro e w' ⟨rfl, h4⟩
  exact ⟨rfl, h0.turn h4⟩
theorem PX.takes (h : PX w ob c pb L s ops wr) (hok : c.ok) (th hh tr : Int) (t0 : 0 ≤ th) (t1 : th < 64) (k1 : 1 ≤ hh) (k6 : hh ≤ 6) (r0 : 0 ≤ tr) (r1 : tr ≤ 255) :
    Calls Try.prog 19 #[.pointer (some ⟨pb, 0, none⟩), .int .i64 th, .int .i64 hh, .int .i64 tr] wr fun e w' => ∃ tb m, e = .returned (.tuple #[.pointer (some ⟨tb, 0, none⟩), .int .i64 0]) ∧ PX w ob c pb L s (ops ++ [⟨tb, m, PO.take th hh.toNat tr⟩]) w' := by
  obtain ⟨A, h0⟩ := h
  have h1 := h0.lie
  refine (pools_take h1 hok th hh tr t0 t1 k1 k6 r0 r1).mono ?_
  rintro e w' ⟨⟨tb, m, o⟩, ⟨rfl, rfl⟩, h4⟩
  exact ⟨tb, m, rfl, h0.turn h4⟩
theorem PX.give (h : PX w ob c pb L s ops wr) (hok : c.ok) (th tw : Int) (t0 : 0 ≤ th) (t1 : th < 64) (g1 : 1 ≤ tw) (g2 : tw ≤ c.nT) (hs : s.out tw = some false) (k : Nat) (hk : c.hs[tw.toNat - 1]? = some k) :
    Calls Try.prog 23 #[.pointer (some ⟨pb, 0, none⟩), .int .i64 th, .int .i64 tw] wr fun e w' => ∃ tb m, e = .returned (.tuple #[.pointer (some ⟨tb, 0, none⟩), .int .i64 0]) ∧ PX w ob c pb L { s with out := pup s.out tw (some true) } (ops ++ [⟨tb, m, PO.give th k tw⟩]) w' := by
  obtain ⟨A, h0⟩ := h
  have h1 := h0.lie
  refine (pools_give h1 hok th tw t0 t1 g1 g2 hs k hk).mono ?_
  rintro e w' ⟨⟨tb, m, o⟩, ⟨rfl, rfl⟩, h4⟩
  exact ⟨tb, m, rfl, h0.turn h4⟩
theorem PX.give_no (h : PX w ob c pb L s ops wr) (hok : c.ok) (th tw : Int) (t0 : 0 ≤ th) (t1 : th < 64) (g1 : 1 ≤ tw) (g2 : tw ≤ c.nT) (hs : s.out tw ≠ some false) :
    Calls Try.prog 23 #[.pointer (some ⟨pb, 0, none⟩), .int .i64 th, .int .i64 tw] wr fun e w' => e = .returned (.tuple #[.pointer none, .int .i64 8]) ∧ PX w ob c pb L s ops w' := by
  obtain ⟨A, h0⟩ := h
  have h1 := h0.lie
  obtain ⟨F, mb, ob', gb, F1, G, hpa⟩ := pools_pa h1
  refine (pgive_state hpa hok th tw t0 t1 g1 g2 hs).mono ?_
  rintro e w' ⟨rfl, hk⟩
  exact ⟨rfl, PX.quiet ⟨A, h0⟩ hk⟩
theorem PX.tres (h : PX w ob c pb L s ops wr) (hj : ops[j]? = some x) (hg : x.o.gv = false) (a b e : Int) (hr : PO.res x.o = (a, b, e)) :
    Calls Try.prog 20 #[.pointer (some ⟨x.tb, 0, none⟩)] wr fun e' w' => e' = .returned (.tuple #[.int .i64 a, .int .i64 b, .int .i64 e]) ∧ PX w ob c pb L s ops w' := by
  obtain ⟨A, h0⟩ := h
  have h1 := h0.lie
  refine (tres_ok (pools_tk h1 hj hg) a b e hr).mono ?_
  rintro e w' ⟨rfl, hk⟩
  exact ⟨rfl, PX.quiet ⟨A, h0⟩ hk⟩
theorem PX.gen (h : PX w ob c pb L s ops wr) (hok : c.ok) (y : Int) (x1 : 1 ≤ y) (x2 : y ≤ c.nT) (g : Int) (hg : s.gens[y.toNat - 1]? = some g) :
    Calls Try.prog 25 #[.pointer (some ⟨pb, 0, none⟩), .int .i64 y] wr fun e w' => e = .returned (.tuple #[.int .i64 g, .int .i64 0]) ∧ wr = w' := by
  obtain ⟨A, h0⟩ := h
  have h1 := h0.lie
  obtain ⟨F, mb, ob', gb, F1, G, hpa⟩ := pools_pa h1
  exact pgen_ok hpa hok y x1 x2 g hg
theorem PX.outs (h : PX w ob c pb L s ops wr) (hok : c.ok) {St : Nat → List Int} {sw : Nat → Int} (hi : SInv c s St sw) (l : List Int) (hl : outL c.nT s.out = l) :
    Calls Try.prog 18 #[.pointer (some ⟨pb, 0, none⟩)] wr fun e w' => ∃ v, e = .returned v ∧ Rd w' 1 v l.length (l.map (Value.int .i64)) ∧ PX w ob c pb L s ops w' := by
  obtain ⟨A, h0⟩ := h
  have h1 := h0.lie
  obtain ⟨F, mb, ob', gb, F1, G, hpa⟩ := pools_pa h1
  subst hl
  refine (pout_ok hpa hok (fun x hx => ((hi.out x).1 hx).1)).mono ?_
  rintro e w' ⟨a, cp, rfl, hrow, hk, -⟩
  exact ⟨_, rfl, orow_rd (ORow.of_row hrow), PX.quiet ⟨A, h0⟩ hk⟩
set_option maxRecDepth 100000 in
set_option maxHeartbeats 4000000 in
theorem PX.lists (h : PX w ob c pb L s ops wr) (hok : c.ok) {St : Nat → List Int} {sw : Nat → Int} (hi : SInv c s St sw) (hs : ∀ k, k < 6 → sw k < 4000000000) (one two : List Int) (l1 : St 0 = one) (l2 : St 1 = two) (l3 : St 2 = []) (v1 v2 : Value) (r1 : Rd wr 1 v1 one.length (one.map (Value.int .i64))) (r2 : Rd wr 1 v2 two.length (two.map (Value.int .i64))) (m1 : one.length ≤ 1000) (m2 : two.length ≤ 1000) :
    Calls Try.prog 17 #[.pointer (some ⟨pb, 0, none⟩), v1, v2] wr fun e w' => e = .returned (.bool true) ∧ PX w ob c pb L s ops w' := by
  obtain ⟨A, h0⟩ := h
  have h1 := h0.lie
  obtain ⟨F, mb, ob', gb, F1, G, hpa⟩ := pools_pa h1
  have hs0 := And.intro (hs 0 (by decide)) (And.intro (hs 1 (by decide)) (And.intro (hs 2 (by decide)) (And.intro (hs 3 (by decide)) (And.intro (hs 4 (by decide)) (hs 5 (by decide))))))
  have HI1 := hid (fun W (hk : Keep Nil wr W) => show Calls Try.prog 26 #[.pointer (some ⟨pb, 0, none⟩), .int .i64 1] W (ListTo W one) from by
    have := plist_ok (hpa.quiet hk) hok hi hs0 1 (by decide) (by decide)
    rw [show (1 : Int).toNat - 1 = 0 from rfl, l1] at this
    exact this)
  have HI2 := hid (fun W (hk : Keep Nil wr W) => show Calls Try.prog 26 #[.pointer (some ⟨pb, 0, none⟩), .int .i64 2] W (ListTo W two) from by
    have := plist_ok (hpa.quiet hk) hok hi hs0 2 (by decide) (by decide)
    rw [show (2 : Int).toNat - 1 = 1 from rfl, l2] at this
    exact this)
  have HI3 := hid (fun W (hk : Keep Nil wr W) => show Calls Try.prog 26 #[.pointer (some ⟨pb, 0, none⟩), .int .i64 3] W (ListTo W []) from by
    have := plist_ok (hpa.quiet hk) hok hi hs0 3 (by decide) (by decide)
    rw [show (3 : Int).toNat - 1 = 2 from rfl, l3] at this
    exact this)
  have HPX := hid (show PX w ob c pb L s ops wr from ⟨A, h0⟩)
  have R1 := hid r1
  have R2 := hid r2
  have HM := hid (And.intro m1 m2)
  clear h0 h1 hpa hi hs hs0 r1 r2 l1 l2 l3 m1 m2
  go_enter Try.func17, Try.ntmps17
  go_wp2_with fail
  refine (HI1.out _ (Keep.refl _ _)).mono ?_
  rintro e w1 ⟨a1, cp1, rfl, hr1, hk1, -⟩
  have Q1 := hid (orow_rd (ORow.of_row hr1))
  have K1 := hid hk1
  clear hr1 hk1
  go_wp2_with fail
  refine (HI2.out _ K1.out).mono ?_
  rintro e w2 ⟨a2, cp2, rfl, hr2, hk2, -⟩
  have Q2 := hid (orow_rd (ORow.of_row hr2))
  have K2 := hid hk2
  clear hr2 hk2
  go_wp2_with fail
  refine (HI3.out _ (K1.out.trans K2.out (fun _ _ h => h))).mono ?_
  rintro e w3 ⟨a3, cp3, rfl, -, hk3, -⟩
  have K3 := hid hk3
  clear hk3
  have HE1 := hid (fun W (hk : Keep Nil w3 W) => eqInts_yes _ _ one W (rd_keep (rd_keep (rd_keep Q1.out K2.out (fun _ _ h => h)) K3.out (fun _ _ h => h)) hk (fun _ _ h => h)) (rd_keep R1.out (((K1.out.trans K2.out (fun _ _ h => h)).trans K3.out (fun _ _ h => h)).trans hk (fun _ _ h => h)) (fun _ _ h => h)) (by have := HM.out; omega))
  have HE2 := hid (fun W (hk : Keep Nil w3 W) => eqInts_yes _ _ two W (rd_keep (rd_keep Q2.out K3.out (fun _ _ h => h)) hk (fun _ _ h => h)) (rd_keep R2.out (((K1.out.trans K2.out (fun _ _ h => h)).trans K3.out (fun _ _ h => h)).trans hk (fun _ _ h => h)) (fun _ _ h => h)) (by have := HM.out; omega))
  go_wp2_with fail
  refine (HE1.out _ (Keep.refl _ _)).mono ?_
  rintro e w4 ⟨rfl, hk4⟩
  have K4 := hid hk4
  clear hk4
  go_wp2_with fail
  refine (HE2.out _ K4.out).mono ?_
  rintro e w5 ⟨rfl, hk5⟩
  have HF := hid (HPX.out.quiet ((((K1.out.trans K2.out (fun _ _ h => h)).trans K3.out (fun _ _ h => h)).trans K4.out (fun _ _ h => h)).trans hk5 (fun _ _ h => h)))
  clear hk5
  go_wp2
  go_ret
  exact ⟨rfl, HF.out⟩
/-- pool.New of a memory that is too small. -/
theorem poolnew_nil (v : Value) : Calls Try.prog 16 #[.pointer none, v] w fun e w' => e = .returned (.tuple #[.pointer none, .int .i64 1]) ∧ Keep Nil w w' := by
  go_enter Try.func16, Try.ntmps16
  go_wp2
  go_ret2
  exact ⟨rfl, Keep.refl _ _⟩
set_option maxRecDepth 100000 in
set_option maxHeartbeats 4000000 in
theorem poolnew_arg (hl : LayAt w L c) (hm : MemAt w mb F ws log) (hw : ws.length < c.words) (h16 : c.words ≤ 65536) : Calls Try.prog 16 #[.pointer (some ⟨mb, 0, none⟩), .pointer (some ⟨L, 0, none⟩)] w fun e w' => e = .returned (.tuple #[.pointer none, .int .i64 2]) ∧ Keep Nil w w' := by
  have HL := hid hl
  have HM := hid hm
  have wm : IntKind.i64.wrap ((c.words : Int) - 1) = (c.words : Int) - 1 := by rw [IntKind.wrap_i64]; omega
  have hz := le_words c
  have HW := hid hw
  clear hl hm hw
  go_enter Try.func16, Try.ntmps16
  go_wp2_with fail
  refine (places_ok HL.out).mono ?_
  rintro e w1 ⟨rfl, hk⟩
  have HK := hid hk
  have HM1 := hid (HM.out.keep (hk.trans ((Keep.refl Nil w1).alloc (.cells (plcC c) 80 (0, 0))) (fun _ _ h => h)) (fun _ _ h => h))
  clear hk
  go_wp2_with fail
  refine (peek_no HM1.out ((c.words : Int) - 1) (.inr (by have := HW.out; omega))).mono ?_
  rintro e w' ⟨rfl, rfl⟩
  go_wp2
  go_ret2
  exact ⟨rfl, HK.out.trans ((Keep.refl Nil w1).alloc _) (fun _ _ h => h)⟩
end
end Go.Proofs.Ytjghenomeindcaa
