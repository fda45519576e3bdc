/- law14.Op.step. -/
import Derived.Test.YtjghenomeindcaaGreatPoolJ
set_option linter.unusedVariables false
set_option linter.unusedSimpArgs false
namespace Go.Proofs.YtjghenomeindcaaGreat
open Go.RowKit Go.Lf
@[reducible] def opVals (a b p : Option Addr) : Array Value := #[.pointer a, .pointer b, .pointer p]
def OBx (W : World) (bx : Nat) (a b p : Option Addr) : Prop := W.heap[bx]? = some (.cells (opVals a b p) 93 (0, 0))
def POpTo (w wr : World) (Lo : Nat → Prop) (c : Cfg) (pb mb L qb nb l : Nat) (s : PSt) (xs : List POb) (qs : List PO) (bl : List Nat) (k : Nat) (x : POb) (e : Ending) (w' : World) : Prop :=
  e = .returned (.bool true) ∧ ∃ (s' : PSt) (o' : PO), o'.gv = x.o.gv ∧ (∃ L' sw', QInv c s' (qs.set k o') L' sw') ∧ s'.log.length ≤ s.log.length + 1 ∧ PMT w w' Lo c pb mb L qb nb l s' s' (xs.set k { x with o := o' }) (qs.set k o') bl ∧ Keep (Out w Lo) wr w'
section
variable {w wr w' : World} {Lo : Nat → Prop} {c : Cfg} {pb mb L qb nb l bx : Nat} {s : PSt} {xs : List POb} {qs : List PO} {bl : List Nat} {Lst : Nat → List Int} {sw : Nat → Int} {a b p : Option Addr}
theorem OBx.cs {W : World} (h : OBx W bx a b p) : W.cell? ⟨bx, 0, none⟩ = some (.pointer a) ∧ W.cell? ⟨bx, 1, none⟩ = some (.pointer b) ∧ W.cell? ⟨bx, 2, none⟩ = some (.pointer p) ∧ bx < W.heap.size :=
  ⟨by rw [cell_of h]; rfl, by rw [cell_of h]; rfl, by rw [cell_of h]; rfl, lt_of_block h⟩
theorem OBx.out {W W' : World} {L2 : Nat → Prop} (h : OBx W bx a b p) (hk : Keep (Out w L2) W W') (hl : L2 bx) : OBx W' bx a b p := hk.loc h hl
theorem OBx.quiet {W W' : World} (h : OBx W bx a b p) (hk : Keep Nil W W') : OBx W' bx a b p := hk.at h (fun h => h)
set_option maxRecDepth 100000 in
set_option maxHeartbeats 4000000 in
theorem p_opT (h : PMT w wr Lo c pb mb L qb nb l s s xs qs bl) (hi : QInv c s qs Lst sw) (hok : c.ok) (hl : s.log.length < 1000000) {k q : Nat} {x : POb} (hx : xs[k]? = some x) (hq : qs[k]? = some x.o) (hb : bl[k]? = some q) (hg : x.o.gv = false) :
    Calls Tryz.prog 40 #[.agg #[.pointer (some ⟨x.tb, 0, none⟩), .pointer none, .pointer (some ⟨q, 0, none⟩)]] wr (POpTo w wr Lo c pb mb L qb nb l s xs qs bl k x) := by
  have hsz := h.own.size
  obtain ⟨L2, hL2⟩ : ∃ L2 : Nat → Prop, L2 = fun k => Lo k ∨ k = wr.heap.size := ⟨_, rfl⟩
  have HT := hid (show PMT w (wr.alloc (.cells #[.pointer (some ⟨x.tb, 0, none⟩), .pointer none, .pointer (some ⟨q, 0, none⟩)] 93)) L2 c pb mb L qb nb l s s xs qs bl by rw [hL2]; exact p_own1 h _)
  have HB := hid (show OBx (wr.alloc (.cells #[.pointer (some ⟨x.tb, 0, none⟩), .pointer none, .pointer (some ⟨q, 0, none⟩)] 93)) wr.heap.size (some ⟨x.tb, 0, none⟩) none (some ⟨q, 0, none⟩) from heap_alloc_new wr _)
  have HLB := hid (show L2 wr.heap.size by rw [hL2]; exact .inr rfl)
  have HL2 := hid hL2
  have HKW := hid ((Keep.refl Nil wr).alloc (.cells #[.pointer (some ⟨x.tb, 0, none⟩), .pointer none, .pointer (some ⟨q, 0, none⟩)] 93))
  have HX := hid hx
  have HQ := hid hq
  have HP := hid hb
  have HG := hid hg
  obtain ⟨pc, done, s', o', hst⟩ := p_step HT.out hi hok hl hx hq hb
  have HST := hid hst
  obtain ⟨nx, hnx⟩ : ∃ nx, nx = x.o.pc := ⟨_, rfl⟩
  have HNX := hid hnx
  clear h hi hok hl hx hq hb hg hst hnx hL2
  go_enter Tryz.func40, Tryz.ntmps40
  obtain ⟨W, hW⟩ : ∃ W, W = wr.alloc (.cells #[.pointer (some ⟨x.tb, 0, none⟩), .pointer none, .pointer (some ⟨q, 0, none⟩)] 93) := ⟨_, rfl⟩
  rw [← hW] at HT HB HKW HST
  obtain ⟨bx, hbx⟩ : ∃ bx, bx = wr.heap.size := ⟨_, rfl⟩
  rw [← hbx] at HB HLB
  have HBX := hid hbx
  obtain ⟨c0, c1, c2, z0⟩ := HB.out.cs
  go_upto_region 1 with fail
  rw [← hW, ← hbx]
  clear hW hbx
  go_wp2_with fail
  refine (r14next (PMT.rob HT.out HP.out HQ.out)).mono ?_
  rintro e w1 ⟨rfl, rfl⟩
  rw [← HNX.out]
  go_wp2_with fail
  refine (tnext_ok (PMT.tk HT.out HX.out HG.out)).mono ?_
  rintro e w1 ⟨rfl, rfl⟩
  rw [← HNX.out]
  have n0 : (nx != nx) = false := by simp
  go_wp2_with fail
  refine (HST.out.ta HG.out).mono ?_
  rintro e w3 ⟨rfl, ht3, hk3⟩
  have HT3 := hid ht3
  have HB3 := hid (HB.out.out hk3 HLB.out)
  have HK3 := hid hk3
  clear ht3 hk3 c0 c1 c2 z0
  obtain ⟨c0, c1, c2, z0⟩ := HB3.out.cs
  go_wp2_with fail
  refine (HST.out.b w3 _ HT3.out).mono ?_
  rintro e w4 ⟨rfl, ht4, hk4⟩
  have HT4 := hid ht4
  have HB4 := hid (HB3.out.out hk4 HLB.out)
  have HK4 := hid hk4
  have HX4 := hid (show (xs.set k { x with o := o' })[k]? = some { x with o := o' } by rw [List.getElem?_set_self (List.getElem?_eq_some_iff.1 HX.out).1])
  have HQ4 := hid (show (qs.set k o')[k]? = some o' by rw [List.getElem?_set_self (List.getElem?_eq_some_iff.1 HQ.out).1])
  have HG4 := hid (show ({ x with o := o' } : POb).o.gv = false from HST.out.gv.trans HG.out)
  obtain ⟨⟨r1, r2, r3⟩, hres⟩ : ∃ r, r = PO.res o' := ⟨_, rfl⟩
  have HRA := hid (show ∀ w1, TkAt w1 x.tb x.m pb c o' → Calls Tryz.prog 92 #[.pointer (some ⟨x.tb, 0, none⟩)] w1 fun e w' => e = .returned (.tuple #[.int .i64 r1, .int .i64 r2, .int .i64 r3]) ∧ Keep Nil w1 w' from fun w1 h => tres_ok h r1 r2 r3 hres.symm)
  have HRB := hid (show ∀ w1, RRunAt w1 q qb o' → Calls Tryz.prog 93 #[.pointer (some ⟨q, 0, none⟩)] w1 fun e w' => e = .returned (.tuple #[.int .i64 r1, .int .i64 r2, .int .i64 r3]) ∧ Keep Nil w1 w' from fun w1 h => r14res h (HST.out.gv.trans HG.out) r1 r2 r3 hres.symm)
  clear ht4 hk4 c0 c1 c2 z0 hres
  obtain ⟨c0, c1, c2, z0⟩ := HB4.out.cs
  go_wp2_with fail
  refine (HRA.out w4 (PMT.tk HT4.out HX4.out HG4.out)).mono ?_
  rintro e w5 ⟨rfl, hk5⟩
  have HT5 := hid (HT4.out.quiet hk5)
  have HB5 := hid (HB4.out.quiet hk5)
  have HK5 := hid hk5
  clear hk5 c0 c1 c2 z0
  obtain ⟨c0, c1, c2, z0⟩ := HB5.out.cs
  go_wp2_with fail
  refine (HRB.out w5 (PMT.rob HT5.out HP.out HQ4.out)).mono ?_
  rintro e w6 ⟨rfl, hk6⟩
  have HT6 := hid (HT5.out.quiet hk6)
  have HB6 := hid (HB5.out.quiet hk6)
  have HK6 := hid hk6
  clear hk6 c0 c1 c2 z0
  obtain ⟨c0, c1, c2, z0⟩ := HB6.out.cs
  obtain ⟨ny, hny⟩ : ∃ ny, ny = o'.pc := ⟨_, rfl⟩
  have HNA := hid (show ∀ w1, TkAt w1 x.tb x.m pb c o' → Calls Tryz.prog 89 #[.pointer (some ⟨x.tb, 0, none⟩)] w1 fun e w' => e = .returned (.int .u8 ny) ∧ w1 = w' from fun w1 h => hny ▸ tnext_ok h)
  have HNB := hid (show ∀ w1, RRunAt w1 q qb o' → Calls Tryz.prog 88 #[.pointer (some ⟨q, 0, none⟩)] w1 fun e w' => e = .returned (.int .u8 ny) ∧ w1 = w' from fun w1 h => hny ▸ r14next h)
  clear hny
  have m1 : (pc == pc) = true := by simp
  have m2 : (done == done) = true := by simp
  have m3 : (r1 == r1) = true := by simp
  have m4 : (r2 == r2) = true := by simp
  have m5 : (r3 == r3) = true := by simp
  have m6 : (ny == ny) = true := by simp
  go_wp2
  go_quiet (first | (go_at_call 89; exact quiet_eq (HNA.out _ (PMT.tk (HT6.out.quiet ((Keep.refl Nil _).drewN _)) HX4.out HG4.out))) | (go_at_call 88; exact quiet_eq (HNB.out _ (PMT.rob (HT6.out.quiet ((Keep.refl Nil _).drewN _)) HP.out HQ4.out))))
  go_wp2
  go_ret
  have hk : Keep (Out w L2) W _ := (HK3.out.trans HK4.out (fun _ _ h => h)).trans ((p_out (w := w) (L := L2) (HK5.out.trans HK6.out (fun _ _ h => h))).drewN nq) (fun _ _ h => h)
  have hout : ∀ k, k < wr.heap.size → Out w L2 k → Out w Lo k := fun k hlt e => ⟨fun hl => e.1 (by rw [HL2.out]; exact .inl hl), e.2⟩
  exact ⟨rfl, s', o', HST.out.gv, HST.out.inv, HST.out.log, (HT6.out.quiet ((Keep.refl Nil _).drewN nq)).less (L' := Lo) (fun k hl => by rw [HL2.out]; exact .inl hl), (HKW.out.mono (T := Out w Lo) (fun _ _ h => h.elim)).trans hk hout⟩
set_option maxRecDepth 100000 in
set_option maxHeartbeats 4000000 in
theorem p_opG (h : PMT w wr Lo c pb mb L qb nb l s s xs qs bl) (hi : QInv c s qs Lst sw) (hok : c.ok) (hl : s.log.length < 1000000) {k q : Nat} {x : POb} (hx : xs[k]? = some x) (hq : qs[k]? = some x.o) (hb : bl[k]? = some q) (hg : x.o.gv = true) :
    Calls Tryz.prog 40 #[.agg #[.pointer none, .pointer (some ⟨x.tb, 0, none⟩), .pointer (some ⟨q, 0, none⟩)]] wr (POpTo w wr Lo c pb mb L qb nb l s xs qs bl k x) := by
  have hsz := h.own.size
  obtain ⟨L2, hL2⟩ : ∃ L2 : Nat → Prop, L2 = fun k => Lo k ∨ k = wr.heap.size := ⟨_, rfl⟩
  have HT := hid (show PMT w (wr.alloc (.cells #[.pointer none, .pointer (some ⟨x.tb, 0, none⟩), .pointer (some ⟨q, 0, none⟩)] 93)) L2 c pb mb L qb nb l s s xs qs bl by rw [hL2]; exact p_own1 h _)
  have HB := hid (show OBx (wr.alloc (.cells #[.pointer none, .pointer (some ⟨x.tb, 0, none⟩), .pointer (some ⟨q, 0, none⟩)] 93)) wr.heap.size none (some ⟨x.tb, 0, none⟩) (some ⟨q, 0, none⟩) from heap_alloc_new wr _)
  have HLB := hid (show L2 wr.heap.size by rw [hL2]; exact .inr rfl)
  have HL2 := hid hL2
  have HKW := hid ((Keep.refl Nil wr).alloc (.cells #[.pointer none, .pointer (some ⟨x.tb, 0, none⟩), .pointer (some ⟨q, 0, none⟩)] 93))
  have HX := hid hx
  have HQ := hid hq
  have HP := hid hb
  have HG := hid hg
  obtain ⟨pc, done, s', o', hst⟩ := p_step HT.out hi hok hl hx hq hb
  have HST := hid hst
  obtain ⟨nx, hnx⟩ : ∃ nx, nx = x.o.pc := ⟨_, rfl⟩
  have HNX := hid hnx
  clear h hi hok hl hx hq hb hg hst hnx hL2
  go_enter Tryz.func40, Tryz.ntmps40
  obtain ⟨W, hW⟩ : ∃ W, W = wr.alloc (.cells #[.pointer none, .pointer (some ⟨x.tb, 0, none⟩), .pointer (some ⟨q, 0, none⟩)] 93) := ⟨_, rfl⟩
  rw [← hW] at HT HB HKW HST
  obtain ⟨bx, hbx⟩ : ∃ bx, bx = wr.heap.size := ⟨_, rfl⟩
  rw [← hbx] at HB HLB
  have HBX := hid hbx
  obtain ⟨c0, c1, c2, z0⟩ := HB.out.cs
  go_upto_region 1 with fail
  rw [← hW, ← hbx]
  clear hW hbx
  go_wp2_with fail
  refine (r14next (PMT.rob HT.out HP.out HQ.out)).mono ?_
  rintro e w1 ⟨rfl, rfl⟩
  rw [← HNX.out]
  go_wp2_with fail
  refine (gnext_ok (PMT.gv HT.out HX.out HG.out)).mono ?_
  rintro e w1 ⟨rfl, rfl⟩
  rw [← HNX.out]
  have n0 : (nx != nx) = false := by simp
  go_wp2_with fail
  refine (HST.out.ga HG.out).mono ?_
  rintro e w3 ⟨rfl, ht3, hk3⟩
  have HT3 := hid ht3
  have HB3 := hid (HB.out.out hk3 HLB.out)
  have HK3 := hid hk3
  clear ht3 hk3 c0 c1 c2 z0
  obtain ⟨c0, c1, c2, z0⟩ := HB3.out.cs
  go_wp2_with fail
  refine (HST.out.b w3 _ HT3.out).mono ?_
  rintro e w4 ⟨rfl, ht4, hk4⟩
  have HT4 := hid ht4
  have HB4 := hid (HB3.out.out hk4 HLB.out)
  have HK4 := hid hk4
  have HX4 := hid (show (xs.set k { x with o := o' })[k]? = some { x with o := o' } by rw [List.getElem?_set_self (List.getElem?_eq_some_iff.1 HX.out).1])
  have HQ4 := hid (show (qs.set k o')[k]? = some o' by rw [List.getElem?_set_self (List.getElem?_eq_some_iff.1 HQ.out).1])
  have HG4 := hid (show ({ x with o := o' } : POb).o.gv = true from HST.out.gv.trans HG.out)
  clear ht4 hk4 c0 c1 c2 z0
  obtain ⟨c0, c1, c2, z0⟩ := HB4.out.cs
  obtain ⟨ny, hny⟩ : ∃ ny, ny = o'.pc := ⟨_, rfl⟩
  have HNA := hid (show ∀ w1, GvAt w1 x.tb x.m pb c o' → Calls Tryz.prog 94 #[.pointer (some ⟨x.tb, 0, none⟩)] w1 fun e w' => e = .returned (.int .u8 ny) ∧ w1 = w' from fun w1 h => hny ▸ gnext_ok h)
  have HNB := hid (show ∀ w1, RRunAt w1 q qb o' → Calls Tryz.prog 88 #[.pointer (some ⟨q, 0, none⟩)] w1 fun e w' => e = .returned (.int .u8 ny) ∧ w1 = w' from fun w1 h => hny ▸ r14next h)
  clear hny
  have m1 : (pc == pc) = true := by simp
  have m2 : (done == done) = true := by simp
  have m6 : (ny == ny) = true := by simp
  go_wp2
  go_quiet (first | (go_at_call 94; exact quiet_eq (HNA.out _ (PMT.gv (HT4.out.quiet ((Keep.refl Nil _).drewN _)) HX4.out HG4.out))) | (go_at_call 88; exact quiet_eq (HNB.out _ (PMT.rob (HT4.out.quiet ((Keep.refl Nil _).drewN _)) HP.out HQ4.out))))
  go_wp2
  go_ret
  have hk : Keep (Out w L2) W _ := (HK3.out.trans HK4.out (fun _ _ h => h)).drewN nq
  have hout : ∀ k, k < wr.heap.size → Out w L2 k → Out w Lo k := fun k hlt e => ⟨fun hl => e.1 (by rw [HL2.out]; exact .inl hl), e.2⟩
  exact ⟨rfl, s', o', HST.out.gv, HST.out.inv, HST.out.log, (HT4.out.quiet ((Keep.refl Nil _).drewN nq)).less (L' := Lo) (fun k hl => by rw [HL2.out]; exact .inl hl), (HKW.out.mono (T := Out w Lo) (fun _ _ h => h.elim)).trans hk hout⟩
end
end Go.Proofs.YtjghenomeindcaaGreat
