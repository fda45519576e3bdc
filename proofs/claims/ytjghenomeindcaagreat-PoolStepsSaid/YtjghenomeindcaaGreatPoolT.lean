/- pool: what the steps of Take and of Give do. -/
import Derived.Test.YtjghenomeindcaaGreatPoolS
import Derived.Deep.DeepCutAuto
set_option linter.unusedVariables false
set_option linter.unusedSimpArgs false
namespace Go.Proofs.YtjghenomeindcaaGreat
open Go.RowKit Go.Lf
def TakeMap (w : World) (m : Nat) : Prop := ∃ c1 c2 c3 : Nat, MapAt w m [(⟨.int .u8 4, .func (.func 80) #[] #[], c1⟩ : MapEntry), ⟨.int .u8 5, .func (.func 81) #[] #[], c2⟩, ⟨.int .u8 6, .func (.func 82) #[] #[], c3⟩]
def GiveMap (w : World) (m : Nat) : Prop := ∃ c1 c2 c3 : Nat, MapAt w m [(⟨.int .u8 4, .func (.func 85) #[] #[], c1⟩ : MapEntry), ⟨.int .u8 7, .func (.func 86) #[] #[], c2⟩, ⟨.int .u8 8, .func (.func 87) #[] #[], c3⟩]
@[reducible] def hdOf (c : Cfg) (o : PO) : Int := ((c.pools + o.ht - 1 : Nat) : Int)
@[reducible] def tkCells (pb m : Nat) (c : Cfg) (o : PO) : Array Value := #[.pointer (some ⟨pb, 0, none⟩), .int .i64 o.th, .int .i64 o.tw, .int .i64 (hdOf c o), .int .u64 o.w, .int .u8 o.pc, .map (some m), .int .i64 o.bl, .int .i64 o.fl, .int .i64 o.tr, .int .i64 o.e]
@[reducible] def gvCells (pb m : Nat) (c : Cfg) (o : PO) : Array Value := #[.pointer (some ⟨pb, 0, none⟩), .int .i64 o.th, .int .i64 o.tw, .int .i64 (hdOf c o), .int .u64 o.w, .int .u8 o.pc, .map (some m)]
/-- An operation at block tb, its map at block m. -/
structure TkAt (w : World) (tb m pb : Nat) (c : Cfg) (o : PO) : Prop where
  head : w.heap[tb]? = some (.cells (tkCells pb m c o) 188 (0, 0))
  map : TakeMap w m
  ne : m ≠ tb
  gv : o.gv = false
structure GvAt (w : World) (tb m pb : Nat) (c : Cfg) (o : PO) : Prop where
  head : w.heap[tb]? = some (.cells (gvCells pb m c o) 196 (0, 0))
  map : GiveMap w m
  ne : m ≠ tb
  gv : o.gv = true
/-- An operation and the pools beside it. -/
structure PIn (w : World) (A : Nat → Prop) (c : Cfg) (pb mb L ob gb : Nat) (F G : Nat → Prop) (s : PSt) (tb m : Nat) (o : PO) : Prop where
  pa : PA w A c pb mb L ob gb F G s
  ok : c.ok
  n1 : ¬ A tb
  n2 : ¬ A m
  t0 : 0 ≤ o.th
  t1 : o.th < 64
  h1 : 1 ≤ o.ht
  h6 : o.ht ≤ 6
  lg : s.log.length < 1000000000
section
variable {w w1 w2 w' : World} {A : Nat → Prop} {c : Cfg} {pb mb L ob gb tb m : Nat} {F G : Nat → Prop} {s s' : PSt} {ws' : List Int} {log' : List Acc} {o o' : PO}
theorem TkAt.keep (h : TkAt w tb m pb c o) {S : Nat → Prop} (hk : Keep S w w') (n1 : ¬ S tb) (n2 : ¬ S m) : TkAt w' tb m pb c o := by
  obtain ⟨c1, c2, c3, hm⟩ := h.map
  exact ⟨hk.at h.head n1, ⟨c1, c2, c3, hm.keep hk n2⟩, h.ne, h.gv⟩
theorem GvAt.keep (h : GvAt w tb m pb c o) {S : Nat → Prop} (hk : Keep S w w') (n1 : ¬ S tb) (n2 : ¬ S m) : GvAt w' tb m pb c o := by
  obtain ⟨c1, c2, c3, hm⟩ := h.map
  exact ⟨hk.at h.head n1, ⟨c1, c2, c3, hm.keep hk n2⟩, h.ne, h.gv⟩
theorem TkAt.lt (h : TkAt w tb m pb c o) : tb < w.heap.size ∧ m < w.heap.size := by
  obtain ⟨c1, c2, c3, hm⟩ := h.map
  exact ⟨lt_of_block h.head, hm.lt⟩
theorem GvAt.lt (h : GvAt w tb m pb c o) : tb < w.heap.size ∧ m < w.heap.size := by
  obtain ⟨c1, c2, c3, hm⟩ := h.map
  exact ⟨lt_of_block h.head, hm.lt⟩
theorem TkAt.put (h : TkAt w tb m pb c o) (hk : Keep (fun k => k = tb) w w') (hh : w'.heap[tb]? = some (.cells (tkCells pb m c o') 188 (0, 0))) (hg : o'.gv = o.gv) : TkAt w' tb m pb c o' := by
  obtain ⟨c1, c2, c3, hm⟩ := h.map
  exact ⟨hh, ⟨c1, c2, c3, hm.keep hk h.ne⟩, h.ne, hg.trans h.gv⟩
theorem GvAt.put (h : GvAt w tb m pb c o) (hk : Keep (fun k => k = tb) w w') (hh : w'.heap[tb]? = some (.cells (gvCells pb m c o') 196 (0, 0))) (hg : o'.gv = o.gv) : GvAt w' tb m pb c o' := by
  obtain ⟨c1, c2, c3, hm⟩ := h.map
  exact ⟨hh, ⟨c1, c2, c3, hm.keep hk h.ne⟩, h.ne, hg.trans h.gv⟩
theorem TkAt.com (h : TkAt w tb m pb c o) : Com w tb pb o.th (hdOf c o) o.w := by
  refine ⟨?_, ?_, ?_, ?_, free_of h.head 4⟩ <;> (rw [cell_of h.head]; rfl)
theorem GvAt.com (h : GvAt w tb m pb c o) : Com w tb pb o.th (hdOf c o) o.w := by
  refine ⟨?_, ?_, ?_, ?_, free_of h.head 4⟩ <;> (rw [cell_of h.head]; rfl)
/-- The pools and an operation have turned. -/
def TTo (w : World) (A : Nat → Prop) (c : Cfg) (pb mb L tb m : Nat) (s' : PSt) (o' : PO) (w' : World) : Prop := ∃ A', (PoolL c pb mb L).lie w' A' s' ∧ TkAt w' tb m pb c o' ∧ Keep (fun k => A k ∨ k = tb) w w' ∧ Foot w A A'
def GTo (w : World) (A : Nat → Prop) (c : Cfg) (pb mb L tb m : Nat) (s' : PSt) (o' : PO) (w' : World) : Prop := ∃ A', (PoolL c pb mb L).lie w' A' s' ∧ GvAt w' tb m pb c o' ∧ Keep (fun k => A k ∨ k = tb) w w' ∧ Foot w A A'
theorem keepF {A1 : Nat → Prop} (hf : Foot w A A1) (hn : ¬ A tb) (hl : tb < w.heap.size) : ¬ A1 tb := fun e => (hf tb e).elim hn (fun e => by omega)
theorem PA.subF (h : PA w A c pb mb L ob gb F G s) : ∀ k, F k → A k := fun k e => (h.foot k).2 (.inr (.inr (.inr (.inl e))))
/-- Behind a call of the memory and stores into the operation. -/
theorem TTo.mk {A1 : Nat → Prop} {F1 : Nat → Prop} (h : PA w A c pb mb L ob gb F G s) (n1 : ¬ A tb) (hl : tb < w.heap.size) (h1 : PA w1 A1 c pb mb L ob gb F1 G s') (k1 : Keep F w w1) (f1 : Foot w A A1) (h2 : TkAt w2 tb m pb c o') (k2 : Keep (fun k => k = tb) w1 w2) : TTo w A c pb mb L tb m s' o' w2 :=
  ⟨A1, ⟨ob, gb, F1, G, h1.keep k2 (fun k hk e => keepF f1 n1 hl (e ▸ hk))⟩, h2, (k1.mono (T := fun k => A k ∨ k = tb) (fun k _ e => .inl (h.subF k e))).trans (k2.mono (T := fun k => A k ∨ k = tb) (fun _ _ e => .inr e)) (fun _ _ e => e), f1⟩
theorem GTo.mk {A1 : Nat → Prop} {F1 : Nat → Prop} (h : PA w A c pb mb L ob gb F G s) (n1 : ¬ A tb) (hl : tb < w.heap.size) (h1 : PA w1 A1 c pb mb L ob gb F1 G s') (k1 : Keep F w w1) (f1 : Foot w A A1) (h2 : GvAt w2 tb m pb c o') (k2 : Keep (fun k => k = tb) w1 w2) : GTo w A c pb mb L tb m s' o' w2 :=
  ⟨A1, ⟨ob, gb, F1, G, h1.keep k2 (fun k hk e => keepF f1 n1 hl (e ▸ hk))⟩, h2, (k1.mono (T := fun k => A k ∨ k = tb) (fun k _ e => .inl (h.subF k e))).trans (k2.mono (T := fun k => A k ∨ k = tb) (fun _ _ e => .inr e)) (fun _ _ e => e), f1⟩
theorem PIn.hd (h : PIn w A c pb mb L ob gb F G s tb m o) : 0 ≤ hdOf c o ∧ (hdOf c o).toNat = c.pools + o.ht - 1 := by unfold hdOf; omega
theorem PIn.nF (h : PIn w A c pb mb L ob gb F G s tb m o) : ¬ F tb ∧ ¬ F m := ⟨fun e => h.n1 (h.pa.subF tb e), fun e => h.n2 (h.pa.subF m e)⟩
set_option maxRecDepth 100000 in
set_option maxHeartbeats 4000000 in
theorem tlook_yes (h : PIn w A c pb mb L ob gb F G s tb m o) (ht : TkAt w tb m pb c o) (x : Int) (x0 : 0 ≤ x) (x1 : x < 18446744073709551616) (hx : s.ws[c.pools + o.ht - 1]? = some x) (hz : x % 65536 ≠ 0) :
    Calls Tryz.prog 80 #[.pointer (some ⟨tb, 0, none⟩)] w fun e w' => e = .returned (.tuple #[]) ∧ TTo w A c pb mb L tb m { s with log := s.log ++ [⟨o.th, hdOf c o, 1, x, x, false⟩] } { o with w := x, tw := x % 65536, pc := 5 } w' := by
  have H := hid h
  have HT := hid ht
  have HX := hid (show s.ws[(hdOf c o).toNat]? = some x by rw [h.hd.2]; exact hx)
  have dz : (x % 65536 == 0) = false := by simpa using hz
  clear h ht hx
  go_enter Tryz.func80, Tryz.ntmps80
  go_wp2_with fail
  refine (cload_ok H.out.pa HT.out.com H.out.n1 H.out.t0 H.out.t1 H.out.hd.1 x HX.out (Nat.lt_trans H.out.lg (by decide))).mono ?_
  rintro e w9 ⟨rfl, w1, A1, F1, h1, k1, f1, rfl⟩
  obtain ⟨W, hW⟩ : ∃ W, W = w1.setCell ⟨tb, 4, none⟩ (.int .u64 x) := ⟨_, rfl⟩
  rw [← hW]
  have t1 := HT.out.keep k1 H.out.nF.1 H.out.nF.2
  have kW : Keep (fun k => k = tb) w1 W := hW ▸ (Keep.refl (fun k => k = tb) w1).setCell (.inl rfl) _
  have hb : W.heap[tb]? = some (.cells (tkCells pb m c { o with w := x }) 188 (0, 0)) := by rw [hW]; exact set_same t1.head _
  have tW := t1.put (o' := { o with w := x }) kW hb rfl
  have c2 : W.cell? ⟨tb, 2, none⟩ = some (.int .i64 o.tw) := by rw [cell_of hb]; rfl
  have c4 : W.cell? ⟨tb, 4, none⟩ = some (.int .u64 x) := by rw [cell_of hb]; rfl
  have c5 : W.cell? ⟨tb, 5, none⟩ = some (.int .u8 o.pc) := by rw [cell_of hb]; rfl
  have c10 : W.cell? ⟨tb, 10, none⟩ = some (.int .i64 o.e) := by rw [cell_of hb]; rfl
  have z2 : W.frozen? ⟨tb, 2, none⟩ = false := free_of hb 2
  have z5 : W.frozen? ⟨tb, 5, none⟩ = false := free_of hb 5
  have z10 : W.frozen? ⟨tb, 10, none⟩ = false := free_of hb 10
  have H1 := hid h1
  have K1 := hid k1
  have FT := hid f1
  have TW := hid tW
  have KW := hid kW
  have HB := hid hb
  have HLT := hid HT.out.lt.1
  clear hW h1 k1 f1 t1 kW hb tW hz
  go_wp2_with (go_at_call 97; refine (ftower_ok x x0 x1).mono ?_; rintro e w9 ⟨rfl, rfl⟩)
  go_end0
  have kX : Keep (fun k => k = tb) W ((W.setCell ⟨tb, 5, none⟩ (.int .u8 5)).setCell ⟨tb, 2, none⟩ (.int .i64 (x % 65536))) := (((Keep.refl (fun k => k = tb) W).setCell (.inl rfl) _).setCell (.inl rfl) _)
  exact ⟨rfl, TTo.mk H.out.pa H.out.n1 HLT.out H1.out K1.out FT.out (TW.out.put kX (set_same (set_same HB.out _) _) rfl) (KW.out.trans kX (fun _ _ h => h))⟩
set_option maxRecDepth 100000 in
set_option maxHeartbeats 4000000 in
theorem tlook_no (h : PIn w A c pb mb L ob gb F G s tb m o) (ht : TkAt w tb m pb c o) (x : Int) (x0 : 0 ≤ x) (x1 : x < 18446744073709551616) (hx : s.ws[c.pools + o.ht - 1]? = some x) (hz : x % 65536 = 0) :
    Calls Tryz.prog 80 #[.pointer (some ⟨tb, 0, none⟩)] w fun e w' => e = .returned (.tuple #[]) ∧ TTo w A c pb mb L tb m { s with log := s.log ++ [⟨o.th, hdOf c o, 1, x, x, false⟩] } { o with w := x, tw := x % 65536, pc := 0, e := 6 } w' := by
  have H := hid h
  have HT := hid ht
  have HX := hid (show s.ws[(hdOf c o).toNat]? = some x by rw [h.hd.2]; exact hx)
  have dz : (x % 65536 == 0) = true := by simpa using hz
  clear h ht hx
  go_enter Tryz.func80, Tryz.ntmps80
  go_wp2_with fail
  refine (cload_ok H.out.pa HT.out.com H.out.n1 H.out.t0 H.out.t1 H.out.hd.1 x HX.out (Nat.lt_trans H.out.lg (by decide))).mono ?_
  rintro e w9 ⟨rfl, w1, A1, F1, h1, k1, f1, rfl⟩
  obtain ⟨W, hW⟩ : ∃ W, W = w1.setCell ⟨tb, 4, none⟩ (.int .u64 x) := ⟨_, rfl⟩
  rw [← hW]
  have t1 := HT.out.keep k1 H.out.nF.1 H.out.nF.2
  have kW : Keep (fun k => k = tb) w1 W := hW ▸ (Keep.refl (fun k => k = tb) w1).setCell (.inl rfl) _
  have hb : W.heap[tb]? = some (.cells (tkCells pb m c { o with w := x }) 188 (0, 0)) := by rw [hW]; exact set_same t1.head _
  have tW := t1.put (o' := { o with w := x }) kW hb rfl
  have c2 : W.cell? ⟨tb, 2, none⟩ = some (.int .i64 o.tw) := by rw [cell_of hb]; rfl
  have c4 : W.cell? ⟨tb, 4, none⟩ = some (.int .u64 x) := by rw [cell_of hb]; rfl
  have c5 : W.cell? ⟨tb, 5, none⟩ = some (.int .u8 o.pc) := by rw [cell_of hb]; rfl
  have c10 : W.cell? ⟨tb, 10, none⟩ = some (.int .i64 o.e) := by rw [cell_of hb]; rfl
  have z2 : W.frozen? ⟨tb, 2, none⟩ = false := free_of hb 2
  have z5 : W.frozen? ⟨tb, 5, none⟩ = false := free_of hb 5
  have z10 : W.frozen? ⟨tb, 10, none⟩ = false := free_of hb 10
  have H1 := hid h1
  have K1 := hid k1
  have FT := hid f1
  have TW := hid tW
  have KW := hid kW
  have HB := hid hb
  have HLT := hid HT.out.lt.1
  clear hW h1 k1 f1 t1 kW hb tW hz
  go_wp2_with (go_at_call 97; refine (ftower_ok x x0 x1).mono ?_; rintro e w9 ⟨rfl, rfl⟩)
  go_end0
  have kX : Keep (fun k => k = tb) W ((((W.setCell ⟨tb, 5, none⟩ (.int .u8 5)).setCell ⟨tb, 2, none⟩ (.int .i64 (x % 65536))).setCell ⟨tb, 5, none⟩ (.int .u8 0)).setCell ⟨tb, 10, none⟩ (.int .i64 6)) := (((((Keep.refl (fun k => k = tb) W).setCell (.inl rfl) _).setCell (.inl rfl) _).setCell (.inl rfl) _).setCell (.inl rfl) _)
  exact ⟨rfl, TTo.mk H.out.pa H.out.n1 HLT.out H1.out K1.out FT.out (TW.out.put kX (set_same (set_same (set_same (set_same HB.out _) _) _) _) rfl) (KW.out.trans kX (fun _ _ h => h))⟩
set_option maxRecDepth 100000 in
set_option maxHeartbeats 4000000 in
theorem tunder_ok (h : PIn w A c pb mb L ob gb F G s tb m o) (ht : TkAt w tb m pb c o) (g1 : 1 ≤ o.tw) (g2 : o.tw ≤ c.nT) (x : Int) (x0 : 0 ≤ x) (x1 : x ≤ 1024) (hx : s.ws[c.links + o.tw.toNat - 1]? = some x) :
    Calls Tryz.prog 81 #[.pointer (some ⟨tb, 0, none⟩)] w fun e w' => e = .returned (.tuple #[]) ∧ TTo w A c pb mb L tb m { s with log := s.log ++ [⟨o.th, ((c.links + o.tw.toNat - 1 : Nat) : Int), 1, x, x, false⟩] } { o with bl := x, pc := 6 } w' := by
  have H := hid h
  have HT := hid ht
  have hat : ((c.links + o.tw.toNat - 1 : Nat) : Int) = (c.links : Int) + o.tw - 1 := by omega
  have HX := hid (show s.ws[((c.links : Int) + o.tw - 1).toNat]? = some x by rw [← hat, Int.toNat_natCast]; exact hx)
  have HA0 := hid (show 0 ≤ (c.links : Int) + o.tw - 1 by omega)
  rw [hat]
  have hC := ht.com
  have i0 := hC.c0
  have i1 := hC.c1
  have i2 : w.cell? ⟨tb, 2, none⟩ = some (.int .i64 o.tw) := by rw [cell_of ht.head]; rfl
  obtain ⟨i5, -⟩ := h.pa.cells
  have wx : IntKind.i64.wrap x = x := by rw [IntKind.wrap_i64]; omega
  clear h ht hx hC hat
  go_enter Tryz.func81, Tryz.ntmps81
  have KD := hid ((Keep.refl Nil w).drew)
  go_wp2
  go_region_held3 (fun w' => w'.cell? ⟨tb, 0, none⟩ = some (.pointer (some ⟨pb, 0, none⟩)) ∧ w'.cell? ⟨tb, 1, none⟩ = some (.int .i64 o.th) ∧ w'.cell? ⟨tb, 2, none⟩ = some (.int .i64 o.tw) ∧ w'.cell? ⟨pb, 0, none⟩ = some (.pointer (some ⟨mb, 0, none⟩))) (go_keep)
    (first
      | (go_at_call 129; (with_reducible refine (clink_ok (H.out.pa.quiet KD.out) H.out.ok (HT.out.com.keep KD.out (fun h => h)) o.tw g1 g2).mono ?_); rintro e w9 ⟨rfl, rfl⟩)
      | (go_at_call 128; (with_reducible refine (load_ok (H.out.pa.quiet KD.out).mem o.th ((c.links : Int) + o.tw - 1) x H.out.t0 H.out.t1 HA0.out HX.out (Nat.lt_trans H.out.lg (by decide))).mono ?_); rintro e w10 ⟨rfl, hm⟩; obtain ⟨A1, F1, h1, k1, f1⟩ := H.out.pa.turn KD.out hm; have t1 := HT.out.keep k1 H.out.nF.1 H.out.nF.2; have H1 := hid h1; have K1 := hid k1; have FT := hid f1; have T1 := hid t1; have j0 := t1.com.c0; have j1 := t1.com.c1; have j2 : w10.cell? ⟨tb, 2, none⟩ = some (.int .i64 o.tw) := (by rw [cell_of t1.head]; rfl); obtain ⟨j5, -⟩ := h1.cells; clear hm h1 k1 f1 t1))
  all_goals
    have c5 : w10.cell? ⟨tb, 5, none⟩ = some (.int .u8 o.pc) := by rw [cell_of T1.out.head]; rfl
    have c7 : w10.cell? ⟨tb, 7, none⟩ = some (.int .i64 o.bl) := by rw [cell_of T1.out.head]; rfl
    have z5 : w10.frozen? ⟨tb, 5, none⟩ = false := free_of T1.out.head 5
    have z7 : w10.frozen? ⟨tb, 7, none⟩ = false := free_of T1.out.head 7
    have HLT := hid HT.out.lt.1
    go_wp2
    go_end0
    have kX : Keep (fun k => k = tb) w10 ((w10.setCell ⟨tb, 7, none⟩ (.int .i64 x)).setCell ⟨tb, 5, none⟩ (.int .u8 6)) := ((Keep.refl (fun k => k = tb) w10).setCell (.inl rfl) _).setCell (.inl rfl) _
    exact ⟨rfl, TTo.mk H.out.pa H.out.n1 HLT.out H1.out K1.out FT.out (T1.out.put kX (set_same (set_same T1.out.head _) _) rfl) kX⟩
set_option maxRecDepth 100000 in
set_option maxHeartbeats 4000000 in
theorem ttake_yes (h : PIn w A c pb mb L ob gb F G s tb m o) (ht : TkAt w tb m pb c o) (w0 : 0 ≤ o.w) (wq : o.w / 65536 < 1099511627775) (b0 : 0 ≤ o.bl) (b1 : o.bl ≤ 1024) (x : Int) (hx : s.ws[c.pools + o.ht - 1]? = some x) (hne : x = o.w) :
    Calls Tryz.prog 82 #[.pointer (some ⟨tb, 0, none⟩)] w fun e w' => e = .returned (.tuple #[]) ∧ TTo w A c pb mb L tb m { s with ws := s.ws.set (c.pools + o.ht - 1) (o.bl + 65536 * (o.w / 65536 + 1)), log := s.log ++ [⟨o.th, hdOf c o, 4, o.w, o.bl + 65536 * (o.w / 65536 + 1), true⟩], out := pup s.out o.tw (some false) } { o with pc := 0 } w' := by
  subst hne
  have H := hid h
  have HT := hid ht
  have HX := hid (show s.ws[(hdOf c o).toNat]? = some o.w by rw [h.hd.2]; exact hx)
  have hC := ht.com
  have i7 : w.cell? ⟨tb, 7, none⟩ = some (.int .i64 o.bl) := by rw [cell_of ht.head]; rfl
  clear h ht hx hC
  go_enter Tryz.func82, Tryz.ntmps82
  have KD := hid ((Keep.refl Nil w).drew)
  go_wp2
  go_region_held3 (fun w' => w'.cell? ⟨tb, 7, none⟩ = some (.int .i64 o.bl)) (go_keep)
    (first
      | (go_at_call 130; (with_reducible refine (cswap_yes (w := w.drew) (H.out.pa.quiet KD.out) (HT.out.com.keep KD.out (fun h => h)) H.out.n1 H.out.t0 H.out.t1 H.out.hd.1 w0 wq o.bl b0 b1 HX.out (Nat.lt_trans H.out.lg (by decide))).mono ?_); rintro e w10 ⟨rfl, A1, F1, h1, k1, f1⟩; have H1 := hid h1; have K1 := hid (KD.out.mono (T := F) (fun _ _ h => h.elim) |>.trans k1 (fun _ _ h => h)); have FT := hid (show Foot w A A1 from f1); have T1 := hid (HT.out.keep K1.out H.out.nF.1 H.out.nF.2); have j7 : w10.cell? ⟨tb, 7, none⟩ = some (.int .i64 o.bl) := (by rw [cell_of T1.out.head]; rfl); clear h1 k1 f1))
  all_goals
    have c0 := T1.out.com.c0
    have c2 : w10.cell? ⟨tb, 2, none⟩ = some (.int .i64 o.tw) := by rw [cell_of T1.out.head]; rfl
    have c5 : w10.cell? ⟨tb, 5, none⟩ = some (.int .u8 o.pc) := by rw [cell_of T1.out.head]; rfl
    have HLT := hid HT.out.lt.1
    obtain ⟨-, -, -, -, d4, -⟩ := H1.out.cells
    obtain ⟨ml, im, nd, hml⟩ := H1.out.out
    obtain ⟨W3, hrun, hm3, k3, z3⟩ := put_run (im.keep ((Keep.refl Nil w10).drew) (fun h => h)) Tryz.underlying177 Tryz.underlying3 o.tw (.bool false)
    have hob : tb ≠ ob := fun e => H.out.n1 ((H.out.pa.foot tb).2 (.inr (.inl e)))
    have k3' : Keep (fun k => k = ob) w10 W3 := ((Keep.refl (fun k => k = ob) w10).drew).trans k3 (fun _ _ h => h)
    have H3 := hid (H1.out.outs (out' := pup s.out o.tw (some false)) k3' ⟨_, hm3, mkeys_put_nodup nd _ _, fun k => by
      rw [mlook_put, hml]
      by_cases e : k = o.tw
      · rw [if_pos e, e, pup_me]; rfl
      · rw [if_neg e, pup_ne e]⟩)
    have T3 := hid (T1.out.keep k3' hob (fun e => H.out.n2 ((H.out.pa.foot m).2 (.inr (.inl e)))))
    have y5 : W3.cell? ⟨tb, 5, none⟩ = some (.int .u8 o.pc) := by rw [cell_of T3.out.head]; rfl
    have yz5 : W3.frozen? ⟨tb, 5, none⟩ = false := free_of T3.out.head 5
    have K3 := hid k3'
    clear hm3 k3 z3 k3' nd hml im
    go_wp2
    go_region
    go_wp2
    refine bodyPost_ret (results_none rfl _ _ _) rfl ?_
    have kX : Keep (fun k => k = tb) W3 (W3.setCell ⟨tb, 5, none⟩ (.int .u8 0)) := (Keep.refl (fun k => k = tb) W3).setCell (.inl rfl) _
    have hs := H3.out
    rw [H.out.hd.2] at hs
    refine ⟨rfl, A1, ⟨ob, gb, F1, G, hs.keep kX (fun k hk e => keepF FT.out H.out.n1 HLT.out (e ▸ hk))⟩, T3.out.put kX (set_same T3.out.head _) rfl, ?_, FT.out⟩
    exact ((K1.out.mono (T := fun k => A k ∨ k = tb) (fun k _ e => .inl (H.out.pa.subF k e))).trans (K3.out.mono (T := fun k => A k ∨ k = tb) (fun k _ e => .inl ((H.out.pa.foot k).2 (.inr (.inl e))))) (fun _ _ h => h)).trans (kX.mono (T := fun k => A k ∨ k = tb) (fun _ _ e => .inr e)) (fun _ _ h => h)
set_option maxRecDepth 100000 in
set_option maxHeartbeats 4000000 in
theorem ttake_no (h : PIn w A c pb mb L ob gb F G s tb m o) (ht : TkAt w tb m pb c o) (w0 : 0 ≤ o.w) (wq : o.w / 65536 < 1099511627775) (b0 : 0 ≤ o.bl) (b1 : o.bl ≤ 1024) (x : Int) (hx : s.ws[c.pools + o.ht - 1]? = some x) (hne : x ≠ o.w) (f0 : 0 ≤ o.fl) (f1 : o.fl < 1000000000) (hf : o.fl + 1 ≠ o.tr) :
    Calls Tryz.prog 82 #[.pointer (some ⟨tb, 0, none⟩)] w fun e w' => e = .returned (.tuple #[]) ∧ TTo w A c pb mb L tb m { s with log := s.log ++ [⟨o.th, hdOf c o, 4, x, x, false⟩] } { o with tw := 0, fl := o.fl + 1, pc := 4 } w' := by
  have H := hid h
  have HT := hid ht
  have HX := hid (show s.ws[(hdOf c o).toNat]? = some x by rw [h.hd.2]; exact hx)
  have HNE := hid hne
  have df : (o.fl + 1 == o.tr) = false := beq_eq_false_iff_ne.2 hf
  have wf : IntKind.i64.wrap (o.fl + 1) = o.fl + 1 := by rw [IntKind.wrap_i64]; omega
  clear hf
  have hC := ht.com
  have i7 : w.cell? ⟨tb, 7, none⟩ = some (.int .i64 o.bl) := by rw [cell_of ht.head]; rfl
  clear h ht hx hC hne
  go_enter Tryz.func82, Tryz.ntmps82
  have KD := hid ((Keep.refl Nil w).drew)
  go_wp2
  go_region_held3 (fun w' => w'.cell? ⟨tb, 7, none⟩ = some (.int .i64 o.bl)) (go_keep)
    (first
      | (go_at_call 130; (with_reducible refine (cswap_no (w := w.drew) (H.out.pa.quiet KD.out) (HT.out.com.keep KD.out (fun h => h)) H.out.n1 H.out.t0 H.out.t1 H.out.hd.1 w0 wq o.bl b0 b1 x HX.out HNE.out (Nat.lt_trans H.out.lg (by decide))).mono ?_); rintro e w10 ⟨rfl, A1, F1, h1, k1, f1⟩; have H1 := hid h1; have K1 := hid (KD.out.mono (T := F) (fun _ _ h => h.elim) |>.trans k1 (fun _ _ h => h)); have FT := hid (show Foot w A A1 from f1); have T1 := hid (HT.out.keep K1.out H.out.nF.1 H.out.nF.2); have j7 : w10.cell? ⟨tb, 7, none⟩ = some (.int .i64 o.bl) := (by rw [cell_of T1.out.head]; rfl); clear h1 k1 f1))
  all_goals
    have c0 := T1.out.com.c0
    have c2 : w10.cell? ⟨tb, 2, none⟩ = some (.int .i64 o.tw) := by rw [cell_of T1.out.head]; rfl
    have c5 : w10.cell? ⟨tb, 5, none⟩ = some (.int .u8 o.pc) := by rw [cell_of T1.out.head]; rfl
    have HLT := hid HT.out.lt.1
    have c8 : w10.cell? ⟨tb, 8, none⟩ = some (.int .i64 o.fl) := by rw [cell_of T1.out.head]; rfl
    have c9 : w10.cell? ⟨tb, 9, none⟩ = some (.int .i64 o.tr) := by rw [cell_of T1.out.head]; rfl
    have z2 : w10.frozen? ⟨tb, 2, none⟩ = false := free_of T1.out.head 2
    have z5 : w10.frozen? ⟨tb, 5, none⟩ = false := free_of T1.out.head 5
    have z8 : w10.frozen? ⟨tb, 8, none⟩ = false := free_of T1.out.head 8
    have z10 : w10.frozen? ⟨tb, 10, none⟩ = false := free_of T1.out.head 10
    have c10 : w10.cell? ⟨tb, 10, none⟩ = some (.int .i64 o.e) := by rw [cell_of T1.out.head]; rfl
    go_upto_region 5 with fail
    obtain ⟨W, hW⟩ : ∃ W, W = (((w10.setCell ⟨tb, 2, none⟩ (.int .i64 0)).setCell ⟨tb, 5, none⟩ (.int .u8 4)).setCell ⟨tb, 8, none⟩ (.int .i64 (o.fl + 1))) := ⟨_, rfl⟩
    rw [← hW]
    have kW : Keep (fun k => k = tb) w10 W := hW ▸ (((Keep.refl (fun k => k = tb) w10).setCell (.inl rfl) _).setCell (.inl rfl) _).setCell (.inl rfl) _
    have tW : TkAt W tb m pb c { o with tw := 0, fl := o.fl + 1, pc := 4 } := T1.out.put kW (by rw [hW]; exact set_same (set_same (set_same T1.out.head _) _) _) rfl
    have y8 : W.cell? ⟨tb, 8, none⟩ = some (.int .i64 (o.fl + 1)) := by rw [cell_of tW.head]; rfl
    have y9 : W.cell? ⟨tb, 9, none⟩ = some (.int .i64 o.tr) := by rw [cell_of tW.head]; rfl
    have y5 : W.cell? ⟨tb, 5, none⟩ = some (.int .u8 4) := by rw [cell_of tW.head]; rfl
    have y10 : W.cell? ⟨tb, 10, none⟩ = some (.int .i64 o.e) := by rw [cell_of tW.head]; rfl
    have yz5 : W.frozen? ⟨tb, 5, none⟩ = false := free_of tW.head 5
    have yz10 : W.frozen? ⟨tb, 10, none⟩ = false := free_of tW.head 10
    have KW := hid kW
    have TW := hid tW
    clear hW kW tW c0 c2 c5 c8 c9 c10 z2 z5 z8 z10 j7
    go_quiet (fail)
    go_wp2
    go_end0
    have kX : Keep (fun k => k = tb) W (W.drewN nq) := (Keep.refl (fun k => k = tb) W).drewN nq
    exact ⟨rfl, TTo.mk H.out.pa H.out.n1 HLT.out H1.out K1.out FT.out (TW.out.keep ((Keep.refl Nil W).drewN nq) (fun h => h) (fun h => h)) (KW.out.trans kX (fun _ _ h => h))⟩
set_option maxRecDepth 100000 in
set_option maxHeartbeats 4000000 in
theorem ttake_end (h : PIn w A c pb mb L ob gb F G s tb m o) (ht : TkAt w tb m pb c o) (w0 : 0 ≤ o.w) (wq : o.w / 65536 < 1099511627775) (b0 : 0 ≤ o.bl) (b1 : o.bl ≤ 1024) (x : Int) (hx : s.ws[c.pools + o.ht - 1]? = some x) (hne : x ≠ o.w) (f0 : 0 ≤ o.fl) (f1 : o.fl < 1000000000) (hf : o.fl + 1 = o.tr) :
    Calls Tryz.prog 82 #[.pointer (some ⟨tb, 0, none⟩)] w fun e w' => e = .returned (.tuple #[]) ∧ TTo w A c pb mb L tb m { s with log := s.log ++ [⟨o.th, hdOf c o, 4, x, x, false⟩] } { o with tw := 0, fl := o.fl + 1, pc := 0, e := 11 } w' := by
  have H := hid h
  have HT := hid ht
  have HX := hid (show s.ws[(hdOf c o).toNat]? = some x by rw [h.hd.2]; exact hx)
  have HNE := hid hne
  have df : (o.fl + 1 == o.tr) = true := beq_iff_eq.2 hf
  have wf : IntKind.i64.wrap (o.fl + 1) = o.fl + 1 := by rw [IntKind.wrap_i64]; omega
  clear hf
  have hC := ht.com
  have i7 : w.cell? ⟨tb, 7, none⟩ = some (.int .i64 o.bl) := by rw [cell_of ht.head]; rfl
  clear h ht hx hC hne
  go_enter Tryz.func82, Tryz.ntmps82
  have KD := hid ((Keep.refl Nil w).drew)
  go_wp2
  go_region_held3 (fun w' => w'.cell? ⟨tb, 7, none⟩ = some (.int .i64 o.bl)) (go_keep)
    (first
      | (go_at_call 130; (with_reducible refine (cswap_no (w := w.drew) (H.out.pa.quiet KD.out) (HT.out.com.keep KD.out (fun h => h)) H.out.n1 H.out.t0 H.out.t1 H.out.hd.1 w0 wq o.bl b0 b1 x HX.out HNE.out (Nat.lt_trans H.out.lg (by decide))).mono ?_); rintro e w10 ⟨rfl, A1, F1, h1, k1, f1⟩; have H1 := hid h1; have K1 := hid (KD.out.mono (T := F) (fun _ _ h => h.elim) |>.trans k1 (fun _ _ h => h)); have FT := hid (show Foot w A A1 from f1); have T1 := hid (HT.out.keep K1.out H.out.nF.1 H.out.nF.2); have j7 : w10.cell? ⟨tb, 7, none⟩ = some (.int .i64 o.bl) := (by rw [cell_of T1.out.head]; rfl); clear h1 k1 f1))
  all_goals
    have c0 := T1.out.com.c0
    have c2 : w10.cell? ⟨tb, 2, none⟩ = some (.int .i64 o.tw) := by rw [cell_of T1.out.head]; rfl
    have c5 : w10.cell? ⟨tb, 5, none⟩ = some (.int .u8 o.pc) := by rw [cell_of T1.out.head]; rfl
    have HLT := hid HT.out.lt.1
    have c8 : w10.cell? ⟨tb, 8, none⟩ = some (.int .i64 o.fl) := by rw [cell_of T1.out.head]; rfl
    have c9 : w10.cell? ⟨tb, 9, none⟩ = some (.int .i64 o.tr) := by rw [cell_of T1.out.head]; rfl
    have z2 : w10.frozen? ⟨tb, 2, none⟩ = false := free_of T1.out.head 2
    have z5 : w10.frozen? ⟨tb, 5, none⟩ = false := free_of T1.out.head 5
    have z8 : w10.frozen? ⟨tb, 8, none⟩ = false := free_of T1.out.head 8
    have z10 : w10.frozen? ⟨tb, 10, none⟩ = false := free_of T1.out.head 10
    have c10 : w10.cell? ⟨tb, 10, none⟩ = some (.int .i64 o.e) := by rw [cell_of T1.out.head]; rfl
    go_upto_region 5 with fail
    obtain ⟨W, hW⟩ : ∃ W, W = (((w10.setCell ⟨tb, 2, none⟩ (.int .i64 0)).setCell ⟨tb, 5, none⟩ (.int .u8 4)).setCell ⟨tb, 8, none⟩ (.int .i64 (o.fl + 1))) := ⟨_, rfl⟩
    rw [← hW]
    have kW : Keep (fun k => k = tb) w10 W := hW ▸ (((Keep.refl (fun k => k = tb) w10).setCell (.inl rfl) _).setCell (.inl rfl) _).setCell (.inl rfl) _
    have tW : TkAt W tb m pb c { o with tw := 0, fl := o.fl + 1, pc := 4 } := T1.out.put kW (by rw [hW]; exact set_same (set_same (set_same T1.out.head _) _) _) rfl
    have y8 : W.cell? ⟨tb, 8, none⟩ = some (.int .i64 (o.fl + 1)) := by rw [cell_of tW.head]; rfl
    have y9 : W.cell? ⟨tb, 9, none⟩ = some (.int .i64 o.tr) := by rw [cell_of tW.head]; rfl
    have y5 : W.cell? ⟨tb, 5, none⟩ = some (.int .u8 4) := by rw [cell_of tW.head]; rfl
    have y10 : W.cell? ⟨tb, 10, none⟩ = some (.int .i64 o.e) := by rw [cell_of tW.head]; rfl
    have yz5 : W.frozen? ⟨tb, 5, none⟩ = false := free_of tW.head 5
    have yz10 : W.frozen? ⟨tb, 10, none⟩ = false := free_of tW.head 10
    have KW := hid kW
    have TW := hid tW
    clear hW kW tW c0 c2 c5 c8 c9 c10 z2 z5 z8 z10 j7
    go_quiet (fail)
    go_wp2
    go_end0
    have kX : Keep (fun k => k = tb) W (((W.drewN nq).setCell ⟨tb, 5, none⟩ (.int .u8 0)).setCell ⟨tb, 10, none⟩ (.int .i64 11)) := (((Keep.refl (fun k => k = tb) W).drewN nq).setCell (.inl rfl) _).setCell (.inl rfl) _
    exact ⟨rfl, TTo.mk H.out.pa H.out.n1 HLT.out H1.out K1.out FT.out (TW.out.put (o' := { o with tw := 0, fl := o.fl + 1, pc := 0, e := 11 }) kX (set_same (w := (W.drewN nq).setCell ⟨tb, 5, none⟩ (.int .u8 0)) (set_same (w := W.drewN nq) TW.out.head _) _) rfl) (KW.out.trans kX (fun _ _ h => h))⟩
end
end Go.Proofs.YtjghenomeindcaaGreat
