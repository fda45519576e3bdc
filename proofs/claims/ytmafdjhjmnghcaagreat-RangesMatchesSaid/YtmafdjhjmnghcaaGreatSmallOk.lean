/- The small configuration: the contract of Small. -/
import Derived.Test.YtmafdjhjmnghcaaGreatSmall
import Derived.Deep.RegionHeld3
import Derived.Test.YtmafdjhjmnghcaaGreatStore
set_option linter.unusedVariables false
set_option linter.unusedSimpArgs false
namespace Go.Proofs.YtmafdjhjmnghcaaGreat
open Go.RowKit Go.Lf
def ConfV.c (z : ConfV) : Cfg := smallC z.th z.sl z.eng z.bk z.k z.n z.cuts z.t1 z.t2 z.t3 z.t4 z.t5 z.t6 z.lk z.tr z.ba
theorem ConfV.ok (z : ConfV) : z.c.ok := smallC_ok ..
/-- The small configuration is returned. -/
def SmallTo (w : World) (z : ConfV) (e : Ending) (w' : World) : Prop :=
  ∃ a cp, e = .returned (cfgV z.c (z.t1 % 7).toNat (z.t2 % 7).toNat (z.t3 % 7).toNat (z.t4 % 7).toNat (z.t5 % 7).toNat (z.t6 % 7).toNat a cp) ∧ Rd w' 1 (.slice a z.c.d.cuts.length cp) z.c.d.cuts.length (u64s z.c.d.cuts) ∧ Keep Nil w w' ∧ ∀ k, (Value.slice a z.c.d.cuts.length cp).ownBlock = some k → w.heap.size ≤ k
theorem cfgV_small (z : ConfV) (a : Option Addr) (cp : Nat) : cfgV z.c (z.t1 % 7).toNat (z.t2 % 7).toNat (z.t3 % 7).toNat (z.t4 % 7).toNat (z.t5 % 7).toNat (z.t6 % 7).toNat a cp =
    .agg #[.int .i64 (1 + z.th % 6), .int .i64 (1 + z.sl % 5), .int .u8 (1 + z.eng % 3), .int .i64 (if z.eng % 3 = 2 then 1 + z.bk % 4 else 0), .int .u8 (smallD z.k z.n z.cuts).k, .int .i64 (smallD z.k z.n z.cuts).n, .slice a (smallD z.k z.n z.cuts).cuts.length cp, .int .i64 (z.t1 % 7), .int .i64 (z.t2 % 7), .int .i64 (z.t3 % 7), .int .i64 (z.t4 % 7), .int .i64 (z.t5 % 7), .int .i64 (z.t6 % 7), .int .i64 (1 + z.lk % 4), .int .i64 (1 + z.tr % 6), .int .i64 (z.ba % 4)] := by
  have e1 : ((z.c.sl : Nat) : Int) = 1 + z.sl % 5 := by show (((1 + z.sl % 5).toNat : Nat) : Int) = _; omega
  have e2 : ((z.c.lk : Nat) : Int) = 1 + z.lk % 4 := by show (((1 + z.lk % 4).toNat : Nat) : Int) = _; omega
  have e3 : ((z.c.bk : Nat) : Int) = if z.eng % 3 = 2 then 1 + z.bk % 4 else 0 := by
    show (((if z.eng % 3 = 2 then (1 + z.bk % 4).toNat else 0 : Nat)) : Int) = _
    split <;> omega
  have f1 : (((z.t1 % 7).toNat : Nat) : Int) = z.t1 % 7 := by omega
  have f2 : (((z.t2 % 7).toNat : Nat) : Int) = z.t2 % 7 := by omega
  have f3 : (((z.t3 % 7).toNat : Nat) : Int) = z.t3 % 7 := by omega
  have f4 : (((z.t4 % 7).toNat : Nat) : Int) = z.t4 % 7 := by omega
  have f5 : (((z.t5 % 7).toNat : Nat) : Int) = z.t5 % 7 := by omega
  have f6 : (((z.t6 % 7).toNat : Nat) : Int) = z.t6 % 7 := by omega
  unfold cfgV
  rw [e1, e2, e3, f1, f2, f3, f4, f5, f6]
  rfl
theorem keep_setRow {S T : Nat → Prop} {a w : World} (h : Keep S a w) {g : Nat} (cs : Array Value) (hs : ∀ k, S k → T k) (hg : T g) : Keep T a (w.setRow g cs) :=
  ⟨h.os, h.tape, h.output, by rw [size_setRow]; exact h.size, fun k hk hn => by rw [setRow_other w g k cs (fun e => hn (e ▸ hg))]; exact h.block k hk (fun e => hn (hs k e))⟩
theorem st3 {W : World} {b : Nat} {t : TypeId} {x0 x1 x2 x3 x4 x5 x6 x7 x8 x9 x10 x11 x12 x13 x14 x15 : Value} (v : Value) (h : W.heap[b]? = some (.cells #[x0, x1, x2, x3, x4, x5, x6, x7, x8, x9, x10, x11, x12, x13, x14, x15] t (0, 0))) : (W.setCell ⟨b, 3, none⟩ v).heap[b]? = some (.cells #[x0, x1, x2, v, x4, x5, x6, x7, x8, x9, x10, x11, x12, x13, x14, x15] t (0, 0)) := set_same h _
theorem st7 {W : World} {b : Nat} {t : TypeId} {x0 x1 x2 x3 x4 x5 x6 x7 x8 x9 x10 x11 x12 x13 x14 x15 : Value} (v : Value) (h : W.heap[b]? = some (.cells #[x0, x1, x2, x3, x4, x5, x6, x7, x8, x9, x10, x11, x12, x13, x14, x15] t (0, 0))) : (W.setCell ⟨b, 7, none⟩ v).heap[b]? = some (.cells #[x0, x1, x2, x3, x4, x5, x6, v, x8, x9, x10, x11, x12, x13, x14, x15] t (0, 0)) := set_same h _
theorem st8 {W : World} {b : Nat} {t : TypeId} {x0 x1 x2 x3 x4 x5 x6 x7 x8 x9 x10 x11 x12 x13 x14 x15 : Value} (v : Value) (h : W.heap[b]? = some (.cells #[x0, x1, x2, x3, x4, x5, x6, x7, x8, x9, x10, x11, x12, x13, x14, x15] t (0, 0))) : (W.setCell ⟨b, 8, none⟩ v).heap[b]? = some (.cells #[x0, x1, x2, x3, x4, x5, x6, x7, v, x9, x10, x11, x12, x13, x14, x15] t (0, 0)) := set_same h _
theorem st9 {W : World} {b : Nat} {t : TypeId} {x0 x1 x2 x3 x4 x5 x6 x7 x8 x9 x10 x11 x12 x13 x14 x15 : Value} (v : Value) (h : W.heap[b]? = some (.cells #[x0, x1, x2, x3, x4, x5, x6, x7, x8, x9, x10, x11, x12, x13, x14, x15] t (0, 0))) : (W.setCell ⟨b, 9, none⟩ v).heap[b]? = some (.cells #[x0, x1, x2, x3, x4, x5, x6, x7, x8, v, x10, x11, x12, x13, x14, x15] t (0, 0)) := set_same h _
theorem st10 {W : World} {b : Nat} {t : TypeId} {x0 x1 x2 x3 x4 x5 x6 x7 x8 x9 x10 x11 x12 x13 x14 x15 : Value} (v : Value) (h : W.heap[b]? = some (.cells #[x0, x1, x2, x3, x4, x5, x6, x7, x8, x9, x10, x11, x12, x13, x14, x15] t (0, 0))) : (W.setCell ⟨b, 10, none⟩ v).heap[b]? = some (.cells #[x0, x1, x2, x3, x4, x5, x6, x7, x8, x9, v, x11, x12, x13, x14, x15] t (0, 0)) := set_same h _
theorem st11 {W : World} {b : Nat} {t : TypeId} {x0 x1 x2 x3 x4 x5 x6 x7 x8 x9 x10 x11 x12 x13 x14 x15 : Value} (v : Value) (h : W.heap[b]? = some (.cells #[x0, x1, x2, x3, x4, x5, x6, x7, x8, x9, x10, x11, x12, x13, x14, x15] t (0, 0))) : (W.setCell ⟨b, 11, none⟩ v).heap[b]? = some (.cells #[x0, x1, x2, x3, x4, x5, x6, x7, x8, x9, x10, v, x12, x13, x14, x15] t (0, 0)) := set_same h _
theorem st12 {W : World} {b : Nat} {t : TypeId} {x0 x1 x2 x3 x4 x5 x6 x7 x8 x9 x10 x11 x12 x13 x14 x15 : Value} (v : Value) (h : W.heap[b]? = some (.cells #[x0, x1, x2, x3, x4, x5, x6, x7, x8, x9, x10, x11, x12, x13, x14, x15] t (0, 0))) : (W.setCell ⟨b, 12, none⟩ v).heap[b]? = some (.cells #[x0, x1, x2, x3, x4, x5, x6, x7, x8, x9, x10, x11, v, x13, x14, x15] t (0, 0)) := set_same h _
section
variable {w : World}
set_option maxRecDepth 100000 in
set_option maxHeartbeats 16000000 in
theorem small_ok (z : ConfV) (h : ConfArg w z) : Calls Tryz.prog 28 #[z.val] w (SmallTo w z) := by
  have H := hid h
  have hlen := h.len
  obtain ⟨th0, th1⟩ := i64_wf h.w_th
  obtain ⟨sl0, sl1⟩ := i64_wf h.w_sl
  obtain ⟨en0, en1⟩ := u8_wf h.w_eng
  obtain ⟨bk0, bk1⟩ := i64_wf h.w_bk
  obtain ⟨k0, k1⟩ := u8_wf h.w_k
  obtain ⟨n0, n1⟩ := i64_wf h.w_n
  obtain ⟨lk0, lk1⟩ := i64_wf h.w_lk
  obtain ⟨tr0, tr1⟩ := i64_wf h.w_tr
  obtain ⟨ba0, ba1⟩ := i64_wf h.w_ba
  have HB := hid (And.intro (And.intro th0 th1) (And.intro (And.intro sl0 sl1) (And.intro (And.intro bk0 bk1) (And.intro (And.intro lk0 lk1) (And.intro (And.intro tr0 tr1) (And.intro ba0 ba1))))))
  have HK := hid (And.intro (And.intro k0 k1) (And.intro n0 n1))
  have w1 : IntKind.i64.wrap (1 + z.th % 6) = 1 + z.th % 6 := by rw [IntKind.wrap_i64]; omega
  have w2 : IntKind.i64.wrap (1 + z.sl % 5) = 1 + z.sl % 5 := by rw [IntKind.wrap_i64]; omega
  have w3 : IntKind.u8.wrap (1 + z.eng % 3) = 1 + z.eng % 3 := by rw [IntKind.wrap_u8]; omega
  have w4 : IntKind.i64.wrap (1 + z.lk % 4) = 1 + z.lk % 4 := by rw [IntKind.wrap_i64]; omega
  have w5 : IntKind.i64.wrap (1 + z.tr % 6) = 1 + z.tr % 6 := by rw [IntKind.wrap_i64]; omega
  have w6 : IntKind.i64.wrap (1 + z.bk % 4) = 1 + z.bk % 4 := by rw [IntKind.wrap_i64]; omega
  have w7 : IntKind.u8.wrap (z.eng.tmod 3) = z.eng % 3 := u8rem en0 en1
  clear th0 th1 sl0 sl1 bk0 bk1 lk0 lk1 tr0 tr1 ba0 ba1 k0 k1 n0 n1 h
  unfold ConfV.val
  go_enter Tryz.func28, Tryz.ntmps28
  go_wp2
  obtain ⟨W0, hW0⟩ : ∃ W0, W0 = (w.alloc (.cells #[.int .i64 z.th, .int .i64 z.sl, .int .u8 z.eng, .int .i64 z.bk, .int .u8 z.k, .int .i64 z.n, .slice z.a z.cuts.length z.cp, .int .i64 z.t1, .int .i64 z.t2, .int .i64 z.t3, .int .i64 z.t4, .int .i64 z.t5, .int .i64 z.t6, .int .i64 z.lk, .int .i64 z.tr, .int .i64 z.ba] 45 (0, 0))).alloc (.cells #[.int .i64 0, .int .i64 0, .int .u8 0, .int .i64 0, .int .u8 0, .int .i64 0, .slice none 0 0, .int .i64 0, .int .i64 0, .int .i64 0, .int .i64 0, .int .i64 0, .int .i64 0, .int .i64 0, .int .i64 0, .int .i64 0] 45 (0, 0)) := ⟨_, rfl⟩
  rw [← hW0]
  have hb1 : W0.heap[w.heap.size]? = some (.cells #[.int .i64 z.th, .int .i64 z.sl, .int .u8 z.eng, .int .i64 z.bk, .int .u8 z.k, .int .i64 z.n, .slice z.a z.cuts.length z.cp, .int .i64 z.t1, .int .i64 z.t2, .int .i64 z.t3, .int .i64 z.t4, .int .i64 z.t5, .int .i64 z.t6, .int .i64 z.lk, .int .i64 z.tr, .int .i64 z.ba] 45 (0, 0)) := by rw [hW0]; exact alloc_old (heap_alloc_new w _) _
  have hb2 : W0.heap[w.heap.size + 1]? = some (.cells #[.int .i64 0, .int .i64 0, .int .u8 0, .int .i64 0, .int .u8 0, .int .i64 0, .slice none 0 0, .int .i64 0, .int .i64 0, .int .i64 0, .int .i64 0, .int .i64 0, .int .i64 0, .int .i64 0, .int .i64 0, .int .i64 0] 45 (0, 0)) := by
    rw [hW0]
    have := heap_alloc_new (w.alloc (.cells #[.int .i64 z.th, .int .i64 z.sl, .int .u8 z.eng, .int .i64 z.bk, .int .u8 z.k, .int .i64 z.n, .slice z.a z.cuts.length z.cp, .int .i64 z.t1, .int .i64 z.t2, .int .i64 z.t3, .int .i64 z.t4, .int .i64 z.t5, .int .i64 z.t6, .int .i64 z.lk, .int .i64 z.tr, .int .i64 z.ba] 45 (0, 0))) (.cells #[.int .i64 0, .int .i64 0, .int .u8 0, .int .i64 0, .int .u8 0, .int .i64 0, .slice none 0 0, .int .i64 0, .int .i64 0, .int .i64 0, .int .i64 0, .int .i64 0, .int .i64 0, .int .i64 0, .int .i64 0, .int .i64 0] 45 (0, 0))
    rwa [World.size_alloc] at this
  have HK0 := hid (show Keep Nil w W0 from by rw [hW0]; exact ((Keep.refl Nil w).alloc _).alloc _)
  obtain ⟨q0, q1, q2, q3, q4, q5, q6, q7, q8, q9, q10, q11, q12, q13, q14, q15⟩ := bx16 hb1
  have HB1 := hid hb1
  have HB2 := hid hb2
  clear hW0 hb1 hb2 q3 q7 q8 q9 q10 q11 q12
  obtain ⟨V1, hV1⟩ : ∃ V : Value, V = .agg #[.int .i64 z.th, .int .i64 z.sl, .int .u8 z.eng, .int .i64 z.bk, .int .u8 z.k, .int .i64 z.n, .slice z.a z.cuts.length z.cp, .int .i64 z.t1, .int .i64 z.t2, .int .i64 z.t3, .int .i64 z.t4, .int .i64 z.t5, .int .i64 z.t6, .int .i64 z.lk, .int .i64 z.tr, .int .i64 z.ba] := ⟨_, rfl⟩
  rw [← hV1]
  clear hV1
  have y1 : W0.heap.size ≠ w.heap.size := by have := lt_of_block HB1.out; omega
  have y2 : w.heap.size ≠ W0.heap.size := fun e => y1 e.symm
  have v0 := World.new_ne W0 ⟨w.heap.size, 0, none⟩ q0
  have v1 := World.new_ne W0 ⟨w.heap.size, 1, none⟩ q1
  have v2 := World.new_ne W0 ⟨w.heap.size, 2, none⟩ q2
  have v4 := World.new_ne W0 ⟨w.heap.size, 4, none⟩ q4
  have v5 := World.new_ne W0 ⟨w.heap.size, 5, none⟩ q5
  have v6 := World.new_ne W0 ⟨w.heap.size, 6, none⟩ q6
  have v13 := World.new_ne W0 ⟨w.heap.size, 13, none⟩ q13
  have v14 := World.new_ne W0 ⟨w.heap.size, 14, none⟩ q14
  have v15 := World.new_ne W0 ⟨w.heap.size, 15, none⟩ q15
  rename_i K hK
  have key : ∀ (X : World) (ob rb pb : Nat) (a2 : Option Addr) (cp2 : Nat), Hid (X.heap[ob]? = some (.cells #[.int .i64 (1 + z.th % 6), .int .i64 (1 + z.sl % 5), .int .u8 (IntKind.u8.wrap (1 + z.eng.tmod 3)), .int .i64 0, .int .u8 (smallD z.k z.n z.cuts).k, .int .i64 (smallD z.k z.n z.cuts).n, .slice a2 (smallD z.k z.n z.cuts).cuts.length cp2, .int .i64 0, .int .i64 0, .int .i64 0, .int .i64 0, .int .i64 0, .int .i64 0, .int .i64 (1 + z.lk % 4), .int .i64 (1 + z.tr % 6), .int .i64 (z.ba % 4)] 45 (0, 0))) → Hid (X.heap[pb]? = some (.cells #[.int .i64 z.th, .int .i64 z.sl, .int .u8 z.eng, .int .i64 z.bk, .int .u8 z.k, .int .i64 z.n, .slice z.a z.cuts.length z.cp, .int .i64 z.t1, .int .i64 z.t2, .int .i64 z.t3, .int .i64 z.t4, .int .i64 z.t5, .int .i64 z.t6, .int .i64 z.lk, .int .i64 z.tr, .int .i64 z.ba] 45 (0, 0))) → Hid (X.heap[rb]? = some (.cells #[.int .i64 0, .int .i64 0, .int .u8 0, .int .i64 0, .int .u8 0, .int .i64 0, .slice none 0 0, .int .i64 0, .int .i64 0, .int .i64 0, .int .i64 0, .int .i64 0, .int .i64 0, .int .i64 0, .int .i64 0, .int .i64 0] 45 (0, 0))) → Hid (Keep Nil w X) → Hid (Rd X 1 (.slice a2 (smallD z.k z.n z.cuts).cuts.length cp2) (smallD z.k z.n z.cuts).cuts.length (u64s (smallD z.k z.n z.cuts).cuts)) → Hid (∀ q, (Value.slice a2 (smallD z.k z.n z.cuts).cuts.length cp2).ownBlock = some q → q ≠ rb ∧ q ≠ ob) → Hid (∀ q, (Value.slice a2 (smallD z.k z.n z.cuts).cuts.length cp2).ownBlock = some q → w.heap.size ≤ q) → pb ≠ ob → rb ≠ ob → Hid (w.heap.size ≤ ob) → rb ≠ pb → Hid (w.heap.size ≤ rb) →
      Exit.then K (bodyPost Tryz.prog Tryz.f28 (SmallTo w z)) Exit.normal { tmps := #[V1, Value.pointer (some { block := pb, off := 0 }), Value.pointer (some { block := rb, off := 0 }), Value.pointer (some { block := ob, off := 0 }), undef, Value.pointer (some { block := pb, off := 0 }), Value.int IntKind.i64 z.th, Value.int IntKind.i64 (z.th % 6), Value.int IntKind.i64 (1 + z.th % 6), Value.pointer (some { block := pb, off := 1 }), Value.int IntKind.i64 z.sl, Value.int IntKind.i64 (z.sl % 5), Value.int IntKind.i64 (1 + z.sl % 5), Value.pointer (some { block := pb, off := 2 }), Value.int IntKind.u8 z.eng, Value.int IntKind.u8 (z.eng.tmod 3), Value.int IntKind.u8 (IntKind.u8.wrap (1 + z.eng.tmod 3)), Value.pointer (some { block := pb, off := 4 }), Value.agg #[Value.int IntKind.u8 z.k, Value.int IntKind.i64 z.n, Value.slice z.a z.cuts.length z.cp], Value.agg #[Value.int IntKind.u8 (smallD z.k z.n z.cuts).k, Value.int IntKind.i64 (smallD z.k z.n z.cuts).n, Value.slice a2 (smallD z.k z.n z.cuts).cuts.length cp2], Value.pointer (some { block := pb, off := 13 }), Value.int IntKind.i64 z.lk, Value.int IntKind.i64 (z.lk % 4), Value.int IntKind.i64 (1 + z.lk % 4), Value.pointer (some { block := pb, off := 14 }), Value.int IntKind.i64 z.tr, Value.int IntKind.i64 (z.tr % 6), Value.int IntKind.i64 (1 + z.tr % 6), Value.pointer (some { block := pb, off := 15 }), Value.int IntKind.i64 z.ba, Value.int IntKind.i64 (z.ba % 4), Value.agg #[.int .i64 (1 + z.th % 6), .int .i64 (1 + z.sl % 5), .int .u8 (IntKind.u8.wrap (1 + z.eng.tmod 3)), .int .i64 0, .int .u8 (smallD z.k z.n z.cuts).k, .int .i64 (smallD z.k z.n z.cuts).n, .slice a2 (smallD z.k z.n z.cuts).cuts.length cp2, .int .i64 0, .int .i64 0, .int .i64 0, .int .i64 0, .int .i64 0, .int .i64 0, .int .i64 (1 + z.lk % 4), .int .i64 (1 + z.tr % 6), .int .i64 (z.ba % 4)], undef, undef, undef, undef, undef, undef, undef, undef, undef, undef, undef, undef, undef, undef, undef, undef, undef, undef, undef, undef, undef], defers := [] } X := by
    as_aux_lemma =>
      intro X ob rb pb a2 cp2 HOB HCB HRB HKX HRX HQ HN3 x1 x2 x5 x9 x10
      clear q0 q1 q2 q4 q5 q6 q13 q14 q15 v0 v1 v2 v4 v5 v6 v13 v14 v15 y1 y2 HB1 HB2 HK0
      have HKY := hid (Keep.refl (fun k => k = ob) X)
      have x11 : pb ≠ rb := fun e => x9 e.symm
      have x3 : ob ≠ pb := fun e => x1 e.symm
      have x4 : ob ≠ rb := fun e => x2 e.symm
      obtain ⟨o0, o1, o2, o3, o4, o5, o6, o7, o8, o9, o10, o11, o12, o13, o14, o15⟩ := bx16 HOB.out
      obtain ⟨p0, p1, p2, p3, p4, p5, p6, p7, p8, p9, p10, p11, p12, p13, p14, p15⟩ := bx16 HCB.out
      have fo : ∀ i, X.frozen? ⟨ob, i, none⟩ = false := fun i => free_of HOB.out i
      have x6 : ob < X.heap.size := lt_of_block HOB.out
      have x7 : pb < X.heap.size := lt_of_block HCB.out
      have x8 : rb < X.heap.size := lt_of_block HRB.out
      have hw3 : IntKind.u8.wrap (1 + z.eng.tmod 3) = 1 + z.eng % 3 := by rw [Int.tmod_eq_emod_of_nonneg en0, IntKind.wrap_u8]; omega
      by_cases hg : z.eng % 3 = 2
      · have dg : (IntKind.u8.wrap (1 + z.eng.tmod 3) == 3) = true := by rw [hw3]; exact beq_iff_eq.2 (by omega)
        have dg2 : (1 + z.eng % 3 == 3) = true := beq_iff_eq.2 (by omega)
        have HG := hid hg
        clear hg
        go_wp2_with fail
        refine (mod_ok z.bk 4 HB.out.2.2.1.1 HB.out.2.2.1.2 (by decide) (by decide) _).mono ?_
        rintro e w' ⟨rfl, rfl⟩
        go_wp2_with fail
        have ho := st3 (.int .i64 (1 + z.bk % 4)) HOB.out
        have hc := set_other (p := ⟨ob, 3, none⟩) HCB.out x1 (.int .i64 (1 + z.bk % 4))
        have hr := set_other (p := ⟨ob, 3, none⟩) HRB.out x2 (.int .i64 (1 + z.bk % 4))
        have hk := HKY.out.setCell (p := ⟨ob, 3, none⟩) (.inl rfl) (.int .i64 (1 + z.bk % 4))
        obtain ⟨Y0, hX⟩ : ∃ Y, Y = (X.setCell ⟨ob, 3, none⟩ (.int .i64 (1 + z.bk % 4))) := ⟨_, rfl⟩
        rw [← hX] at ho hc hr hk ⊢
        clear hX HOB HCB HRB HKY o0 o1 o2 o3 o4 o5 o6 o7 o8 o9 o10 o11 o12 o13 o14 o15 p0 p1 p2 p3 p4 p5 p6 p7 p8 p9 p10 p11 p12 p13 p14 p15 fo x6 x7 x8
        have HOB := hid ho
        have HCB := hid hc
        have HRB := hid hr
        have HKY := hid hk
        clear ho hc hr hk
        obtain ⟨o0, o1, o2, o3, o4, o5, o6, o7, o8, o9, o10, o11, o12, o13, o14, o15⟩ := bx16 HOB.out
        obtain ⟨p0, p1, p2, p3, p4, p5, p6, p7, p8, p9, p10, p11, p12, p13, p14, p15⟩ := bx16 HCB.out
        have fo : ∀ i, Y0.frozen? ⟨ob, i, none⟩ = false := fun i => free_of HOB.out i
        have x6 : ob < Y0.heap.size := lt_of_block HOB.out
        have x7 : pb < Y0.heap.size := lt_of_block HCB.out
        have x8 : rb < Y0.heap.size := lt_of_block HRB.out
        rename_i KL hKL
        have HKL := hid hKL
        clear hKL
        refine wp_loop_rounds 7 ?_; repeat any_goals (rw [rounds_succ]; go_wp2_with fail)
        refine (mod_ok z.t1 7 (i64_wf H.out.w_t1).1 (i64_wf H.out.w_t1).2 (by decide) (by decide) _).mono ?_
        rintro e w' ⟨rfl, rfl⟩
        go_wp2_with fail
        have ho := st7 (.int .i64 (z.t1 % 7)) HOB.out
        have hc := set_other (p := ⟨ob, 7, none⟩) HCB.out x1 (.int .i64 (z.t1 % 7))
        have hr := set_other (p := ⟨ob, 7, none⟩) HRB.out x2 (.int .i64 (z.t1 % 7))
        have hk := HKY.out.setCell (p := ⟨ob, 7, none⟩) (.inl rfl) (.int .i64 (z.t1 % 7))
        obtain ⟨Y1, hX⟩ : ∃ Y, Y = (Y0.setCell ⟨ob, 7, none⟩ (.int .i64 (z.t1 % 7))) := ⟨_, rfl⟩
        rw [← hX] at ho hc hr hk ⊢
        clear hX HOB HCB HRB HKY o0 o1 o2 o3 o4 o5 o6 o7 o8 o9 o10 o11 o12 o13 o14 o15 p0 p1 p2 p3 p4 p5 p6 p7 p8 p9 p10 p11 p12 p13 p14 p15 fo x6 x7 x8
        have HOB := hid ho
        have HCB := hid hc
        have HRB := hid hr
        have HKY := hid hk
        clear ho hc hr hk
        obtain ⟨o0, o1, o2, o3, o4, o5, o6, o7, o8, o9, o10, o11, o12, o13, o14, o15⟩ := bx16 HOB.out
        obtain ⟨p0, p1, p2, p3, p4, p5, p6, p7, p8, p9, p10, p11, p12, p13, p14, p15⟩ := bx16 HCB.out
        have fo : ∀ i, Y1.frozen? ⟨ob, i, none⟩ = false := fun i => free_of HOB.out i
        have x6 : ob < Y1.heap.size := lt_of_block HOB.out
        have x7 : pb < Y1.heap.size := lt_of_block HCB.out
        have x8 : rb < Y1.heap.size := lt_of_block HRB.out
        rw [rounds_succ]
        go_wp2_with fail
        refine (mod_ok z.t2 7 (i64_wf H.out.w_t2).1 (i64_wf H.out.w_t2).2 (by decide) (by decide) _).mono ?_
        rintro e w' ⟨rfl, rfl⟩
        go_wp2_with fail
        have ho := st8 (.int .i64 (z.t2 % 7)) HOB.out
        have hc := set_other (p := ⟨ob, 8, none⟩) HCB.out x1 (.int .i64 (z.t2 % 7))
        have hr := set_other (p := ⟨ob, 8, none⟩) HRB.out x2 (.int .i64 (z.t2 % 7))
        have hk := HKY.out.setCell (p := ⟨ob, 8, none⟩) (.inl rfl) (.int .i64 (z.t2 % 7))
        obtain ⟨Y2, hX⟩ : ∃ Y, Y = (Y1.setCell ⟨ob, 8, none⟩ (.int .i64 (z.t2 % 7))) := ⟨_, rfl⟩
        rw [← hX] at ho hc hr hk ⊢
        clear hX HOB HCB HRB HKY o0 o1 o2 o3 o4 o5 o6 o7 o8 o9 o10 o11 o12 o13 o14 o15 p0 p1 p2 p3 p4 p5 p6 p7 p8 p9 p10 p11 p12 p13 p14 p15 fo x6 x7 x8
        have HOB := hid ho
        have HCB := hid hc
        have HRB := hid hr
        have HKY := hid hk
        clear ho hc hr hk
        obtain ⟨o0, o1, o2, o3, o4, o5, o6, o7, o8, o9, o10, o11, o12, o13, o14, o15⟩ := bx16 HOB.out
        obtain ⟨p0, p1, p2, p3, p4, p5, p6, p7, p8, p9, p10, p11, p12, p13, p14, p15⟩ := bx16 HCB.out
        have fo : ∀ i, Y2.frozen? ⟨ob, i, none⟩ = false := fun i => free_of HOB.out i
        have x6 : ob < Y2.heap.size := lt_of_block HOB.out
        have x7 : pb < Y2.heap.size := lt_of_block HCB.out
        have x8 : rb < Y2.heap.size := lt_of_block HRB.out
        rw [rounds_succ]
        go_wp2_with fail
        refine (mod_ok z.t3 7 (i64_wf H.out.w_t3).1 (i64_wf H.out.w_t3).2 (by decide) (by decide) _).mono ?_
        rintro e w' ⟨rfl, rfl⟩
        go_wp2_with fail
        have ho := st9 (.int .i64 (z.t3 % 7)) HOB.out
        have hc := set_other (p := ⟨ob, 9, none⟩) HCB.out x1 (.int .i64 (z.t3 % 7))
        have hr := set_other (p := ⟨ob, 9, none⟩) HRB.out x2 (.int .i64 (z.t3 % 7))
        have hk := HKY.out.setCell (p := ⟨ob, 9, none⟩) (.inl rfl) (.int .i64 (z.t3 % 7))
        obtain ⟨Y3, hX⟩ : ∃ Y, Y = (Y2.setCell ⟨ob, 9, none⟩ (.int .i64 (z.t3 % 7))) := ⟨_, rfl⟩
        rw [← hX] at ho hc hr hk ⊢
        clear hX HOB HCB HRB HKY o0 o1 o2 o3 o4 o5 o6 o7 o8 o9 o10 o11 o12 o13 o14 o15 p0 p1 p2 p3 p4 p5 p6 p7 p8 p9 p10 p11 p12 p13 p14 p15 fo x6 x7 x8
        have HOB := hid ho
        have HCB := hid hc
        have HRB := hid hr
        have HKY := hid hk
        clear ho hc hr hk
        obtain ⟨o0, o1, o2, o3, o4, o5, o6, o7, o8, o9, o10, o11, o12, o13, o14, o15⟩ := bx16 HOB.out
        obtain ⟨p0, p1, p2, p3, p4, p5, p6, p7, p8, p9, p10, p11, p12, p13, p14, p15⟩ := bx16 HCB.out
        have fo : ∀ i, Y3.frozen? ⟨ob, i, none⟩ = false := fun i => free_of HOB.out i
        have x6 : ob < Y3.heap.size := lt_of_block HOB.out
        have x7 : pb < Y3.heap.size := lt_of_block HCB.out
        have x8 : rb < Y3.heap.size := lt_of_block HRB.out
        rw [rounds_succ]
        go_wp2_with fail
        refine (mod_ok z.t4 7 (i64_wf H.out.w_t4).1 (i64_wf H.out.w_t4).2 (by decide) (by decide) _).mono ?_
        rintro e w' ⟨rfl, rfl⟩
        go_wp2_with fail
        have ho := st10 (.int .i64 (z.t4 % 7)) HOB.out
        have hc := set_other (p := ⟨ob, 10, none⟩) HCB.out x1 (.int .i64 (z.t4 % 7))
        have hr := set_other (p := ⟨ob, 10, none⟩) HRB.out x2 (.int .i64 (z.t4 % 7))
        have hk := HKY.out.setCell (p := ⟨ob, 10, none⟩) (.inl rfl) (.int .i64 (z.t4 % 7))
        obtain ⟨Y4, hX⟩ : ∃ Y, Y = (Y3.setCell ⟨ob, 10, none⟩ (.int .i64 (z.t4 % 7))) := ⟨_, rfl⟩
        rw [← hX] at ho hc hr hk ⊢
        clear hX HOB HCB HRB HKY o0 o1 o2 o3 o4 o5 o6 o7 o8 o9 o10 o11 o12 o13 o14 o15 p0 p1 p2 p3 p4 p5 p6 p7 p8 p9 p10 p11 p12 p13 p14 p15 fo x6 x7 x8
        have HOB := hid ho
        have HCB := hid hc
        have HRB := hid hr
        have HKY := hid hk
        clear ho hc hr hk
        obtain ⟨o0, o1, o2, o3, o4, o5, o6, o7, o8, o9, o10, o11, o12, o13, o14, o15⟩ := bx16 HOB.out
        obtain ⟨p0, p1, p2, p3, p4, p5, p6, p7, p8, p9, p10, p11, p12, p13, p14, p15⟩ := bx16 HCB.out
        have fo : ∀ i, Y4.frozen? ⟨ob, i, none⟩ = false := fun i => free_of HOB.out i
        have x6 : ob < Y4.heap.size := lt_of_block HOB.out
        have x7 : pb < Y4.heap.size := lt_of_block HCB.out
        have x8 : rb < Y4.heap.size := lt_of_block HRB.out
        rw [rounds_succ]
        go_wp2_with fail
        refine (mod_ok z.t5 7 (i64_wf H.out.w_t5).1 (i64_wf H.out.w_t5).2 (by decide) (by decide) _).mono ?_
        rintro e w' ⟨rfl, rfl⟩
        go_wp2_with fail
        have ho := st11 (.int .i64 (z.t5 % 7)) HOB.out
        have hc := set_other (p := ⟨ob, 11, none⟩) HCB.out x1 (.int .i64 (z.t5 % 7))
        have hr := set_other (p := ⟨ob, 11, none⟩) HRB.out x2 (.int .i64 (z.t5 % 7))
        have hk := HKY.out.setCell (p := ⟨ob, 11, none⟩) (.inl rfl) (.int .i64 (z.t5 % 7))
        obtain ⟨Y5, hX⟩ : ∃ Y, Y = (Y4.setCell ⟨ob, 11, none⟩ (.int .i64 (z.t5 % 7))) := ⟨_, rfl⟩
        rw [← hX] at ho hc hr hk ⊢
        clear hX HOB HCB HRB HKY o0 o1 o2 o3 o4 o5 o6 o7 o8 o9 o10 o11 o12 o13 o14 o15 p0 p1 p2 p3 p4 p5 p6 p7 p8 p9 p10 p11 p12 p13 p14 p15 fo x6 x7 x8
        have HOB := hid ho
        have HCB := hid hc
        have HRB := hid hr
        have HKY := hid hk
        clear ho hc hr hk
        obtain ⟨o0, o1, o2, o3, o4, o5, o6, o7, o8, o9, o10, o11, o12, o13, o14, o15⟩ := bx16 HOB.out
        obtain ⟨p0, p1, p2, p3, p4, p5, p6, p7, p8, p9, p10, p11, p12, p13, p14, p15⟩ := bx16 HCB.out
        have fo : ∀ i, Y5.frozen? ⟨ob, i, none⟩ = false := fun i => free_of HOB.out i
        have x6 : ob < Y5.heap.size := lt_of_block HOB.out
        have x7 : pb < Y5.heap.size := lt_of_block HCB.out
        have x8 : rb < Y5.heap.size := lt_of_block HRB.out
        rw [rounds_succ]
        go_wp2_with fail
        refine (mod_ok z.t6 7 (i64_wf H.out.w_t6).1 (i64_wf H.out.w_t6).2 (by decide) (by decide) _).mono ?_
        rintro e w' ⟨rfl, rfl⟩
        go_wp2_with fail
        have ho := st12 (.int .i64 (z.t6 % 7)) HOB.out
        have hc := set_other (p := ⟨ob, 12, none⟩) HCB.out x1 (.int .i64 (z.t6 % 7))
        have hr := set_other (p := ⟨ob, 12, none⟩) HRB.out x2 (.int .i64 (z.t6 % 7))
        have hk := HKY.out.setCell (p := ⟨ob, 12, none⟩) (.inl rfl) (.int .i64 (z.t6 % 7))
        obtain ⟨Y6, hX⟩ : ∃ Y, Y = (Y5.setCell ⟨ob, 12, none⟩ (.int .i64 (z.t6 % 7))) := ⟨_, rfl⟩
        rw [← hX] at ho hc hr hk ⊢
        clear hX HOB HCB HRB HKY o0 o1 o2 o3 o4 o5 o6 o7 o8 o9 o10 o11 o12 o13 o14 o15 p0 p1 p2 p3 p4 p5 p6 p7 p8 p9 p10 p11 p12 p13 p14 p15 fo x6 x7 x8
        have HOB := hid ho
        have HCB := hid hc
        have HRB := hid hr
        have HKY := hid hk
        clear ho hc hr hk
        obtain ⟨o0, o1, o2, o3, o4, o5, o6, o7, o8, o9, o10, o11, o12, o13, o14, o15⟩ := bx16 HOB.out
        obtain ⟨p0, p1, p2, p3, p4, p5, p6, p7, p8, p9, p10, p11, p12, p13, p14, p15⟩ := bx16 HCB.out
        have fo : ∀ i, Y6.frozen? ⟨ob, i, none⟩ = false := fun i => free_of HOB.out i
        have x6 : ob < Y6.heap.size := lt_of_block HOB.out
        have x7 : pb < Y6.heap.size := lt_of_block HCB.out
        have x8 : rb < Y6.heap.size := lt_of_block HRB.out
        rw [rounds_succ]
        clear p0 p1 p2 p3 p4 p5 p6 p7 p8 p9 p10 p11 p12 p13 p14 p15 o0 o1 o2 o3 o4 o5 o6 o7 o8 o9 o10 o11 o12 o13 o14 o15 fo x6 x7 x8 HCB w1 w2 w3 w4 w5 w6 w7
        go_wp2_with fail
        refine HKL.out _ _ ?_
        refine wp_seq ?_
        refine wp_region_list ?_
        refine wpList_load_row rfl 45 _ rfl ob rfl _ _ (0, 0) _ HOB.out Tryz.underlying45 rfl infoCfg ?_
        refine wpList_store_row rfl 45 _ _ rfl (rb) #[.int .i64 (1 + z.th % 6), .int .i64 (1 + z.sl % 5), .int .u8 (IntKind.u8.wrap (1 + z.eng.tmod 3)), .int .i64 (1 + z.bk % 4), .int .u8 (smallD z.k z.n z.cuts).k, .int .i64 (smallD z.k z.n z.cuts).n, .slice a2 (smallD z.k z.n z.cuts).cuts.length cp2, .int .i64 (z.t1 % 7), .int .i64 (z.t2 % 7), .int .i64 (z.t3 % 7), .int .i64 (z.t4 % 7), .int .i64 (z.t5 % 7), .int .i64 (z.t6 % 7), .int .i64 (1 + z.lk % 4), .int .i64 (1 + z.tr % 6), .int .i64 (z.ba % 4)] rfl rfl _ _ HRB.out infoCfg rfl (by simp [Value.oneCell']) ?_
        refine wpList_nil ?_
        refine (wp_ret ?_ : Code.wp Tryz.prog Code.ret (bodyPost Tryz.prog Tryz.f28 (SmallTo w z)) _ _)
        refine bodyPost_ret (results_cell_row rfl _ _ (rb) _ _ (0, 0) _ rfl (setRow_heap _ _ _ #[.int .i64 (1 + z.th % 6), .int .i64 (1 + z.sl % 5), .int .u8 (IntKind.u8.wrap (1 + z.eng.tmod 3)), .int .i64 (1 + z.bk % 4), .int .u8 (smallD z.k z.n z.cuts).k, .int .i64 (smallD z.k z.n z.cuts).n, .slice a2 (smallD z.k z.n z.cuts).cuts.length cp2, .int .i64 (z.t1 % 7), .int .i64 (z.t2 % 7), .int .i64 (z.t3 % 7), .int .i64 (z.t4 % 7), .int .i64 (z.t5 % 7), .int .i64 (z.t6 % 7), .int .i64 (1 + z.lk % 4), .int .i64 (1 + z.tr % 6), .int .i64 (z.ba % 4)] _ _ HRB.out) Tryz.underlying45 rfl infoCfg) rfl ?_
        have hks := keep_setRow HKY.out (g := rb) #[.int .i64 (1 + z.th % 6), .int .i64 (1 + z.sl % 5), .int .u8 (IntKind.u8.wrap (1 + z.eng.tmod 3)), .int .i64 (1 + z.bk % 4), .int .u8 (smallD z.k z.n z.cuts).k, .int .i64 (smallD z.k z.n z.cuts).n, .slice a2 (smallD z.k z.n z.cuts).cuts.length cp2, .int .i64 (z.t1 % 7), .int .i64 (z.t2 % 7), .int .i64 (z.t3 % 7), .int .i64 (z.t4 % 7), .int .i64 (z.t5 % 7), .int .i64 (z.t6 % 7), .int .i64 (1 + z.lk % 4), .int .i64 (1 + z.tr % 6), .int .i64 (z.ba % 4)] (T := fun k => k = ob ∨ k = rb) (fun _ h => .inl h) (.inr rfl)
        refine ⟨a2, cp2, ?_, rd_keep HRX.out hks (fun q hq e => e.elim (HQ.out q hq).2 (HQ.out q hq).1), HKX.out.trans hks (fun k hlt e => by have := x5.out; have := x10.out; omega), HN3.out⟩
        rw [cfgV_small, if_pos HG.out] <;> first | rfl | (rw [hw3]) | (rw [← hw3])
      · have dg : (IntKind.u8.wrap (1 + z.eng.tmod 3) == 3) = false := by rw [hw3]; exact beq_eq_false_iff_ne.2 (by omega)
        have dg2 : (1 + z.eng % 3 == 3) = false := beq_eq_false_iff_ne.2 (by omega)
        have HG := hid hg
        clear hg
        go_wp2_with fail
        rename_i KL hKL
        have HKL := hid hKL
        clear hKL
        refine wp_loop_rounds 7 ?_; repeat any_goals (rw [rounds_succ]; go_wp2_with fail)
        refine (mod_ok z.t1 7 (i64_wf H.out.w_t1).1 (i64_wf H.out.w_t1).2 (by decide) (by decide) _).mono ?_
        rintro e w' ⟨rfl, rfl⟩
        go_wp2_with fail
        have ho := st7 (.int .i64 (z.t1 % 7)) HOB.out
        have hc := set_other (p := ⟨ob, 7, none⟩) HCB.out x1 (.int .i64 (z.t1 % 7))
        have hr := set_other (p := ⟨ob, 7, none⟩) HRB.out x2 (.int .i64 (z.t1 % 7))
        have hk := HKY.out.setCell (p := ⟨ob, 7, none⟩) (.inl rfl) (.int .i64 (z.t1 % 7))
        obtain ⟨Y1, hX⟩ : ∃ Y, Y = (X.setCell ⟨ob, 7, none⟩ (.int .i64 (z.t1 % 7))) := ⟨_, rfl⟩
        rw [← hX] at ho hc hr hk ⊢
        clear hX HOB HCB HRB HKY o0 o1 o2 o3 o4 o5 o6 o7 o8 o9 o10 o11 o12 o13 o14 o15 p0 p1 p2 p3 p4 p5 p6 p7 p8 p9 p10 p11 p12 p13 p14 p15 fo x6 x7 x8
        have HOB := hid ho
        have HCB := hid hc
        have HRB := hid hr
        have HKY := hid hk
        clear ho hc hr hk
        obtain ⟨o0, o1, o2, o3, o4, o5, o6, o7, o8, o9, o10, o11, o12, o13, o14, o15⟩ := bx16 HOB.out
        obtain ⟨p0, p1, p2, p3, p4, p5, p6, p7, p8, p9, p10, p11, p12, p13, p14, p15⟩ := bx16 HCB.out
        have fo : ∀ i, Y1.frozen? ⟨ob, i, none⟩ = false := fun i => free_of HOB.out i
        have x6 : ob < Y1.heap.size := lt_of_block HOB.out
        have x7 : pb < Y1.heap.size := lt_of_block HCB.out
        have x8 : rb < Y1.heap.size := lt_of_block HRB.out
        rw [rounds_succ]
        go_wp2_with fail
        refine (mod_ok z.t2 7 (i64_wf H.out.w_t2).1 (i64_wf H.out.w_t2).2 (by decide) (by decide) _).mono ?_
        rintro e w' ⟨rfl, rfl⟩
        go_wp2_with fail
        have ho := st8 (.int .i64 (z.t2 % 7)) HOB.out
        have hc := set_other (p := ⟨ob, 8, none⟩) HCB.out x1 (.int .i64 (z.t2 % 7))
        have hr := set_other (p := ⟨ob, 8, none⟩) HRB.out x2 (.int .i64 (z.t2 % 7))
        have hk := HKY.out.setCell (p := ⟨ob, 8, none⟩) (.inl rfl) (.int .i64 (z.t2 % 7))
        obtain ⟨Y2, hX⟩ : ∃ Y, Y = (Y1.setCell ⟨ob, 8, none⟩ (.int .i64 (z.t2 % 7))) := ⟨_, rfl⟩
        rw [← hX] at ho hc hr hk ⊢
        clear hX HOB HCB HRB HKY o0 o1 o2 o3 o4 o5 o6 o7 o8 o9 o10 o11 o12 o13 o14 o15 p0 p1 p2 p3 p4 p5 p6 p7 p8 p9 p10 p11 p12 p13 p14 p15 fo x6 x7 x8
        have HOB := hid ho
        have HCB := hid hc
        have HRB := hid hr
        have HKY := hid hk
        clear ho hc hr hk
        obtain ⟨o0, o1, o2, o3, o4, o5, o6, o7, o8, o9, o10, o11, o12, o13, o14, o15⟩ := bx16 HOB.out
        obtain ⟨p0, p1, p2, p3, p4, p5, p6, p7, p8, p9, p10, p11, p12, p13, p14, p15⟩ := bx16 HCB.out
        have fo : ∀ i, Y2.frozen? ⟨ob, i, none⟩ = false := fun i => free_of HOB.out i
        have x6 : ob < Y2.heap.size := lt_of_block HOB.out
        have x7 : pb < Y2.heap.size := lt_of_block HCB.out
        have x8 : rb < Y2.heap.size := lt_of_block HRB.out
        rw [rounds_succ]
        go_wp2_with fail
        refine (mod_ok z.t3 7 (i64_wf H.out.w_t3).1 (i64_wf H.out.w_t3).2 (by decide) (by decide) _).mono ?_
        rintro e w' ⟨rfl, rfl⟩
        go_wp2_with fail
        have ho := st9 (.int .i64 (z.t3 % 7)) HOB.out
        have hc := set_other (p := ⟨ob, 9, none⟩) HCB.out x1 (.int .i64 (z.t3 % 7))
        have hr := set_other (p := ⟨ob, 9, none⟩) HRB.out x2 (.int .i64 (z.t3 % 7))
        have hk := HKY.out.setCell (p := ⟨ob, 9, none⟩) (.inl rfl) (.int .i64 (z.t3 % 7))
        obtain ⟨Y3, hX⟩ : ∃ Y, Y = (Y2.setCell ⟨ob, 9, none⟩ (.int .i64 (z.t3 % 7))) := ⟨_, rfl⟩
        rw [← hX] at ho hc hr hk ⊢
        clear hX HOB HCB HRB HKY o0 o1 o2 o3 o4 o5 o6 o7 o8 o9 o10 o11 o12 o13 o14 o15 p0 p1 p2 p3 p4 p5 p6 p7 p8 p9 p10 p11 p12 p13 p14 p15 fo x6 x7 x8
        have HOB := hid ho
        have HCB := hid hc
        have HRB := hid hr
        have HKY := hid hk
        clear ho hc hr hk
        obtain ⟨o0, o1, o2, o3, o4, o5, o6, o7, o8, o9, o10, o11, o12, o13, o14, o15⟩ := bx16 HOB.out
        obtain ⟨p0, p1, p2, p3, p4, p5, p6, p7, p8, p9, p10, p11, p12, p13, p14, p15⟩ := bx16 HCB.out
        have fo : ∀ i, Y3.frozen? ⟨ob, i, none⟩ = false := fun i => free_of HOB.out i
        have x6 : ob < Y3.heap.size := lt_of_block HOB.out
        have x7 : pb < Y3.heap.size := lt_of_block HCB.out
        have x8 : rb < Y3.heap.size := lt_of_block HRB.out
        rw [rounds_succ]
        go_wp2_with fail
        refine (mod_ok z.t4 7 (i64_wf H.out.w_t4).1 (i64_wf H.out.w_t4).2 (by decide) (by decide) _).mono ?_
        rintro e w' ⟨rfl, rfl⟩
        go_wp2_with fail
        have ho := st10 (.int .i64 (z.t4 % 7)) HOB.out
        have hc := set_other (p := ⟨ob, 10, none⟩) HCB.out x1 (.int .i64 (z.t4 % 7))
        have hr := set_other (p := ⟨ob, 10, none⟩) HRB.out x2 (.int .i64 (z.t4 % 7))
        have hk := HKY.out.setCell (p := ⟨ob, 10, none⟩) (.inl rfl) (.int .i64 (z.t4 % 7))
        obtain ⟨Y4, hX⟩ : ∃ Y, Y = (Y3.setCell ⟨ob, 10, none⟩ (.int .i64 (z.t4 % 7))) := ⟨_, rfl⟩
        rw [← hX] at ho hc hr hk ⊢
        clear hX HOB HCB HRB HKY o0 o1 o2 o3 o4 o5 o6 o7 o8 o9 o10 o11 o12 o13 o14 o15 p0 p1 p2 p3 p4 p5 p6 p7 p8 p9 p10 p11 p12 p13 p14 p15 fo x6 x7 x8
        have HOB := hid ho
        have HCB := hid hc
        have HRB := hid hr
        have HKY := hid hk
        clear ho hc hr hk
        obtain ⟨o0, o1, o2, o3, o4, o5, o6, o7, o8, o9, o10, o11, o12, o13, o14, o15⟩ := bx16 HOB.out
        obtain ⟨p0, p1, p2, p3, p4, p5, p6, p7, p8, p9, p10, p11, p12, p13, p14, p15⟩ := bx16 HCB.out
        have fo : ∀ i, Y4.frozen? ⟨ob, i, none⟩ = false := fun i => free_of HOB.out i
        have x6 : ob < Y4.heap.size := lt_of_block HOB.out
        have x7 : pb < Y4.heap.size := lt_of_block HCB.out
        have x8 : rb < Y4.heap.size := lt_of_block HRB.out
        rw [rounds_succ]
        go_wp2_with fail
        refine (mod_ok z.t5 7 (i64_wf H.out.w_t5).1 (i64_wf H.out.w_t5).2 (by decide) (by decide) _).mono ?_
        rintro e w' ⟨rfl, rfl⟩
        go_wp2_with fail
        have ho := st11 (.int .i64 (z.t5 % 7)) HOB.out
        have hc := set_other (p := ⟨ob, 11, none⟩) HCB.out x1 (.int .i64 (z.t5 % 7))
        have hr := set_other (p := ⟨ob, 11, none⟩) HRB.out x2 (.int .i64 (z.t5 % 7))
        have hk := HKY.out.setCell (p := ⟨ob, 11, none⟩) (.inl rfl) (.int .i64 (z.t5 % 7))
        obtain ⟨Y5, hX⟩ : ∃ Y, Y = (Y4.setCell ⟨ob, 11, none⟩ (.int .i64 (z.t5 % 7))) := ⟨_, rfl⟩
        rw [← hX] at ho hc hr hk ⊢
        clear hX HOB HCB HRB HKY o0 o1 o2 o3 o4 o5 o6 o7 o8 o9 o10 o11 o12 o13 o14 o15 p0 p1 p2 p3 p4 p5 p6 p7 p8 p9 p10 p11 p12 p13 p14 p15 fo x6 x7 x8
        have HOB := hid ho
        have HCB := hid hc
        have HRB := hid hr
        have HKY := hid hk
        clear ho hc hr hk
        obtain ⟨o0, o1, o2, o3, o4, o5, o6, o7, o8, o9, o10, o11, o12, o13, o14, o15⟩ := bx16 HOB.out
        obtain ⟨p0, p1, p2, p3, p4, p5, p6, p7, p8, p9, p10, p11, p12, p13, p14, p15⟩ := bx16 HCB.out
        have fo : ∀ i, Y5.frozen? ⟨ob, i, none⟩ = false := fun i => free_of HOB.out i
        have x6 : ob < Y5.heap.size := lt_of_block HOB.out
        have x7 : pb < Y5.heap.size := lt_of_block HCB.out
        have x8 : rb < Y5.heap.size := lt_of_block HRB.out
        rw [rounds_succ]
        go_wp2_with fail
        refine (mod_ok z.t6 7 (i64_wf H.out.w_t6).1 (i64_wf H.out.w_t6).2 (by decide) (by decide) _).mono ?_
        rintro e w' ⟨rfl, rfl⟩
        go_wp2_with fail
        have ho := st12 (.int .i64 (z.t6 % 7)) HOB.out
        have hc := set_other (p := ⟨ob, 12, none⟩) HCB.out x1 (.int .i64 (z.t6 % 7))
        have hr := set_other (p := ⟨ob, 12, none⟩) HRB.out x2 (.int .i64 (z.t6 % 7))
        have hk := HKY.out.setCell (p := ⟨ob, 12, none⟩) (.inl rfl) (.int .i64 (z.t6 % 7))
        obtain ⟨Y6, hX⟩ : ∃ Y, Y = (Y5.setCell ⟨ob, 12, none⟩ (.int .i64 (z.t6 % 7))) := ⟨_, rfl⟩
        rw [← hX] at ho hc hr hk ⊢
        clear hX HOB HCB HRB HKY o0 o1 o2 o3 o4 o5 o6 o7 o8 o9 o10 o11 o12 o13 o14 o15 p0 p1 p2 p3 p4 p5 p6 p7 p8 p9 p10 p11 p12 p13 p14 p15 fo x6 x7 x8
        have HOB := hid ho
        have HCB := hid hc
        have HRB := hid hr
        have HKY := hid hk
        clear ho hc hr hk
        obtain ⟨o0, o1, o2, o3, o4, o5, o6, o7, o8, o9, o10, o11, o12, o13, o14, o15⟩ := bx16 HOB.out
        obtain ⟨p0, p1, p2, p3, p4, p5, p6, p7, p8, p9, p10, p11, p12, p13, p14, p15⟩ := bx16 HCB.out
        have fo : ∀ i, Y6.frozen? ⟨ob, i, none⟩ = false := fun i => free_of HOB.out i
        have x6 : ob < Y6.heap.size := lt_of_block HOB.out
        have x7 : pb < Y6.heap.size := lt_of_block HCB.out
        have x8 : rb < Y6.heap.size := lt_of_block HRB.out
        rw [rounds_succ]
        clear p0 p1 p2 p3 p4 p5 p6 p7 p8 p9 p10 p11 p12 p13 p14 p15 o0 o1 o2 o3 o4 o5 o6 o7 o8 o9 o10 o11 o12 o13 o14 o15 fo x6 x7 x8 HCB w1 w2 w3 w4 w5 w6 w7
        go_wp2_with fail
        refine HKL.out _ _ ?_
        refine wp_seq ?_
        refine wp_region_list ?_
        refine wpList_load_row rfl 45 _ rfl ob rfl _ _ (0, 0) _ HOB.out Tryz.underlying45 rfl infoCfg ?_
        refine wpList_store_row rfl 45 _ _ rfl (rb) #[.int .i64 (1 + z.th % 6), .int .i64 (1 + z.sl % 5), .int .u8 (IntKind.u8.wrap (1 + z.eng.tmod 3)), .int .i64 0, .int .u8 (smallD z.k z.n z.cuts).k, .int .i64 (smallD z.k z.n z.cuts).n, .slice a2 (smallD z.k z.n z.cuts).cuts.length cp2, .int .i64 (z.t1 % 7), .int .i64 (z.t2 % 7), .int .i64 (z.t3 % 7), .int .i64 (z.t4 % 7), .int .i64 (z.t5 % 7), .int .i64 (z.t6 % 7), .int .i64 (1 + z.lk % 4), .int .i64 (1 + z.tr % 6), .int .i64 (z.ba % 4)] rfl rfl _ _ HRB.out infoCfg rfl (by simp [Value.oneCell']) ?_
        refine wpList_nil ?_
        refine (wp_ret ?_ : Code.wp Tryz.prog Code.ret (bodyPost Tryz.prog Tryz.f28 (SmallTo w z)) _ _)
        refine bodyPost_ret (results_cell_row rfl _ _ (rb) _ _ (0, 0) _ rfl (setRow_heap _ _ _ #[.int .i64 (1 + z.th % 6), .int .i64 (1 + z.sl % 5), .int .u8 (IntKind.u8.wrap (1 + z.eng.tmod 3)), .int .i64 0, .int .u8 (smallD z.k z.n z.cuts).k, .int .i64 (smallD z.k z.n z.cuts).n, .slice a2 (smallD z.k z.n z.cuts).cuts.length cp2, .int .i64 (z.t1 % 7), .int .i64 (z.t2 % 7), .int .i64 (z.t3 % 7), .int .i64 (z.t4 % 7), .int .i64 (z.t5 % 7), .int .i64 (z.t6 % 7), .int .i64 (1 + z.lk % 4), .int .i64 (1 + z.tr % 6), .int .i64 (z.ba % 4)] _ _ HRB.out) Tryz.underlying45 rfl infoCfg) rfl ?_
        have hks := keep_setRow HKY.out (g := rb) #[.int .i64 (1 + z.th % 6), .int .i64 (1 + z.sl % 5), .int .u8 (IntKind.u8.wrap (1 + z.eng.tmod 3)), .int .i64 0, .int .u8 (smallD z.k z.n z.cuts).k, .int .i64 (smallD z.k z.n z.cuts).n, .slice a2 (smallD z.k z.n z.cuts).cuts.length cp2, .int .i64 (z.t1 % 7), .int .i64 (z.t2 % 7), .int .i64 (z.t3 % 7), .int .i64 (z.t4 % 7), .int .i64 (z.t5 % 7), .int .i64 (z.t6 % 7), .int .i64 (1 + z.lk % 4), .int .i64 (1 + z.tr % 6), .int .i64 (z.ba % 4)] (T := fun k => k = ob ∨ k = rb) (fun _ h => .inl h) (.inr rfl)
        refine ⟨a2, cp2, ?_, rd_keep HRX.out hks (fun q hq e => e.elim (HQ.out q hq).2 (HQ.out q hq).1), HKX.out.trans hks (fun k hlt e => by have := x5.out; have := x10.out; omega), HN3.out⟩
        rw [cfgV_small, if_neg HG.out] <;> first | rfl | (rw [hw3]) | (rw [← hw3])
  go_region_held3 (fun w' => w'.cell? ⟨w.heap.size, 0, none⟩ = some (.int .i64 z.th) ∧ w'.cell? ⟨w.heap.size, 1, none⟩ = some (.int .i64 z.sl) ∧ w'.cell? ⟨w.heap.size, 2, none⟩ = some (.int .u8 z.eng) ∧ w'.cell? ⟨w.heap.size, 4, none⟩ = some (.int .u8 z.k) ∧ w'.cell? ⟨w.heap.size, 5, none⟩ = some (.int .i64 z.n) ∧ w'.cell? ⟨w.heap.size, 6, none⟩ = some (.slice z.a z.cuts.length z.cp) ∧ w'.cell? ⟨w.heap.size, 13, none⟩ = some (.int .i64 z.lk) ∧ w'.cell? ⟨w.heap.size, 14, none⟩ = some (.int .i64 z.tr) ∧ w'.cell? ⟨w.heap.size, 15, none⟩ = some (.int .i64 z.ba)) (go_keep)
    (first | (go_at_call 29; (with_reducible refine (mod_ok z.th 6 HB.out.1.1 HB.out.1.2 (by decide) (by decide) _).mono ?_); rintro e w' ⟨rfl, rfl⟩) | (go_at_call 29; (with_reducible refine (mod_ok z.sl 5 HB.out.2.1.1 HB.out.2.1.2 (by decide) (by decide) _).mono ?_); rintro e w' ⟨rfl, rfl⟩) | (go_at_call 29; (with_reducible refine (mod_ok z.lk 4 HB.out.2.2.2.1.1 HB.out.2.2.2.1.2 (by decide) (by decide) _).mono ?_); rintro e w' ⟨rfl, rfl⟩) | (go_at_call 29; (with_reducible refine (mod_ok z.tr 6 HB.out.2.2.2.2.1.1 HB.out.2.2.2.2.1.2 (by decide) (by decide) _).mono ?_); rintro e w' ⟨rfl, rfl⟩) | (go_at_call 29; (with_reducible refine (mod_ok z.ba 4 HB.out.2.2.2.2.2.1 HB.out.2.2.2.2.2.2 (by decide) (by decide) _).mono ?_); rintro e w' ⟨rfl, rfl⟩) | (go_at_call 83; (with_reducible refine (dom_small HK.out.1.1 HK.out.1.2 HK.out.2.1 HK.out.2.2 (rd_keep H.out.rd (HK0.out.drew) (fun _ _ h => h)) hlen (fun y hy => u64_wf (H.out.w_cuts y hy))).mono ?_); rintro e W1 ⟨a2, cp2, rfl, hr, hk, hn⟩; have B1 := hk.at (show W0.drew.heap[w.heap.size]? = _ from HB1.out) (fun h => h); have B2 := hid (hk.at (show W0.drew.heap[w.heap.size + 1]? = _ from HB2.out) (fun h => h)); have e0 : W1.cell? ⟨w.heap.size, 0, none⟩ = some (.int .i64 z.th) := (by rw [cell_of B1]; rfl); have m0 := World.new_ne W1 ⟨w.heap.size, 0, none⟩ e0; have e1 : W1.cell? ⟨w.heap.size, 1, none⟩ = some (.int .i64 z.sl) := (by rw [cell_of B1]; rfl); have m1 := World.new_ne W1 ⟨w.heap.size, 1, none⟩ e1; have e2 : W1.cell? ⟨w.heap.size, 2, none⟩ = some (.int .u8 z.eng) := (by rw [cell_of B1]; rfl); have m2 := World.new_ne W1 ⟨w.heap.size, 2, none⟩ e2; have e4 : W1.cell? ⟨w.heap.size, 4, none⟩ = some (.int .u8 z.k) := (by rw [cell_of B1]; rfl); have m4 := World.new_ne W1 ⟨w.heap.size, 4, none⟩ e4; have e5 : W1.cell? ⟨w.heap.size, 5, none⟩ = some (.int .i64 z.n) := (by rw [cell_of B1]; rfl); have m5 := World.new_ne W1 ⟨w.heap.size, 5, none⟩ e5; have e6 : W1.cell? ⟨w.heap.size, 6, none⟩ = some (.slice z.a z.cuts.length z.cp) := (by rw [cell_of B1]; rfl); have m6 := World.new_ne W1 ⟨w.heap.size, 6, none⟩ e6; have e13 : W1.cell? ⟨w.heap.size, 13, none⟩ = some (.int .i64 z.lk) := (by rw [cell_of B1]; rfl); have m13 := World.new_ne W1 ⟨w.heap.size, 13, none⟩ e13; have e14 : W1.cell? ⟨w.heap.size, 14, none⟩ = some (.int .i64 z.tr) := (by rw [cell_of B1]; rfl); have m14 := World.new_ne W1 ⟨w.heap.size, 14, none⟩ e14; have e15 : W1.cell? ⟨w.heap.size, 15, none⟩ = some (.int .i64 z.ba) := (by rw [cell_of B1]; rfl); have m15 := World.new_ne W1 ⟨w.heap.size, 15, none⟩ e15; have HB3 := hid B1; have HR3 := hid hr; have HK3 := hid ((HK0.out.drew).trans hk (fun _ _ h => h)); have HLT3 := hid (show ∀ q, (Value.slice a2 (smallD z.k z.n z.cuts).cuts.length cp2).ownBlock = some q → q < W1.heap.size from fun q hq => (hn q hq).2); have HNO := hid (show ∀ q, (Value.slice a2 (smallD z.k z.n z.cuts).cuts.length cp2).ownBlock = some q → q ≠ w.heap.size + 1 from fun q hq e => by have h := (hn q hq).1; have h2 : W0.heap.size ≤ q := h; have := lt_of_block HB2.out; omega); have HN3 := hid (show ∀ q, (Value.slice a2 (smallD z.k z.n z.cuts).cuts.length cp2).ownBlock = some q → w.heap.size ≤ q from fun q hq => (by have h := (hn q hq).1; have := HK0.out.size; have h2 : W0.heap.size ≤ q := (by first | exact h | (have h3 := h; simp at h3; omega)); omega)); clear B1 hr hk hn) | (go_at_call 83; (with_reducible refine (dom_small HK.out.1.1 HK.out.1.2 HK.out.2.1 HK.out.2.2 (rd_keep H.out.rd ((HK0.out.alloc (.cells #[.int .i64 0, .int .i64 0, .int .u8 0, .int .i64 0, .int .u8 0, .int .i64 0, .slice none 0 0, .int .i64 0, .int .i64 0, .int .i64 0, .int .i64 0, .int .i64 0, .int .i64 0, .int .i64 0, .int .i64 0, .int .i64 0] 45 (0, 0))).drew) (fun _ _ h => h)) hlen (fun y hy => u64_wf (H.out.w_cuts y hy))).mono ?_); rintro e W1 ⟨a2, cp2, rfl, hr, hk, hn⟩; have B1 := hk.at (show (W0.alloc (.cells #[.int .i64 0, .int .i64 0, .int .u8 0, .int .i64 0, .int .u8 0, .int .i64 0, .slice none 0 0, .int .i64 0, .int .i64 0, .int .i64 0, .int .i64 0, .int .i64 0, .int .i64 0, .int .i64 0, .int .i64 0, .int .i64 0] 45 (0, 0))).drew.heap[w.heap.size]? = _ from alloc_old HB1.out _) (fun h => h); have B2 := hid (hk.at (show (W0.alloc (.cells #[.int .i64 0, .int .i64 0, .int .u8 0, .int .i64 0, .int .u8 0, .int .i64 0, .slice none 0 0, .int .i64 0, .int .i64 0, .int .i64 0, .int .i64 0, .int .i64 0, .int .i64 0, .int .i64 0, .int .i64 0, .int .i64 0] 45 (0, 0))).drew.heap[w.heap.size + 1]? = _ from alloc_old HB2.out _) (fun h => h)); have e0 : W1.cell? ⟨w.heap.size, 0, none⟩ = some (.int .i64 z.th) := (by rw [cell_of B1]; rfl); have m0 := World.new_ne W1 ⟨w.heap.size, 0, none⟩ e0; have e1 : W1.cell? ⟨w.heap.size, 1, none⟩ = some (.int .i64 z.sl) := (by rw [cell_of B1]; rfl); have m1 := World.new_ne W1 ⟨w.heap.size, 1, none⟩ e1; have e2 : W1.cell? ⟨w.heap.size, 2, none⟩ = some (.int .u8 z.eng) := (by rw [cell_of B1]; rfl); have m2 := World.new_ne W1 ⟨w.heap.size, 2, none⟩ e2; have e4 : W1.cell? ⟨w.heap.size, 4, none⟩ = some (.int .u8 z.k) := (by rw [cell_of B1]; rfl); have m4 := World.new_ne W1 ⟨w.heap.size, 4, none⟩ e4; have e5 : W1.cell? ⟨w.heap.size, 5, none⟩ = some (.int .i64 z.n) := (by rw [cell_of B1]; rfl); have m5 := World.new_ne W1 ⟨w.heap.size, 5, none⟩ e5; have e6 : W1.cell? ⟨w.heap.size, 6, none⟩ = some (.slice z.a z.cuts.length z.cp) := (by rw [cell_of B1]; rfl); have m6 := World.new_ne W1 ⟨w.heap.size, 6, none⟩ e6; have e13 : W1.cell? ⟨w.heap.size, 13, none⟩ = some (.int .i64 z.lk) := (by rw [cell_of B1]; rfl); have m13 := World.new_ne W1 ⟨w.heap.size, 13, none⟩ e13; have e14 : W1.cell? ⟨w.heap.size, 14, none⟩ = some (.int .i64 z.tr) := (by rw [cell_of B1]; rfl); have m14 := World.new_ne W1 ⟨w.heap.size, 14, none⟩ e14; have e15 : W1.cell? ⟨w.heap.size, 15, none⟩ = some (.int .i64 z.ba) := (by rw [cell_of B1]; rfl); have m15 := World.new_ne W1 ⟨w.heap.size, 15, none⟩ e15; have BO := hk.at (show (W0.alloc (.cells #[.int .i64 0, .int .i64 0, .int .u8 0, .int .i64 0, .int .u8 0, .int .i64 0, .slice none 0 0, .int .i64 0, .int .i64 0, .int .i64 0, .int .i64 0, .int .i64 0, .int .i64 0, .int .i64 0, .int .i64 0, .int .i64 0] 45 (0, 0))).drew.heap[W0.heap.size]? = _ from heap_alloc_new W0 _) (fun h => h); obtain ⟨u0, u1, u2, u3, u4, u5, u6, u7, u8, u9, u10, u11, u12, u13, u14, u15⟩ := bx16 BO; have fo : ∀ i, W1.frozen? ⟨W0.heap.size, i, none⟩ = false := (fun i => free_of BO i); have HBO := hid BO; clear BO; have HB3 := hid B1; have HR3 := hid hr; have HK3 := hid (((HK0.out.alloc (.cells #[.int .i64 0, .int .i64 0, .int .u8 0, .int .i64 0, .int .u8 0, .int .i64 0, .slice none 0 0, .int .i64 0, .int .i64 0, .int .i64 0, .int .i64 0, .int .i64 0, .int .i64 0, .int .i64 0, .int .i64 0, .int .i64 0] 45 (0, 0))).drew).trans hk (fun _ _ h => h)); have HLT3 := hid (show ∀ q, (Value.slice a2 (smallD z.k z.n z.cuts).cuts.length cp2).ownBlock = some q → q < W1.heap.size from fun q hq => (hn q hq).2); have HNO := hid (show ∀ q, (Value.slice a2 (smallD z.k z.n z.cuts).cuts.length cp2).ownBlock = some q → q ≠ w.heap.size + 1 ∧ q ≠ W0.heap.size from fun q hq => by have h := (hn q hq).1; simp at h; have := lt_of_block HB2.out; omega); have HN3 := hid (show ∀ q, (Value.slice a2 (smallD z.k z.n z.cuts).cuts.length cp2).ownBlock = some q → w.heap.size ≤ q from fun q hq => (by have h := (hn q hq).1; have := HK0.out.size; have h2 : W0.heap.size ≤ q := (by first | exact h | (have h3 := h; simp at h3; omega)); omega)); clear B1 hr hk hn))
  all_goals first
    | (have hob := set16 (.int .i64 (1 + z.th % 6)) (.int .i64 (1 + z.sl % 5)) (.int .u8 (IntKind.u8.wrap (1 + z.eng.tmod 3))) (.int .i64 0) (.int .u8 (smallD z.k z.n z.cuts).k) (.int .i64 (smallD z.k z.n z.cuts).n) (.slice a2 (smallD z.k z.n z.cuts).cuts.length cp2) (.int .i64 0) (.int .i64 0) (.int .i64 0) (.int .i64 0) (.int .i64 0) (.int .i64 0) (.int .i64 (1 + z.lk % 4)) (.int .i64 (1 + z.tr % 6)) (.int .i64 (z.ba % 4)) HBO.out
       have hX : ∃ X, X = ((((((((((((((((W1.setCell ⟨W0.heap.size, 0, none⟩ (.int .i64 (1 + z.th % 6))).setCell ⟨W0.heap.size, 1, none⟩ (.int .i64 (1 + z.sl % 5))).setCell ⟨W0.heap.size, 2, none⟩ (.int .u8 (IntKind.u8.wrap (1 + z.eng.tmod 3)))).setCell ⟨W0.heap.size, 3, none⟩ (.int .i64 0)).setCell ⟨W0.heap.size, 4, none⟩ (.int .u8 (smallD z.k z.n z.cuts).k)).setCell ⟨W0.heap.size, 5, none⟩ (.int .i64 (smallD z.k z.n z.cuts).n)).setCell ⟨W0.heap.size, 6, none⟩ (.slice a2 (smallD z.k z.n z.cuts).cuts.length cp2)).setCell ⟨W0.heap.size, 7, none⟩ (.int .i64 0)).setCell ⟨W0.heap.size, 8, none⟩ (.int .i64 0)).setCell ⟨W0.heap.size, 9, none⟩ (.int .i64 0)).setCell ⟨W0.heap.size, 10, none⟩ (.int .i64 0)).setCell ⟨W0.heap.size, 11, none⟩ (.int .i64 0)).setCell ⟨W0.heap.size, 12, none⟩ (.int .i64 0)).setCell ⟨W0.heap.size, 13, none⟩ (.int .i64 (1 + z.lk % 4))).setCell ⟨W0.heap.size, 14, none⟩ (.int .i64 (1 + z.tr % 6))).setCell ⟨W0.heap.size, 15, none⟩ (.int .i64 (z.ba % 4))) := ⟨_, rfl⟩
       obtain ⟨X, hX⟩ := hX
       rw [← hX]
       rw [← hX] at hob
       have kX : Keep (fun k => k = W0.heap.size) W1 X := by rw [hX]; exact keep16 _ _ _ _ _ _ _ _ _ _ _ _ _ _ _ _ (Keep.refl (fun k => k = W0.heap.size) W1) (.inl rfl)
       have HCB := hid (kX.at HB3.out y2)
       have HRB := hid (kX.at B2.out (fun e => by have := lt_of_block HB2.out; omega))
       have HKX := hid (HK3.out.trans kX (fun k hlt e => by have := HK0.out.size; omega))
       have HRX := hid (rd_keep HR3.out kX (fun q hq e => (HNO.out q hq).2 e))
       have HQ := HNO
       have x1 : w.heap.size ≠ W0.heap.size := y2
       have x2 : w.heap.size + 1 ≠ W0.heap.size := by have := lt_of_block HB2.out; omega
       have x5 := hid (show w.heap.size ≤ W0.heap.size from HK0.out.size)
       have HOB := hid hob
       clear hX hob kX
       generalize W0.heap.size = ob at *)
    | (have hob := heap_alloc_new W1 (.cells #[.int .i64 (1 + z.th % 6), .int .i64 (1 + z.sl % 5), .int .u8 (IntKind.u8.wrap (1 + z.eng.tmod 3)), .int .i64 0, .int .u8 (smallD z.k z.n z.cuts).k, .int .i64 (smallD z.k z.n z.cuts).n, .slice a2 (smallD z.k z.n z.cuts).cuts.length cp2, .int .i64 0, .int .i64 0, .int .i64 0, .int .i64 0, .int .i64 0, .int .i64 0, .int .i64 (1 + z.lk % 4), .int .i64 (1 + z.tr % 6), .int .i64 (z.ba % 4)] 45 (0, 0))
       have hX : ∃ X, X = W1.alloc (.cells #[.int .i64 (1 + z.th % 6), .int .i64 (1 + z.sl % 5), .int .u8 (IntKind.u8.wrap (1 + z.eng.tmod 3)), .int .i64 0, .int .u8 (smallD z.k z.n z.cuts).k, .int .i64 (smallD z.k z.n z.cuts).n, .slice a2 (smallD z.k z.n z.cuts).cuts.length cp2, .int .i64 0, .int .i64 0, .int .i64 0, .int .i64 0, .int .i64 0, .int .i64 0, .int .i64 (1 + z.lk % 4), .int .i64 (1 + z.tr % 6), .int .i64 (z.ba % 4)] 45 (0, 0)) := ⟨_, rfl⟩
       obtain ⟨X, hX⟩ := hX
       have hcb := alloc_old HB3.out (.cells #[.int .i64 (1 + z.th % 6), .int .i64 (1 + z.sl % 5), .int .u8 (IntKind.u8.wrap (1 + z.eng.tmod 3)), .int .i64 0, .int .u8 (smallD z.k z.n z.cuts).k, .int .i64 (smallD z.k z.n z.cuts).n, .slice a2 (smallD z.k z.n z.cuts).cuts.length cp2, .int .i64 0, .int .i64 0, .int .i64 0, .int .i64 0, .int .i64 0, .int .i64 0, .int .i64 (1 + z.lk % 4), .int .i64 (1 + z.tr % 6), .int .i64 (z.ba % 4)] 45 (0, 0))
       have hrb := alloc_old B2.out (.cells #[.int .i64 (1 + z.th % 6), .int .i64 (1 + z.sl % 5), .int .u8 (IntKind.u8.wrap (1 + z.eng.tmod 3)), .int .i64 0, .int .u8 (smallD z.k z.n z.cuts).k, .int .i64 (smallD z.k z.n z.cuts).n, .slice a2 (smallD z.k z.n z.cuts).cuts.length cp2, .int .i64 0, .int .i64 0, .int .i64 0, .int .i64 0, .int .i64 0, .int .i64 0, .int .i64 (1 + z.lk % 4), .int .i64 (1 + z.tr % 6), .int .i64 (z.ba % 4)] 45 (0, 0))
       rw [← hX]
       rw [← hX] at hob hcb hrb
       have HCB := hid hcb
       have HRB := hid hrb
       have HKX := hid (show Keep Nil w X from by rw [hX]; exact HK3.out.alloc _)
       have HRX := hid (show Rd X 1 (.slice a2 (smallD z.k z.n z.cuts).cuts.length cp2) (smallD z.k z.n z.cuts).cuts.length (u64s (smallD z.k z.n z.cuts).cuts) from by rw [hX]; exact rd_keep HR3.out ((Keep.refl Nil W1).alloc _) (fun _ _ h => h))
       have HQ := hid (show ∀ q, (Value.slice a2 (smallD z.k z.n z.cuts).cuts.length cp2).ownBlock = some q → q ≠ w.heap.size + 1 ∧ q ≠ W1.heap.size from fun q hq => ⟨HNO.out q hq, fun e => by have := HLT3.out q hq; omega⟩)
       have x1 : w.heap.size ≠ W1.heap.size := by have := lt_of_block HB3.out; omega
       have x2 : w.heap.size + 1 ≠ W1.heap.size := by have := lt_of_block B2.out; omega
       have x5 := hid (show w.heap.size ≤ W1.heap.size from HK3.out.size)
       have HOB := hid hob
       clear hX hob hcb hrb
       generalize W1.heap.size = ob at *)
  all_goals exact key X ob (w.heap.size + 1) w.heap.size a2 cp2 HOB HCB HRB HKX HRX HQ HN3 x1 x2 x5 (by omega) (hid (Nat.le_succ _))
end
end Go.Proofs.YtmafdjhjmnghcaaGreat
