/- A store (base.Base): where it lies, and its readers. -/
import Derived.Test.YtjghenomeindcaaGreatStoreParts
import Derived.Test.YtjghenomeindcaaGreatLayNewA
import Derived.Test.YtjghenomeindcaaGreatBase
set_option linter.unusedVariables false
set_option linter.unusedSimpArgs false
namespace Go.Proofs.YtjghenomeindcaaGreat
open Go.RowKit Go.Lf
/-- A fact that hangs on blocks. -/
def KeepOn (w : World) (G : Nat → Prop) (P : World → Prop) : Prop := P w ∧ ∀ (W' : World) (S : Nat → Prop), Keep S w W' → (∀ k, G k → ¬ S k) → P W'
theorem KeepOn.keep {w w' : World} {G S : Nat → Prop} {P : World → Prop} (h : KeepOn w G P) (hk : Keep S w w') (hn : ∀ k, G k → ¬ S k) : KeepOn w' G P :=
  ⟨h.2 w' S hk hn, fun W2 T hk2 hn2 => h.2 W2 (fun k => S k ∨ T k) ((hk.mono (T := fun k => S k ∨ T k) (fun k _ h => .inl h)).trans hk2 (fun k _ h => .inr h)) (fun k hG e => e.elim (hn k hG) (hn2 k hG))⟩
/-- What else a store that only its memory has changed has: an empty pool record, no events, empty registers. -/
def ExtP (b mb L : Nat) (c : Cfg) (W : World) : Prop := ∃ (pb m7 m8 ob gb : Nat) (x3 x4 : Value), W.heap[b]? = some (.cells #[.pointer (some ⟨L, 0, none⟩), .pointer (some ⟨mb, 0, none⟩), .pointer (some ⟨pb, 0, none⟩), x3, x4, .slice none 0 0, .slice none 0 0, .map (some m7), .map (some m8)] 145 (0, 0)) ∧ PoolAt0 W pb ob gb mb L c ∧ W.heap[m7]? = some (.map #[] 0) ∧ W.heap[m8]? = some (.map #[] 0)
/-- The parts of a store. -/
structure SP (w : World) (A : Nat → Prop) (c : Cfg) (b mb L : Nat) (F G : Nat → Prop) (ws : List Int) (log : List Acc) : Prop where
  head : ∃ x2 x3 x4 x5 x6 x7 x8, w.heap[b]? = some (.cells #[.pointer (some ⟨L, 0, none⟩), .pointer (some ⟨mb, 0, none⟩), x2, x3, x4, x5, x6, x7, x8] 145 (0, 0))
  mem : MemAt w mb F ws log
  lay : LayOn w L c G
  foot : ∀ k, A k ↔ k = b ∨ F k ∨ G k
  nF : ¬ F b
  nG : ¬ G b
  gf : ∀ k, G k → ¬ F k ∧ k < w.heap.size
  more : KeepOn w (fun k => k = b ∨ G k) (ExtP b mb L c)
section
variable {w w' : World} {A : Nat → Prop} {c : Cfg} {b mb L : Nat} {F G : Nat → Prop} {ws ws' : List Int} {log log' : List Acc}
theorem SP.lt (h : SP w A c b mb L F G ws log) (k : Nat) (hA : A k) : k < w.heap.size := by
  rcases (h.foot k).1 hA with rfl | e | e
  · obtain ⟨_, _, _, _, _, _, _, hb⟩ := h.head
    exact lt_of_block hb
  · exact h.mem.lt k e
  · exact (h.gf k e).2
theorem SP.keep (h : SP w A c b mb L F G ws log) {S : Nat → Prop} (hk : Keep S w w') (hn : ∀ k, A k → ¬ S k) : SP w' A c b mb L F G ws log := by
  obtain ⟨x2, x3, x4, x5, x6, x7, x8, hb⟩ := h.head
  exact ⟨⟨x2, x3, x4, x5, x6, x7, x8, hk.at hb (hn b ((h.foot b).2 (.inl rfl)))⟩, h.mem.keep hk (fun k hF => hn k ((h.foot k).2 (.inr (.inl hF)))), h.lay.keep hk (fun k hG => hn k ((h.foot k).2 (.inr (.inr hG)))), h.foot, h.nF, h.nG, fun k hG => ⟨(h.gf k hG).1, by have := (h.gf k hG).2; have := hk.size; omega⟩, h.more.keep hk (fun k e => hn k (e.elim (fun e => (h.foot k).2 (.inl e)) (fun e => (h.foot k).2 (.inr (.inr e)))))⟩
theorem SP.quiet (h : SP w A c b mb L F G ws log) (hk : Keep Nil w w') : SP w' A c b mb L F G ws log := h.keep hk (fun _ _ h => h)
/-- A store as a way of lying. -/
def StoreL (c : Cfg) (b mb : Nat) : Lies (List Int × List Acc) where
  lie w A x := ∃ L F G, SP w A c b mb L F G x.1 x.2
  keep := fun ⟨L, F, G, h⟩ hk hn => ⟨L, F, G, h.keep hk hn⟩
  lt := fun ⟨_, _, _, h⟩ k hA => h.lt k hA
/-- A call of the memory. -/
theorem SP.turn (h : SP w A c b mb L F G ws log) {W : World} (hq : Keep Nil w W) (hm : MemTo W mb F ws' log' w') : (StoreL c b mb).To w A (ws', log') w' := by
  obtain ⟨F', hm', hk, hf⟩ := hm
  have hQ := h.quiet hq
  obtain ⟨x2, x3, x4, x5, x6, x7, x8, hb⟩ := hQ.head
  have hz := hq.size
  refine ⟨fun k => k = b ∨ F' k ∨ G k, ⟨L, F', G, ⟨x2, x3, x4, x5, x6, x7, x8, hk.at hb h.nF⟩, hm', hQ.lay.keep hk (fun k hG => (h.gf k hG).1), fun _ => Iff.rfl, fun e => ?_, h.nG, fun k hG => ⟨fun e => ?_, by have := (hQ.gf k hG).2; have := hk.size; omega⟩, hQ.more.keep hk (fun k e => e.elim (fun e => e ▸ h.nF) (fun hG => (h.gf k hG).1))⟩, hq.mono (T := A) (fun _ _ h => h.elim) |>.trans hk (fun k _ e => (h.foot k).2 (.inr (.inl e))), fun k hk' => ?_⟩
  · rcases hf b e with e | e
    · exact h.nF e
    · have := lt_of_block hb; omega
  · rcases hf k e with e | e
    · exact (h.gf k hG).1 e
    · have := (hQ.gf k hG).2; omega
  · rcases hk' with e | e | e
    · exact .inl ((h.foot k).2 (.inl e))
    · rcases hf k e with e | e
      · exact .inl ((h.foot k).2 (.inr (.inl e)))
      · exact .inr (by omega)
    · exact .inl ((h.foot k).2 (.inr (.inr e)))
theorem SP.same (h : SP w A c b mb L F G ws log) (hq : Keep Nil w w') : (StoreL c b mb).To w A (ws, log) w' :=
  ⟨A, ⟨L, F, G, h.quiet hq⟩, hq.mono (fun _ _ h => h.elim), fun _ h => .inl h⟩
/-- A configuration is returned. -/
def CfgTo (w : World) (c : Cfg) (e : Ending) (w' : World) : Prop :=
  ∃ (t1 t2 t3 t4 t5 t6 : Nat) (a : Option Addr) (cp : Nat), e = .returned (cfgV c t1 t2 t3 t4 t5 t6 a cp) ∧ Keep Nil w w'
theorem infoCfg : (Tryz.prog.info? 42).map (·.size) = some 16 := by kernel_rfl
theorem fldc (c : Cfg) (t1 t2 t3 t4 t5 t6 : Nat) (a : Option Addr) (cp : Nat) (W : World) : (Instr.field 42 (cfgV c t1 t2 t3 t4 t5 t6 a cp) 1).run Tryz.prog W = .ok (.int .i64 c.sl) W := by kernel_rfl
theorem fldl (c : Cfg) (t1 t2 t3 t4 t5 t6 : Nat) (a : Option Addr) (cp : Nat) (W : World) : (Instr.field 42 (cfgV c t1 t2 t3 t4 t5 t6 a cp) 6).run Tryz.prog W = .ok (.int .i64 c.lk) W := by kernel_rfl
theorem set16 {W : World} {b : Nat} {t : TypeId} {z0 z1 z2 z3 z4 z5 z6 z7 z8 z9 z10 z11 z12 z13 z14 z15 : Value} (x0 x1 x2 x3 x4 x5 x6 x7 x8 x9 x10 x11 x12 x13 x14 x15 : Value) (h : W.heap[b]? = some (.cells #[z0, z1, z2, z3, z4, z5, z6, z7, z8, z9, z10, z11, z12, z13, z14, z15] t (0, 0))) : ((((((((((((((((W.setCell ⟨b, 0, none⟩ x0).setCell ⟨b, 1, none⟩ x1).setCell ⟨b, 2, none⟩ x2).setCell ⟨b, 3, none⟩ x3).setCell ⟨b, 4, none⟩ x4).setCell ⟨b, 5, none⟩ x5).setCell ⟨b, 6, none⟩ x6).setCell ⟨b, 7, none⟩ x7).setCell ⟨b, 8, none⟩ x8).setCell ⟨b, 9, none⟩ x9).setCell ⟨b, 10, none⟩ x10).setCell ⟨b, 11, none⟩ x11).setCell ⟨b, 12, none⟩ x12).setCell ⟨b, 13, none⟩ x13).setCell ⟨b, 14, none⟩ x14).setCell ⟨b, 15, none⟩ x15).heap[b]? = some (.cells #[x0, x1, x2, x3, x4, x5, x6, x7, x8, x9, x10, x11, x12, x13, x14, x15] t (0, 0)) := by
  have h0 : (W.setCell ⟨b, 0, none⟩ x0).heap[b]? = some (.cells #[x0, z1, z2, z3, z4, z5, z6, z7, z8, z9, z10, z11, z12, z13, z14, z15] t (0, 0)) := set_same h _
  have h1 : ((W.setCell ⟨b, 0, none⟩ x0).setCell ⟨b, 1, none⟩ x1).heap[b]? = some (.cells #[x0, x1, z2, z3, z4, z5, z6, z7, z8, z9, z10, z11, z12, z13, z14, z15] t (0, 0)) := set_same h0 _
  have h2 : (((W.setCell ⟨b, 0, none⟩ x0).setCell ⟨b, 1, none⟩ x1).setCell ⟨b, 2, none⟩ x2).heap[b]? = some (.cells #[x0, x1, x2, z3, z4, z5, z6, z7, z8, z9, z10, z11, z12, z13, z14, z15] t (0, 0)) := set_same h1 _
  have h3 : ((((W.setCell ⟨b, 0, none⟩ x0).setCell ⟨b, 1, none⟩ x1).setCell ⟨b, 2, none⟩ x2).setCell ⟨b, 3, none⟩ x3).heap[b]? = some (.cells #[x0, x1, x2, x3, z4, z5, z6, z7, z8, z9, z10, z11, z12, z13, z14, z15] t (0, 0)) := set_same h2 _
  have h4 : (((((W.setCell ⟨b, 0, none⟩ x0).setCell ⟨b, 1, none⟩ x1).setCell ⟨b, 2, none⟩ x2).setCell ⟨b, 3, none⟩ x3).setCell ⟨b, 4, none⟩ x4).heap[b]? = some (.cells #[x0, x1, x2, x3, x4, z5, z6, z7, z8, z9, z10, z11, z12, z13, z14, z15] t (0, 0)) := set_same h3 _
  have h5 : ((((((W.setCell ⟨b, 0, none⟩ x0).setCell ⟨b, 1, none⟩ x1).setCell ⟨b, 2, none⟩ x2).setCell ⟨b, 3, none⟩ x3).setCell ⟨b, 4, none⟩ x4).setCell ⟨b, 5, none⟩ x5).heap[b]? = some (.cells #[x0, x1, x2, x3, x4, x5, z6, z7, z8, z9, z10, z11, z12, z13, z14, z15] t (0, 0)) := set_same h4 _
  have h6 : (((((((W.setCell ⟨b, 0, none⟩ x0).setCell ⟨b, 1, none⟩ x1).setCell ⟨b, 2, none⟩ x2).setCell ⟨b, 3, none⟩ x3).setCell ⟨b, 4, none⟩ x4).setCell ⟨b, 5, none⟩ x5).setCell ⟨b, 6, none⟩ x6).heap[b]? = some (.cells #[x0, x1, x2, x3, x4, x5, x6, z7, z8, z9, z10, z11, z12, z13, z14, z15] t (0, 0)) := set_same h5 _
  have h7 : ((((((((W.setCell ⟨b, 0, none⟩ x0).setCell ⟨b, 1, none⟩ x1).setCell ⟨b, 2, none⟩ x2).setCell ⟨b, 3, none⟩ x3).setCell ⟨b, 4, none⟩ x4).setCell ⟨b, 5, none⟩ x5).setCell ⟨b, 6, none⟩ x6).setCell ⟨b, 7, none⟩ x7).heap[b]? = some (.cells #[x0, x1, x2, x3, x4, x5, x6, x7, z8, z9, z10, z11, z12, z13, z14, z15] t (0, 0)) := set_same h6 _
  have h8 : (((((((((W.setCell ⟨b, 0, none⟩ x0).setCell ⟨b, 1, none⟩ x1).setCell ⟨b, 2, none⟩ x2).setCell ⟨b, 3, none⟩ x3).setCell ⟨b, 4, none⟩ x4).setCell ⟨b, 5, none⟩ x5).setCell ⟨b, 6, none⟩ x6).setCell ⟨b, 7, none⟩ x7).setCell ⟨b, 8, none⟩ x8).heap[b]? = some (.cells #[x0, x1, x2, x3, x4, x5, x6, x7, x8, z9, z10, z11, z12, z13, z14, z15] t (0, 0)) := set_same h7 _
  have h9 : ((((((((((W.setCell ⟨b, 0, none⟩ x0).setCell ⟨b, 1, none⟩ x1).setCell ⟨b, 2, none⟩ x2).setCell ⟨b, 3, none⟩ x3).setCell ⟨b, 4, none⟩ x4).setCell ⟨b, 5, none⟩ x5).setCell ⟨b, 6, none⟩ x6).setCell ⟨b, 7, none⟩ x7).setCell ⟨b, 8, none⟩ x8).setCell ⟨b, 9, none⟩ x9).heap[b]? = some (.cells #[x0, x1, x2, x3, x4, x5, x6, x7, x8, x9, z10, z11, z12, z13, z14, z15] t (0, 0)) := set_same h8 _
  have h10 : (((((((((((W.setCell ⟨b, 0, none⟩ x0).setCell ⟨b, 1, none⟩ x1).setCell ⟨b, 2, none⟩ x2).setCell ⟨b, 3, none⟩ x3).setCell ⟨b, 4, none⟩ x4).setCell ⟨b, 5, none⟩ x5).setCell ⟨b, 6, none⟩ x6).setCell ⟨b, 7, none⟩ x7).setCell ⟨b, 8, none⟩ x8).setCell ⟨b, 9, none⟩ x9).setCell ⟨b, 10, none⟩ x10).heap[b]? = some (.cells #[x0, x1, x2, x3, x4, x5, x6, x7, x8, x9, x10, z11, z12, z13, z14, z15] t (0, 0)) := set_same h9 _
  have h11 : ((((((((((((W.setCell ⟨b, 0, none⟩ x0).setCell ⟨b, 1, none⟩ x1).setCell ⟨b, 2, none⟩ x2).setCell ⟨b, 3, none⟩ x3).setCell ⟨b, 4, none⟩ x4).setCell ⟨b, 5, none⟩ x5).setCell ⟨b, 6, none⟩ x6).setCell ⟨b, 7, none⟩ x7).setCell ⟨b, 8, none⟩ x8).setCell ⟨b, 9, none⟩ x9).setCell ⟨b, 10, none⟩ x10).setCell ⟨b, 11, none⟩ x11).heap[b]? = some (.cells #[x0, x1, x2, x3, x4, x5, x6, x7, x8, x9, x10, x11, z12, z13, z14, z15] t (0, 0)) := set_same h10 _
  have h12 : (((((((((((((W.setCell ⟨b, 0, none⟩ x0).setCell ⟨b, 1, none⟩ x1).setCell ⟨b, 2, none⟩ x2).setCell ⟨b, 3, none⟩ x3).setCell ⟨b, 4, none⟩ x4).setCell ⟨b, 5, none⟩ x5).setCell ⟨b, 6, none⟩ x6).setCell ⟨b, 7, none⟩ x7).setCell ⟨b, 8, none⟩ x8).setCell ⟨b, 9, none⟩ x9).setCell ⟨b, 10, none⟩ x10).setCell ⟨b, 11, none⟩ x11).setCell ⟨b, 12, none⟩ x12).heap[b]? = some (.cells #[x0, x1, x2, x3, x4, x5, x6, x7, x8, x9, x10, x11, x12, z13, z14, z15] t (0, 0)) := set_same h11 _
  have h13 : ((((((((((((((W.setCell ⟨b, 0, none⟩ x0).setCell ⟨b, 1, none⟩ x1).setCell ⟨b, 2, none⟩ x2).setCell ⟨b, 3, none⟩ x3).setCell ⟨b, 4, none⟩ x4).setCell ⟨b, 5, none⟩ x5).setCell ⟨b, 6, none⟩ x6).setCell ⟨b, 7, none⟩ x7).setCell ⟨b, 8, none⟩ x8).setCell ⟨b, 9, none⟩ x9).setCell ⟨b, 10, none⟩ x10).setCell ⟨b, 11, none⟩ x11).setCell ⟨b, 12, none⟩ x12).setCell ⟨b, 13, none⟩ x13).heap[b]? = some (.cells #[x0, x1, x2, x3, x4, x5, x6, x7, x8, x9, x10, x11, x12, x13, z14, z15] t (0, 0)) := set_same h12 _
  have h14 : (((((((((((((((W.setCell ⟨b, 0, none⟩ x0).setCell ⟨b, 1, none⟩ x1).setCell ⟨b, 2, none⟩ x2).setCell ⟨b, 3, none⟩ x3).setCell ⟨b, 4, none⟩ x4).setCell ⟨b, 5, none⟩ x5).setCell ⟨b, 6, none⟩ x6).setCell ⟨b, 7, none⟩ x7).setCell ⟨b, 8, none⟩ x8).setCell ⟨b, 9, none⟩ x9).setCell ⟨b, 10, none⟩ x10).setCell ⟨b, 11, none⟩ x11).setCell ⟨b, 12, none⟩ x12).setCell ⟨b, 13, none⟩ x13).setCell ⟨b, 14, none⟩ x14).heap[b]? = some (.cells #[x0, x1, x2, x3, x4, x5, x6, x7, x8, x9, x10, x11, x12, x13, x14, z15] t (0, 0)) := set_same h13 _
  have h15 : ((((((((((((((((W.setCell ⟨b, 0, none⟩ x0).setCell ⟨b, 1, none⟩ x1).setCell ⟨b, 2, none⟩ x2).setCell ⟨b, 3, none⟩ x3).setCell ⟨b, 4, none⟩ x4).setCell ⟨b, 5, none⟩ x5).setCell ⟨b, 6, none⟩ x6).setCell ⟨b, 7, none⟩ x7).setCell ⟨b, 8, none⟩ x8).setCell ⟨b, 9, none⟩ x9).setCell ⟨b, 10, none⟩ x10).setCell ⟨b, 11, none⟩ x11).setCell ⟨b, 12, none⟩ x12).setCell ⟨b, 13, none⟩ x13).setCell ⟨b, 14, none⟩ x14).setCell ⟨b, 15, none⟩ x15).heap[b]? = some (.cells #[x0, x1, x2, x3, x4, x5, x6, x7, x8, x9, x10, x11, x12, x13, x14, x15] t (0, 0)) := set_same h14 _
  exact h15
theorem keep16 {a W : World} {S : Nat → Prop} {b : Nat} (x0 x1 x2 x3 x4 x5 x6 x7 x8 x9 x10 x11 x12 x13 x14 x15 : Value) (h : Keep S a W) (hb : S b ∨ a.heap.size ≤ b) : Keep S a ((((((((((((((((W.setCell ⟨b, 0, none⟩ x0).setCell ⟨b, 1, none⟩ x1).setCell ⟨b, 2, none⟩ x2).setCell ⟨b, 3, none⟩ x3).setCell ⟨b, 4, none⟩ x4).setCell ⟨b, 5, none⟩ x5).setCell ⟨b, 6, none⟩ x6).setCell ⟨b, 7, none⟩ x7).setCell ⟨b, 8, none⟩ x8).setCell ⟨b, 9, none⟩ x9).setCell ⟨b, 10, none⟩ x10).setCell ⟨b, 11, none⟩ x11).setCell ⟨b, 12, none⟩ x12).setCell ⟨b, 13, none⟩ x13).setCell ⟨b, 14, none⟩ x14).setCell ⟨b, 15, none⟩ x15) := by
  repeat refine Keep.setCell ?_ hb _
  exact h
theorem bx16 {W : World} {cb : Nat} {x0 x1 x2 x3 x4 x5 x6 x7 x8 x9 x10 x11 x12 x13 x14 x15 : Value} {t : TypeId} (h : W.heap[cb]? = some (.cells #[x0, x1, x2, x3, x4, x5, x6, x7, x8, x9, x10, x11, x12, x13, x14, x15] t (0, 0))) : W.cell? ⟨cb, 0, none⟩ = some x0 ∧ W.cell? ⟨cb, 1, none⟩ = some x1 ∧ W.cell? ⟨cb, 2, none⟩ = some x2 ∧ W.cell? ⟨cb, 3, none⟩ = some x3 ∧ W.cell? ⟨cb, 4, none⟩ = some x4 ∧ W.cell? ⟨cb, 5, none⟩ = some x5 ∧ W.cell? ⟨cb, 6, none⟩ = some x6 ∧ W.cell? ⟨cb, 7, none⟩ = some x7 ∧ W.cell? ⟨cb, 8, none⟩ = some x8 ∧ W.cell? ⟨cb, 9, none⟩ = some x9 ∧ W.cell? ⟨cb, 10, none⟩ = some x10 ∧ W.cell? ⟨cb, 11, none⟩ = some x11 ∧ W.cell? ⟨cb, 12, none⟩ = some x12 ∧ W.cell? ⟨cb, 13, none⟩ = some x13 ∧ W.cell? ⟨cb, 14, none⟩ = some x14 ∧ W.cell? ⟨cb, 15, none⟩ = some x15 := by
  refine ⟨?_, ?_, ?_, ?_, ?_, ?_, ?_, ?_, ?_, ?_, ?_, ?_, ?_, ?_, ?_, ?_⟩ <;> (rw [cell_of h]; rfl)
set_option maxRecDepth 100000 in
set_option maxHeartbeats 4000000 in
theorem layconfig_ok (h : LayAt w L c) (hok : c.ok) : Calls Tryz.prog 114 #[.pointer (some ⟨L, 0, none⟩)] w (CfgTo w c) := by
  obtain ⟨t1, t2, t3, t4, t5, t6, a, cp, g, ha, hc, ta, tc, e, ho, r1, r2, r3⟩ := h.obj
  have HM := hid (show c.d.cuts.length ≤ 1000000 by
    rcases hok.d with ⟨_, _, h⟩ | ⟨_, _, h⟩ | ⟨_, _, h, _⟩
    · rw [h]; decide
    · rw [h]; decide
    · omega)
  have q0 : w.cell? ⟨L, 0, none⟩ = some (.int .i64 c.th) := by rw [cell_of ho]; rfl
  have q1 : w.cell? ⟨L, 1, none⟩ = some (.int .i64 (c.sl : Int)) := by rw [cell_of ho]; rfl
  have q2 : w.cell? ⟨L, 2, none⟩ = some (.int .u8 c.eng) := by rw [cell_of ho]; rfl
  have q3 : w.cell? ⟨L, 3, none⟩ = some (.int .i64 (c.bk : Int)) := by rw [cell_of ho]; rfl
  have q4 : w.cell? ⟨L, 4, none⟩ = some (.int .u8 c.d.k) := by rw [cell_of ho]; rfl
  have q5 : w.cell? ⟨L, 5, none⟩ = some (.int .i64 c.d.n) := by rw [cell_of ho]; rfl
  have q6 : w.cell? ⟨L, 6, none⟩ = some (.slice a c.d.cuts.length cp) := by rw [cell_of ho]; rfl
  have q7 : w.cell? ⟨L, 7, none⟩ = some (.int .i64 (t1 : Int)) := by rw [cell_of ho]; rfl
  have q8 : w.cell? ⟨L, 8, none⟩ = some (.int .i64 (t2 : Int)) := by rw [cell_of ho]; rfl
  have q9 : w.cell? ⟨L, 9, none⟩ = some (.int .i64 (t3 : Int)) := by rw [cell_of ho]; rfl
  have q10 : w.cell? ⟨L, 10, none⟩ = some (.int .i64 (t4 : Int)) := by rw [cell_of ho]; rfl
  have q11 : w.cell? ⟨L, 11, none⟩ = some (.int .i64 (t5 : Int)) := by rw [cell_of ho]; rfl
  have q12 : w.cell? ⟨L, 12, none⟩ = some (.int .i64 (t6 : Int)) := by rw [cell_of ho]; rfl
  have q13 : w.cell? ⟨L, 13, none⟩ = some (.int .i64 (c.lk : Int)) := by rw [cell_of ho]; rfl
  have q14 : w.cell? ⟨L, 14, none⟩ = some (.int .i64 c.tr) := by rw [cell_of ho]; rfl
  have q15 : w.cell? ⟨L, 15, none⟩ = some (.int .i64 c.ba) := by rw [cell_of ho]; rfl
  have hLz : L < w.heap.size := lt_of_block ho
  have R1 := hid r1
  clear ho r1 r2 r3 h e hok
  go_enter Tryz.func114, Tryz.ntmps114
  go_wp2_with fail
  refine (clone_ok c.d.cuts a cp (rd_keep R1.out (((Keep.refl Nil w).alloc _).alloc _) (fun _ _ h => h)) HM.out).mono ?_
  rintro e w2 ⟨a2, cp2, rfl, -, hk2, -⟩
  have hb1 := hk2.at (alloc_old (heap_alloc_new w _) _) (fun h => h)
  have hb2 := hk2.at (heap_alloc_new (w.alloc _) _) (fun h => h)
  rw [World.size_alloc] at hb2
  have hz1 : w.heap.size < w2.heap.size := lt_of_block hb1
  have hz2 : w.heap.size + 1 < w2.heap.size := lt_of_block hb2
  obtain ⟨b0, b1, b2, b3, b4, b5, b6, b7, b8, b9, b10, b11, b12, b13, b14, b15⟩ := bx16 hb2
  obtain ⟨z0, z1, z2, z3, z4, z5, z6, z7, z8, z9, z10, z11, z12, z13, z14, z15⟩ := bx16 hb1
  have f1 : ∀ i, w2.frozen? ⟨w.heap.size, i, none⟩ = false := fun i => free_of hb1 i
  have f2 : ∀ i, w2.frozen? ⟨w.heap.size + 1, i, none⟩ = false := fun i => free_of hb2 i
  have HK2 := hid (show Keep Nil w w2 from (((Keep.refl Nil w).alloc _).alloc _).trans hk2 (fun _ _ h => h))
  have HB1 := hid hb1
  have hne : w.heap.size ≠ w.heap.size + 1 := by omega
  have hne2 : w.heap.size + 1 ≠ w.heap.size := by omega
  clear hk2 hb1 hb2
  go_wp2
  have h0 : (w2.setCell ⟨w.heap.size + 1, 6, none⟩ (.slice a2 c.d.cuts.length cp2)).heap[w.heap.size]? = _ := set_other HB1.out hne (.slice a2 c.d.cuts.length cp2)
  refine bodyPost_ret (results_cell_row rfl _ _ w.heap.size _ _ (0, 0) _ rfl (set16 _ _ _ _ _ _ _ _ _ _ _ _ _ _ _ _ h0) Tryz.underlying42 rfl infoCfg) rfl ⟨t1, t2, t3, t4, t5, t6, a2, cp2, rfl, ?_⟩
  exact keep16 _ _ _ _ _ _ _ _ _ _ _ _ _ _ _ _ (HK2.out.setCell (.inr (Nat.le_succ _)) _) (.inr (Nat.le_refl _))
set_option maxRecDepth 100000 in
set_option maxHeartbeats 4000000 in
theorem bconfig_ok (h : SP w A c b mb L F G ws log) (hok : c.ok) : Calls Tryz.prog 58 #[.pointer (some ⟨b, 0, none⟩)] w (CfgTo w c) := by
  obtain ⟨x2, x3, x4, x5, x6, x7, x8, hb⟩ := h.head
  have c0 : w.cell? ⟨b, 0, none⟩ = some (.pointer (some ⟨L, 0, none⟩)) := by rw [cell_of hb]; rfl
  have hz : b < w.heap.size := lt_of_block hb
  have HL := hid h.lay.at_
  have HOK := hid hok
  clear h hb hok
  go_enter Tryz.func58, Tryz.ntmps58
  go_wp2_with fail
  refine (layconfig_ok (HL.out.keep ((Keep.refl Nil w).alloc _)) HOK.out).mono ?_
  rintro e w2 ⟨t1, t2, t3, t4, t5, t6, a2, cp2, rfl, hk2⟩
  have hb1 := hk2.at (heap_alloc_new w _) (fun h => h)
  have hz1 : w.heap.size < w2.heap.size := lt_of_block hb1
  obtain ⟨z0, z1, z2, z3, z4, z5, z6, z7, z8, z9, z10, z11, z12, z13, z14, z15⟩ := bx16 hb1
  have f1 : ∀ i, w2.frozen? ⟨w.heap.size, i, none⟩ = false := fun i => free_of hb1 i
  have HK2 := hid (show Keep Nil w w2 from ((Keep.refl Nil w).alloc _).trans hk2 (fun _ _ h => h))
  have HB1 := hid hb1
  clear hk2 hb1
  unfold cfgV
  go_wp2
  have h0 := HB1.out
  refine bodyPost_ret (results_cell_row rfl _ _ w.heap.size _ _ (0, 0) _ rfl (set16 _ _ _ _ _ _ _ _ _ _ _ _ _ _ _ _ h0) Tryz.underlying42 rfl infoCfg) rfl ⟨t1, t2, t3, t4, t5, t6, a2, cp2, rfl, ?_⟩
  exact keep16 _ _ _ _ _ _ _ _ _ _ _ _ _ _ _ _ HK2.out (.inr (Nat.le_refl _))
set_option maxHeartbeats 4000000 in
theorem blayout_ok (h : SP w A c b mb L F G ws log) : Calls Tryz.prog 17 #[.pointer (some ⟨b, 0, none⟩)] w fun e w' => e = .returned (.pointer (some ⟨L, 0, none⟩)) ∧ w = w' := by
  obtain ⟨x2, x3, x4, x5, x6, x7, x8, hb⟩ := h.head
  have c0 : w.cell? ⟨b, 0, none⟩ = some (.pointer (some ⟨L, 0, none⟩)) := by rw [cell_of hb]; rfl
  clear h hb
  go_enter Tryz.func17, Tryz.ntmps17
  go_wp2
  go_ret
  exact ⟨rfl, rfl⟩
set_option maxHeartbeats 4000000 in
theorem bmem_ok (h : SP w A c b mb L F G ws log) : Calls Tryz.prog 19 #[.pointer (some ⟨b, 0, none⟩)] w fun e w' => e = .returned (.pointer (some ⟨mb, 0, none⟩)) ∧ w = w' := by
  obtain ⟨x2, x3, x4, x5, x6, x7, x8, hb⟩ := h.head
  have c0 : w.cell? ⟨b, 1, none⟩ = some (.pointer (some ⟨mb, 0, none⟩)) := by rw [cell_of hb]; rfl
  clear h hb
  go_enter Tryz.func19, Tryz.ntmps19
  go_wp2
  go_ret
  exact ⟨rfl, rfl⟩
end
end Go.Proofs.YtjghenomeindcaaGreat
