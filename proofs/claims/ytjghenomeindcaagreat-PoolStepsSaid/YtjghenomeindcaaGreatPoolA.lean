/- The pools of a store: where they lie; load, link, swap. -/
import Derived.Test.YtjghenomeindcaaGreatPoolC
import Derived.Test.YtjghenomeindcaaGreatPoolNew
import Derived.Test.YtjghenomeindcaaGreatLayNewA
import Derived.Test.YtjghenomeindcaaGreatIMap
import Derived.Test.YtjghenomeindcaaGreatFnMap
set_option linter.unusedVariables false
set_option linter.unusedSimpArgs false
namespace Go.Proofs.YtjghenomeindcaaGreat
open Go.RowKit Go.Lf
/-- The map of the towers that are out. -/
def OutAt (w : World) (ob : Nat) (out : Int → Option Bool) : Prop := ∃ l, IMap .i64 w ob l ∧ (mkeys l).Nodup ∧ ∀ k, mlook l k = (out k).map Value.bool
def intsI (l : List Int) : List Value := l.map (Value.int .i64)
structure PA (w : World) (A : Nat → Prop) (c : Cfg) (pb mb L ob gb : Nat) (F G : Nat → Prop) (s : PSt) : Prop where
  head : w.heap[pb]? = some (.cells #[.pointer (some ⟨mb, 0, none⟩), .pointer (some ⟨L, 0, none⟩), .int .i64 c.pools, .int .i64 c.links, .map (some ob), .slice (some ⟨gb, 0, none⟩) c.nT c.nT] 180 (0, 0))
  mem : MemAt w mb F s.ws s.log
  lay : LayOn w L c G
  out : OutAt w ob s.out
  gens : w.heap[gb]? = some (.cells (intsI s.gens).toArray 3 (0, 0))
  gl : s.gens.length = c.nT
  foot : ∀ k, A k ↔ k = pb ∨ k = ob ∨ k = gb ∨ F k ∨ G k
  po : pb ≠ ob
  pg : pb ≠ gb
  og : ob ≠ gb
  nF : ¬ F pb ∧ ¬ F ob ∧ ¬ F gb
  nG : ¬ G pb ∧ ¬ G ob ∧ ¬ G gb
  gf : ∀ k, G k → ¬ F k ∧ k < w.heap.size
theorem OutAt.keep {w w' : World} {ob : Nat} {out : Int → Option Bool} {S : Nat → Prop} (h : OutAt w ob out) (hk : Keep S w w') (hn : ¬ S ob) : OutAt w' ob out := by
  obtain ⟨l, h1, h2⟩ := h
  exact ⟨l, h1.keep hk hn, h2⟩
theorem OutAt.lt {w : World} {ob : Nat} {out : Int → Option Bool} (h : OutAt w ob out) : ob < w.heap.size := by
  obtain ⟨l, h1, h2⟩ := h
  exact h1.lt
section
variable {w w1 w2 w' : World} {A : Nat → Prop} {c : Cfg} {pb mb L ob gb tb m : Nat} {F G : Nat → Prop} {s s' : PSt} {ws' : List Int} {log' : List Acc} {o o' : PO}
theorem PA.lt (h : PA w A c pb mb L ob gb F G s) (k : Nat) (hA : A k) : k < w.heap.size := by
  rcases (h.foot k).1 hA with rfl | rfl | rfl | e | e
  · exact lt_of_block h.head
  · exact h.out.lt
  · exact lt_of_block h.gens
  · exact h.mem.lt k e
  · exact (h.gf k e).2
theorem PA.keep (h : PA w A c pb mb L ob gb F G s) {S : Nat → Prop} (hk : Keep S w w') (hn : ∀ k, A k → ¬ S k) : PA w' A c pb mb L ob gb F G s :=
  ⟨hk.at h.head (hn pb ((h.foot pb).2 (.inl rfl))), h.mem.keep hk (fun k hF => hn k ((h.foot k).2 (.inr (.inr (.inr (.inl hF)))))), h.lay.keep hk (fun k hG => hn k ((h.foot k).2 (.inr (.inr (.inr (.inr hG)))))), h.out.keep hk (hn ob ((h.foot ob).2 (.inr (.inl rfl)))), hk.at h.gens (hn gb ((h.foot gb).2 (.inr (.inr (.inl rfl))))), h.gl, h.foot, h.po, h.pg, h.og, h.nF, h.nG, fun k hG => ⟨(h.gf k hG).1, by have := (h.gf k hG).2; have := hk.size; omega⟩⟩
theorem PA.quiet (h : PA w A c pb mb L ob gb F G s) (hk : Keep Nil w w') : PA w' A c pb mb L ob gb F G s := h.keep hk (fun _ _ h => h)
/-- The pools as a way of lying. -/
def PoolL (c : Cfg) (pb mb L : Nat) : Lies PSt where
  lie w A s := ∃ ob gb F G, PA w A c pb mb L ob gb F G s
  keep := fun ⟨ob, gb, F, G, h⟩ hk hn => ⟨ob, gb, F, G, h.keep hk hn⟩
  lt := fun ⟨_, _, _, _, h⟩ k hA => h.lt k hA
/-- A call of the memory. -/
theorem PA.turn (h : PA w A c pb mb L ob gb F G s) {W : World} (hq : Keep Nil w W) (hm : MemTo W mb F ws' log' w') :
    ∃ A' F', PA w' A' c pb mb L ob gb F' G { s with ws := ws', log := log' } ∧ Keep F w w' ∧ Foot w A A' := by
  obtain ⟨F', hm', hk, hf⟩ := hm
  have hQ := h.quiet hq
  have hz := hq.size
  have hb := hQ.head
  have nf : ∀ k, ¬ F k → k < W.heap.size → ¬ F' k := fun k hn hl e => (hf k e).elim hn (fun e => by omega)
  refine ⟨fun k => k = pb ∨ k = ob ∨ k = gb ∨ F' k ∨ G k, F', ⟨hk.at hb h.nF.1, hm', hQ.lay.keep hk (fun k hG => (h.gf k hG).1), hQ.out.keep hk h.nF.2.1, hk.at hQ.gens h.nF.2.2, h.gl, fun _ => Iff.rfl, h.po, h.pg, h.og, ⟨nf _ h.nF.1 (lt_of_block hb), nf _ h.nF.2.1 hQ.out.lt, nf _ h.nF.2.2 (lt_of_block hQ.gens)⟩, h.nG, fun k hG => ⟨nf k (h.gf k hG).1 (hQ.gf k hG).2, by have := (hQ.gf k hG).2; have := hk.size; omega⟩⟩, (hq.mono (T := F) (fun _ _ h => h.elim)).trans hk (fun _ _ h => h), fun k hk' => ?_⟩
  rcases hk' with e | e | e | e | e
  · exact .inl ((h.foot k).2 (.inl e))
  · exact .inl ((h.foot k).2 (.inr (.inl e)))
  · exact .inl ((h.foot k).2 (.inr (.inr (.inl e))))
  · rcases hf k e with e | e
    · exact .inl ((h.foot k).2 (.inr (.inr (.inr (.inl e)))))
    · exact .inr (by omega)
  · exact .inl ((h.foot k).2 (.inr (.inr (.inr (.inr e)))))
/-- The map of the towers that are out has turned. -/
theorem PA.outs (h : PA w A c pb mb L ob gb F G s) {out' : Int → Option Bool} (hk : Keep (fun k => k = ob) w w') (ho : OutAt w' ob out') : PA w' A c pb mb L ob gb F G { s with out := out' } :=
  ⟨hk.at h.head h.po, h.mem.keep hk (fun k hF e => h.nF.2.1 (e ▸ hF)), h.lay.keep hk (fun k hG e => h.nG.2.1 (e ▸ hG)), ho, hk.at h.gens (Ne.symm h.og), h.gl, h.foot, h.po, h.pg, h.og, h.nF, h.nG, fun k hG => ⟨(h.gf k hG).1, by have := (h.gf k hG).2; have := hk.size; omega⟩⟩
/-- A generation has turned. -/
theorem PA.setG (h : PA w A c pb mb L ob gb F G s) (i : Nat) (v : Int) : PA (w.setCell ⟨gb, i, none⟩ (.int .i64 v)) A c pb mb L ob gb F G { s with gens := s.gens.set i v } := by
  have hk : Keep (fun k => k = gb) w (w.setCell ⟨gb, i, none⟩ (.int .i64 v)) := (Keep.refl (fun k => k = gb) w).setCell (.inl rfl) _
  refine ⟨hk.at h.head h.pg, h.mem.keep hk (fun k hF e => h.nF.2.2 (e ▸ hF)), h.lay.keep hk (fun k hG e => h.nG.2.2 (e ▸ hG)), h.out.keep hk h.og, ?_, by rw [List.length_set]; exact h.gl, h.foot, h.po, h.pg, h.og, h.nF, h.nG, fun k hG => ⟨(h.gf k hG).1, by have := (h.gf k hG).2; have := hk.size; omega⟩⟩
  rw [set_same h.gens]
  simp [intsI]
theorem PA.cells (h : PA w A c pb mb L ob gb F G s) : w.cell? ⟨pb, 0, none⟩ = some (.pointer (some ⟨mb, 0, none⟩)) ∧ w.cell? ⟨pb, 1, none⟩ = some (.pointer (some ⟨L, 0, none⟩)) ∧ w.cell? ⟨pb, 2, none⟩ = some (.int .i64 c.pools) ∧ w.cell? ⟨pb, 3, none⟩ = some (.int .i64 c.links) ∧ w.cell? ⟨pb, 4, none⟩ = some (.map (some ob)) ∧ w.cell? ⟨pb, 5, none⟩ = some (.slice (some ⟨gb, 0, none⟩) c.nT c.nT) := by
  refine ⟨?_, ?_, ?_, ?_, ?_, ?_⟩ <;> (rw [cell_of h.head]; rfl)
theorem words_bd {c : Cfg} (h : c.ok) : c.words ≤ 65536 := by
  obtain ⟨a1, a2, a3, a4, a5, a6, a7, a8, a9⟩ := plc_lt c
  have h1 := h.sl2
  have h2 := h.engW
  have h3 := h.lk2
  have h4 := h.nT
  have h5 := (Dom.cnt_pos h.d).2
  have h6 := h.tow
  omega
/-! Contracts. -/
set_option maxHeartbeats 2000000 in
theorem ftower_ok (x : Int) (h0 : 0 ≤ x) (h1 : x < 18446744073709551616) : Calls Tryz.prog 97 #[.int .u64 x] w fun e w' => e = .returned (.int .i64 (x % 65536)) ∧ w = w' := by
  have e1 : IntKind.i64.wrap (x.tmod 65536) = x % 65536 := by rw [Int.tmod_eq_emod_of_nonneg h0, IntKind.wrap_i64]; omega
  have e2 : IntKind.i64.wrap (x % 65536) = x % 65536 := by rw [IntKind.wrap_i64]; omega
  go_enter Tryz.func97, Tryz.ntmps97
  go_wp2
  go_ret
  exact ⟨rfl, rfl⟩
set_option maxHeartbeats 2000000 in
theorem ftag_ok (x : Int) (h0 : 0 ≤ x) (h1 : x < 18446744073709551616) : Calls Tryz.prog 152 #[.int .u64 x] w fun e w' => e = .returned (.int .u64 (x / 65536)) ∧ w = w' := by
  have e1 : x.tdiv 65536 = x / 65536 := by rw [Int.tdiv_eq_ediv_of_nonneg h0]
  have e2 : IntKind.u64.wrap (x / 65536) = x / 65536 := by rw [IntKind.wrap_u64]; omega
  go_enter Tryz.func152, Tryz.ntmps152
  go_wp2
  go_ret
  exact ⟨rfl, rfl⟩
set_option maxHeartbeats 2000000 in
theorem ftop_ok (g t : Int) (g0 : 0 ≤ g) (g1 : g ≤ 1099511627775) (t0 : 0 ≤ t) (t1 : t ≤ 1024) : Calls Tryz.prog 78 #[.int .u64 g, .int .i64 t] w fun e w' => e = .returned (.tuple #[.int .u64 (t + 65536 * g), .int .i64 0]) ∧ w = w' := top_ok g t g0 g1 t0 t1
theorem cs_ne {b i j k : Nat} {u v : Value} (h : w.cell? ⟨b, i, none⟩ = some v) (hne : k ≠ b ∨ j ≠ i) : (w.setCell ⟨k, j, none⟩ u).cell? ⟨b, i, none⟩ = some v := by
  rw [World.cell?_setCell_other w ⟨k, j, none⟩ ⟨b, i, none⟩ u (by intro e; simp only [Addr.mk.injEq] at e; omega)]
  exact h
/-- What a common part says. -/
structure Com (w : World) (tb pb : Nat) (th hd ow : Int) : Prop where
  c0 : w.cell? ⟨tb, 0, none⟩ = some (.pointer (some ⟨pb, 0, none⟩))
  c1 : w.cell? ⟨tb, 1, none⟩ = some (.int .i64 th)
  c3 : w.cell? ⟨tb, 3, none⟩ = some (.int .i64 hd)
  c4 : w.cell? ⟨tb, 4, none⟩ = some (.int .u64 ow)
  f4 : w.frozen? ⟨tb, 4, none⟩ = false
theorem Com.keep {th hd ow : Int} (h : Com w tb pb th hd ow) {S : Nat → Prop} (hk : Keep S w w') (hn : ¬ S tb) : Com w' tb pb th hd ow := by
  refine ⟨hk.cell h.c0 hn, hk.cell h.c1 hn, hk.cell h.c3 hn, hk.cell h.c4 hn, ?_⟩
  rw [← h.f4]
  exact World.frozen?_of_block (hk.block tb (World.block_lt_of_cell? w _ h.c0) hn)
set_option maxHeartbeats 4000000 in
theorem clink_ok (h : PA w A c pb mb L ob gb F G s) (hok : c.ok) {th hd ow : Int} (hc : Com w tb pb th hd ow) (x : Int) (x1 : 1 ≤ x) (x2 : x ≤ c.nT) : Calls Tryz.prog 129 #[.pointer (some ⟨tb, 0, none⟩), .int .i64 x] w fun e w' => e = .returned (.int .i64 ((c.links : Int) + x - 1)) ∧ w = w' := by
  obtain ⟨p0, p1, p2, p3, p4, p5⟩ := h.cells
  have c0 := hc.c0
  have hl := le_words c
  obtain ⟨-, -, -, -, -, q1, q2, q3, q4⟩ := plc_lt c
  have hw := words_bd hok
  have hn := hok.nT
  have a1 : IntKind.i64.wrap ((c.links : Int) + x) = (c.links : Int) + x := by rw [IntKind.wrap_i64]; omega
  have a2 : IntKind.i64.wrap ((c.links : Int) + x - 1) = (c.links : Int) + x - 1 := by rw [IntKind.wrap_i64]; omega
  clear h hc hl q1 q2 q3 q4 hw hn
  go_enter Tryz.func129, Tryz.ntmps129
  go_wp2
  go_ret
  exact ⟨rfl, rfl⟩
set_option maxRecDepth 100000 in
set_option maxHeartbeats 4000000 in
theorem cload_ok (h : PA w A c pb mb L ob gb F G s) {th hd ow : Int} (hc : Com w tb pb th hd ow) (nA : ¬ A tb) (t0 : 0 ≤ th) (t1 : th < 64) (h0 : 0 ≤ hd) (x : Int) (hx : s.ws[hd.toNat]? = some x) (hl : s.log.length < 1000000000000) :
    Calls Tryz.prog 127 #[.pointer (some ⟨tb, 0, none⟩)] w fun e w' => e = .returned (.tuple #[]) ∧ ∃ w1 A' F', PA w1 A' c pb mb L ob gb F' G { s with log := s.log ++ [⟨th, hd, 1, x, x, false⟩] } ∧ Keep F w w1 ∧ Foot w A A' ∧ w' = w1.setCell ⟨tb, 4, none⟩ (.int .u64 x) := by
  obtain ⟨p0, -⟩ := h.cells
  have c0 := hc.c0
  have c1 := hc.c1
  have c3 := hc.c3
  have H := hid h
  have HC := hid hc
  have HX := hid hx
  have HL := hid hl
  have HA := hid nA
  have hFb : ¬ F tb := fun e => nA ((h.foot tb).2 (.inr (.inr (.inr (.inl e)))))
  have HF := hid hFb
  have ne : tb ≠ pb := fun e => nA ((h.foot tb).2 (.inl e))
  clear h hc hx hl nA hFb
  go_enter Tryz.func127, Tryz.ntmps127
  have KD := hid ((Keep.refl Nil w).drew)
  go_wp2
  go_region_held3 (fun w' => w'.cell? ⟨tb, 0, none⟩ = some (.pointer (some ⟨pb, 0, none⟩)) ∧ w'.cell? ⟨tb, 1, none⟩ = some (.int .i64 th) ∧ w'.cell? ⟨tb, 3, none⟩ = some (.int .i64 hd) ∧ w'.cell? ⟨pb, 0, none⟩ = some (.pointer (some ⟨mb, 0, none⟩))) (first | exact ⟨cs_ne i0 (.inr (by decide)), cs_ne i1 (.inr (by decide)), cs_ne i3 (.inr (by decide)), cs_ne j0 (.inl ne)⟩ | go_keep)
    (first
      | (go_at_call 128; (with_reducible refine (load_ok (H.out.quiet KD.out).mem th hd x t0 t1 h0 HX.out HL.out).mono ?_); rintro e w10 ⟨rfl, hm⟩; obtain ⟨A1, F1, h1, k1, f1⟩ := H.out.turn KD.out hm; have H1 := hid h1; have K1 := hid k1; have FT1 := hid f1; have cc := HC.out.keep k1 HF.out; have i0 := cc.c0; have i1 := cc.c1; have i3 := cc.c3; have i4 := cc.c4; have z4 := cc.f4; obtain ⟨j0, -⟩ := h1.cells; clear hm h1 k1 f1 cc))
  all_goals
    go_wp2
    go_end0
    exact ⟨rfl, w10, A1, F1, H1.out, K1.out, FT1.out, rfl⟩
end
end Go.Proofs.YtjghenomeindcaaGreat
