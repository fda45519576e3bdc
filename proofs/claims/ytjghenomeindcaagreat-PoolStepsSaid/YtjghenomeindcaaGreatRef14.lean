/- leapfrogref14: pools and their operations: how they lie; contracts. -/
import Derived.Test.YtjghenomeindcaaGreatRefLayO
import Derived.Test.YtjghenomeindcaaGreatPoolP
import Derived.Deep.RegionHeld3
set_option linter.unusedVariables false
set_option linter.unusedSimpArgs false
namespace Go.Lf
def takenL (n : Nat) (out : Int → Option Bool) : List Bool := (List.range (n + 1)).map fun t : Nat => (out (t : Int)).isSome
def givingL (n : Nat) (out : Int → Option Bool) : List Bool := (List.range (n + 1)).map fun t : Nat => (out (t : Int)) == some true
def PO.twR (o : PO) : Int := if o.gv then o.tw else 0
def PO.got (o : PO) : Int := if o.gv then 0 else if o.pc = 0 then o.tw else 0
theorem takenL_len (n : Nat) (out : Int → Option Bool) : (takenL n out).length = n + 1 := by simp [takenL]
theorem givingL_len (n : Nat) (out : Int → Option Bool) : (givingL n out).length = n + 1 := by simp [givingL]
theorem takenL_at {n t : Nat} (out : Int → Option Bool) (h : t ≤ n) : (takenL n out)[t]? = some (out (t : Int)).isSome := by
  unfold takenL
  rw [List.getElem?_map, List.getElem?_range (by omega)]; rfl
theorem givingL_at {n t : Nat} (out : Int → Option Bool) (h : t ≤ n) : (givingL n out)[t]? = some ((out (t : Int)) == some true) := by
  unfold givingL
  rw [List.getElem?_map, List.getElem?_range (by omega)]; rfl
theorem takenL_set {n t : Nat} (out : Int → Option Bool) (v : Option Bool) : (takenL n out).set t v.isSome = takenL n (pup out (t : Int) v) := by
  unfold takenL
  rw [pup_range]
  congr 1
  funext u
  unfold pup
  by_cases e : u = t
  · subst e; simp
  · rw [if_neg e, if_neg (by omega)]
theorem givingL_set {n t : Nat} (out : Int → Option Bool) (v : Option Bool) : (givingL n out).set t (v == some true) = givingL n (pup out (t : Int) v) := by
  unfold givingL
  rw [pup_range]
  congr 1
  funext u
  unfold pup
  by_cases e : u = t
  · subst e; simp
  · rw [if_neg e, if_neg (by omega)]
theorem list_set_self {α : Type} {l : List α} {k : Nat} {x : α} (h : l[k]? = some x) : l.set k x = l := by
  apply List.ext_getElem?
  intro i
  rw [List.getElem?_set]
  split
  · next e => subst e; rw [h]; simp [(List.getElem?_eq_some_iff.1 h).1]
  · rfl
end Go.Lf
namespace Go.Proofs.YtjghenomeindcaaGreat
open Go.RowKit Go.Lf
def boolsB (l : List Bool) : List Value := l.map Value.bool
def intsR (l : List Int) : List Value := l.map (Value.int .i64)
theorem boolsB_set (l : List Bool) (i : Nat) (v : Bool) : (boolsB l).toArray.setIfInBounds i (.bool v) = (boolsB (l.set i v)).toArray := by simp [boolsB]
theorem intsR_set (l : List Int) (i : Nat) (v : Int) : (intsR l).toArray.setIfInBounds i (.int .i64 v) = (intsR (l.set i v)).toArray := by simp [intsR]
structure RPA (w : World) (A : Nat → Prop) (c : Cfg) (pb mb l tb vb gb : Nat) (F G : Nat → Prop) (s : PSt) : Prop where
  head : w.heap[pb]? = some (.cells #[.pointer (some ⟨mb, 0, none⟩), .pointer (some ⟨l, 0, none⟩), .slice (some ⟨tb, 0, none⟩) (c.nT + 1) (c.nT + 1), .slice (some ⟨vb, 0, none⟩) (c.nT + 1) (c.nT + 1), .slice (some ⟨gb, 0, none⟩) (c.nT + 1) (c.nT + 1)] 183 (0, 0))
  mem : RefAt w mb F s.ws s.log
  lay : KeepOn w G fun W => RLC W l c
  taken : w.heap[tb]? = some (.cells (boolsB (takenL c.nT s.out)).toArray 4 (0, 0))
  giving : w.heap[vb]? = some (.cells (boolsB (givingL c.nT s.out)).toArray 4 (0, 0))
  gens : w.heap[gb]? = some (.cells (intsR (0 :: s.gens)).toArray 3 (0, 0))
  gl : s.gens.length = c.nT
  foot : ∀ k, A k ↔ k = pb ∨ k = tb ∨ k = vb ∨ k = gb ∨ F k ∨ G k
  ne : pb ≠ tb ∧ pb ≠ vb ∧ pb ≠ gb ∧ tb ≠ vb ∧ tb ≠ gb ∧ vb ≠ gb
  nF : ¬ F pb ∧ ¬ F tb ∧ ¬ F vb ∧ ¬ F gb
  nG : ¬ G pb ∧ ¬ G tb ∧ ¬ G vb ∧ ¬ G gb
  gf : ∀ k, G k → ¬ F k ∧ k < w.heap.size
def rrCells (pb : Nat) (o : PO) : Array Value := #[.pointer (some ⟨pb, 0, none⟩), .int .i64 o.th, .int .i64 (o.ht : Int), .int .i64 o.twR, .int .i64 o.tr, .int .u8 o.pc, .int .u64 o.w, .int .u64 o.bl, .int .i64 o.got, .int .i64 o.fl, .int .i64 o.e]
def RRunAt (w : World) (rb pb : Nat) (o : PO) : Prop := w.heap[rb]? = some (.cells (rrCells pb o) 192 (0, 0))
section
variable {w w1 w2 w' : World} {A A1 F1 : Nat → Prop} {c : Cfg} {pb mb l tb vb gb rb : Nat} {F G : Nat → Prop} {s s' : PSt} {ws' : List Int} {log' : List Acc} {o o' : PO} {x : Int}
theorem RPA.lt (h : RPA w A c pb mb l tb vb gb F G s) (k : Nat) (hA : A k) : k < w.heap.size := by
  rcases (h.foot k).1 hA with rfl | rfl | rfl | rfl | e | e
  · exact lt_of_block h.head
  · exact lt_of_block h.taken
  · exact lt_of_block h.giving
  · exact lt_of_block h.gens
  · exact h.mem.lt k e
  · exact (h.gf k e).2
theorem RPA.keep (h : RPA w A c pb mb l tb vb gb F G s) {S : Nat → Prop} (hk : Keep S w w') (hn : ∀ k, A k → ¬ S k) : RPA w' A c pb mb l tb vb gb F G s :=
  ⟨hk.at h.head (hn pb ((h.foot pb).2 (.inl rfl))), h.mem.keep hk (fun k hF => hn k ((h.foot k).2 (.inr (.inr (.inr (.inr (.inl hF))))))), h.lay.keep hk (fun k hG => hn k ((h.foot k).2 (.inr (.inr (.inr (.inr (.inr hG))))))), hk.at h.taken (hn tb ((h.foot tb).2 (.inr (.inl rfl)))), hk.at h.giving (hn vb ((h.foot vb).2 (.inr (.inr (.inl rfl))))), hk.at h.gens (hn gb ((h.foot gb).2 (.inr (.inr (.inr (.inl rfl)))))), h.gl, h.foot, h.ne, h.nF, h.nG, fun k hG => ⟨(h.gf k hG).1, by have := (h.gf k hG).2; have := hk.size; omega⟩⟩
theorem RPA.quiet (h : RPA w A c pb mb l tb vb gb F G s) (hk : Keep Nil w w') : RPA w' A c pb mb l tb vb gb F G s := h.keep hk (fun _ _ h => h)
/-- The pools of the reference as a way of lying. -/
def RPoolL (c : Cfg) (pb mb l : Nat) : Lies PSt where
  lie w A s := ∃ tb vb gb F G, RPA w A c pb mb l tb vb gb F G s
  keep := fun ⟨tb, vb, gb, F, G, h⟩ hk hn => ⟨tb, vb, gb, F, G, h.keep hk hn⟩
  lt := fun ⟨_, _, _, _, _, h⟩ k hA => h.lt k hA
/-- A call of the memory. -/
theorem RPA.turn (h : RPA w A c pb mb l tb vb gb F G s) (hm : RefTo w mb F ws' log' w') :
    ∃ A' F', RPA w' A' c pb mb l tb vb gb F' G { s with ws := ws', log := log' } ∧ Keep F w w' ∧ Foot w A A' := by
  obtain ⟨F', hm', hk, hf⟩ := hm
  have nf : ∀ k, ¬ F k → k < w.heap.size → ¬ F' k := fun k hn hl e => (hf k e).elim hn (fun e => by omega)
  refine ⟨fun k => k = pb ∨ k = tb ∨ k = vb ∨ k = gb ∨ F' k ∨ G k, F', ⟨hk.at h.head h.nF.1, hm', h.lay.keep hk (fun k hG => (h.gf k hG).1), hk.at h.taken h.nF.2.1, hk.at h.giving h.nF.2.2.1, hk.at h.gens h.nF.2.2.2, h.gl, fun _ => Iff.rfl, h.ne, ⟨nf _ h.nF.1 (lt_of_block h.head), nf _ h.nF.2.1 (lt_of_block h.taken), nf _ h.nF.2.2.1 (lt_of_block h.giving), nf _ h.nF.2.2.2 (lt_of_block h.gens)⟩, h.nG, fun k hG => ⟨nf k (h.gf k hG).1 (h.gf k hG).2, by have := (h.gf k hG).2; have := hk.size; omega⟩⟩, hk, fun k hk' => ?_⟩
  rcases hk' with e | e | e | e | e | e
  · exact .inl ((h.foot k).2 (.inl e))
  · exact .inl ((h.foot k).2 (.inr (.inl e)))
  · exact .inl ((h.foot k).2 (.inr (.inr (.inl e))))
  · exact .inl ((h.foot k).2 (.inr (.inr (.inr (.inl e)))))
  · rcases hf k e with e | e
    · exact .inl ((h.foot k).2 (.inr (.inr (.inr (.inr (.inl e))))))
    · exact .inr (by omega)
  · exact .inl ((h.foot k).2 (.inr (.inr (.inr (.inr (.inr e))))))
/-- The rows by tower have turned. -/
theorem RPA.rows (h : RPA w A c pb mb l tb vb gb F G s) (hk : Keep (fun k => k = tb ∨ k = vb ∨ k = gb) w w') {out' : Int → Option Bool} {g' : List Int}
    (h1 : w'.heap[tb]? = some (.cells (boolsB (takenL c.nT out')).toArray 4 (0, 0))) (h2 : w'.heap[vb]? = some (.cells (boolsB (givingL c.nT out')).toArray 4 (0, 0))) (h3 : w'.heap[gb]? = some (.cells (intsR (0 :: g')).toArray 3 (0, 0))) (hl : g'.length = c.nT) :
    RPA w' A c pb mb l tb vb gb F G { s with out := out', gens := g' } := by
  obtain ⟨n1, n2, n3, n4, n5, n6⟩ := h.ne
  have a1 : ∀ k, F k → ¬ (k = tb ∨ k = vb ∨ k = gb) := fun k hF e => by
    rcases e with rfl | rfl | rfl
    · exact h.nF.2.1 hF
    · exact h.nF.2.2.1 hF
    · exact h.nF.2.2.2 hF
  have a2 : ∀ k, G k → ¬ (k = tb ∨ k = vb ∨ k = gb) := fun k hG e => by
    rcases e with rfl | rfl | rfl
    · exact h.nG.2.1 hG
    · exact h.nG.2.2.1 hG
    · exact h.nG.2.2.2 hG
  exact ⟨hk.at h.head (fun e => by rcases e with e | e | e <;> contradiction), h.mem.keep hk a1, h.lay.keep hk a2, h1, h2, h3, hl, h.foot, h.ne, h.nF, h.nG, fun k hG => ⟨(h.gf k hG).1, by have := (h.gf k hG).2; have := hk.size; omega⟩⟩
theorem RPA.cells (h : RPA w A c pb mb l tb vb gb F G s) : w.cell? ⟨pb, 0, none⟩ = some (.pointer (some ⟨mb, 0, none⟩)) ∧ w.cell? ⟨pb, 1, none⟩ = some (.pointer (some ⟨l, 0, none⟩)) ∧ w.cell? ⟨pb, 2, none⟩ = some (.slice (some ⟨tb, 0, none⟩) (c.nT + 1) (c.nT + 1)) ∧ w.cell? ⟨pb, 3, none⟩ = some (.slice (some ⟨vb, 0, none⟩) (c.nT + 1) (c.nT + 1)) ∧ w.cell? ⟨pb, 4, none⟩ = some (.slice (some ⟨gb, 0, none⟩) (c.nT + 1) (c.nT + 1)) ∧ pb < w.heap.size := by
  refine ⟨?_, ?_, ?_, ?_, ?_, lt_of_block h.head⟩ <;> (rw [cell_of h.head]; rfl)
theorem RPA.tk (h : RPA w A c pb mb l tb vb gb F G s) {t : Nat} (ht : t ≤ c.nT) : w.cell? ⟨tb, t, none⟩ = some (.bool (s.out (t : Int)).isSome) ∧ w.frozen? ⟨tb, t, none⟩ = false ∧ tb < w.heap.size := by
  refine ⟨?_, free_of h.taken t, lt_of_block h.taken⟩
  rw [cell_of h.taken]
  simp [boolsB, takenL_at s.out ht]
theorem RPA.gv (h : RPA w A c pb mb l tb vb gb F G s) {t : Nat} (ht : t ≤ c.nT) : w.cell? ⟨vb, t, none⟩ = some (.bool (s.out (t : Int) == some true)) ∧ w.frozen? ⟨vb, t, none⟩ = false ∧ vb < w.heap.size := by
  refine ⟨?_, free_of h.giving t, lt_of_block h.giving⟩
  rw [cell_of h.giving]
  simp [boolsB, givingL_at s.out ht]
theorem RPA.gn (h : RPA w A c pb mb l tb vb gb F G s) {t : Nat} {g : Int} (hg : s.gens[t]? = some g) : w.cell? ⟨gb, t + 1, none⟩ = some (.int .i64 g) ∧ w.frozen? ⟨gb, t + 1, none⟩ = false ∧ gb < w.heap.size := by
  refine ⟨?_, free_of h.gens _, lt_of_block h.gens⟩
  rw [cell_of h.gens]
  simp [intsR, hg]
/-! leapfrogref01. -/
set_option maxHeartbeats 1000000 in
theorem r1towerG (x : Int) : Calls Tryz.prog 98 #[.int .u64 x] w fun e w' => ∃ v : Int, e = .returned (.int .i64 v) ∧ w = w' := by
  go_enter Tryz.func98, Tryz.ntmps98
  go_wp2
  go_ret
  exact ⟨_, rfl, rfl⟩
set_option maxHeartbeats 1000000 in
theorem r1tower (x : Int) (h0 : 0 ≤ x) : Calls Tryz.prog 98 #[.int .u64 x] w fun e w' => e = .returned (.int .i64 (x % 65536)) ∧ w = w' := by
  have e1 : IntKind.i64.wrap (x.tmod 65536) = x % 65536 := by rw [Int.tmod_eq_emod_of_nonneg h0, IntKind.wrap_i64]; omega
  have e2 : IntKind.i64.wrap (x % 65536) = x % 65536 := by rw [IntKind.wrap_i64]; omega
  have e3 : x.tmod 65536 = x % 65536 := Int.tmod_eq_emod_of_nonneg h0
  go_enter Tryz.func98, Tryz.ntmps98
  go_wp2
  go_ret
  exact ⟨rfl, rfl⟩
set_option maxHeartbeats 1000000 in
theorem r1tag (x : Int) (h0 : 0 ≤ x) (h1 : x < 18446744073709551616) : Calls Tryz.prog 134 #[.int .u64 x] w fun e w' => e = .returned (.int .u64 (x / 65536)) ∧ w = w' := by
  have e1 : x.tdiv 65536 = x / 65536 := Int.tdiv_eq_ediv_of_nonneg h0
  have e2 : IntKind.u64.wrap (x / 65536) = x / 65536 := by rw [IntKind.wrap_u64]; omega
  go_enter Tryz.func134, Tryz.ntmps134
  go_wp2
  go_ret
  exact ⟨rfl, rfl⟩
set_option maxHeartbeats 2000000 in
theorem r1top (g t : Int) (g0 : 0 ≤ g) (g1 : g ≤ 1099511627775) (t0 : 0 ≤ t) (t1 : t ≤ 1024) : Calls Tryz.prog 133 #[.int .u64 g, .int .i64 t] w fun e w' => e = .returned (.tuple #[.int .u64 (t + 65536 * g), .int .i64 0]) ∧ w = w' := by
  have d1 : decide (1099511627775 < g) = false := decide_eq_false (by omega)
  have d2 : decide (t < 0) = false := decide_eq_false (by omega)
  have d3 : decide (1024 < t) = false := decide_eq_false (by omega)
  have e1 : IntKind.u64.wrap t = t := by rw [IntKind.wrap_u64]; omega
  have e2 : IntKind.u64.wrap (65536 * g) = 65536 * g := by rw [IntKind.wrap_u64]; omega
  have e3 : IntKind.u64.wrap (t + 65536 * g) = t + 65536 * g := by rw [IntKind.wrap_u64]; omega
  go_enter Tryz.func133, Tryz.ntmps133
  go_wp2
  go_ret2
  exact ⟨rfl, rfl⟩
/-! Next, Result. -/
set_option maxHeartbeats 1000000 in
theorem r14next (h : RRunAt w rb pb o) : Calls Tryz.prog 88 #[.pointer (some ⟨rb, 0, none⟩)] w fun e w' => e = .returned (.int .u8 o.pc) ∧ w = w' := by
  have c5 : w.cell? ⟨rb, 5, none⟩ = some (.int .u8 o.pc) := by rw [cell_of h]; rfl
  have z := lt_of_block h
  clear h
  go_enter Tryz.func88, Tryz.ntmps88
  go_wp2
  go_ret
  exact ⟨rfl, rfl⟩
set_option maxHeartbeats 2000000 in
theorem r14res0 (h : RRunAt w rb pb o) (hp : o.pc ≠ 0) : Calls Tryz.prog 93 #[.pointer (some ⟨rb, 0, none⟩)] w fun e w' => e = .returned (.tuple #[.int .i64 0, .int .i64 0, .int .i64 8]) ∧ Keep Nil w w' := by
  have c5 : w.cell? ⟨rb, 5, none⟩ = some (.int .u8 o.pc) := by rw [cell_of h]; rfl
  have z := lt_of_block h
  have d : (o.pc != 0) = true := by simpa using hp
  clear h hp
  go_enter Tryz.func93, Tryz.ntmps93
  go_wp2
  go_ret3
  exact ⟨rfl, Keep.refl _ _⟩
set_option maxHeartbeats 2000000 in
theorem r14res1 (h : RRunAt w rb pb o) (hp : o.pc = 0) (hg : o.gv = false) : Calls Tryz.prog 93 #[.pointer (some ⟨rb, 0, none⟩)] w fun e w' => e = .returned (.tuple #[.int .i64 o.tw, .int .i64 o.fl, .int .i64 o.e]) ∧ Keep Nil w w' := by
  have c5 : w.cell? ⟨rb, 5, none⟩ = some (.int .u8 0) := by rw [cell_of h, ← hp]; rfl
  have c8 : w.cell? ⟨rb, 8, none⟩ = some (.int .i64 o.tw) := by
    rw [cell_of h]
    show some (Value.int .i64 o.got) = _
    unfold PO.got
    rw [if_neg (by rw [hg]; decide), if_pos hp]
  have c9 : w.cell? ⟨rb, 9, none⟩ = some (.int .i64 o.fl) := by rw [cell_of h]; rfl
  have c10 : w.cell? ⟨rb, 10, none⟩ = some (.int .i64 o.e) := by rw [cell_of h]; rfl
  have z := lt_of_block h
  clear h hp hg
  go_enter Tryz.func93, Tryz.ntmps93
  go_wp2
  go_quiet (fail)
  go_wp2
  go_ret3
  exact ⟨rfl, (Keep.refl _ _).drewN nq⟩
/-! Take, Give. -/
set_option maxHeartbeats 2000000 in
theorem r14take_arg (th hh tr : Int) (h : th < 0 ∨ 64 ≤ th ∨ tr < 0 ∨ 255 < tr) : Calls Tryz.prog 36 #[.pointer (some ⟨pb, 0, none⟩), .int .i64 th, .int .i64 hh, .int .i64 tr] w fun e w' => e = .returned (.tuple #[.pointer none, .int .i64 2]) ∧ Keep Nil w w' := by
  by_cases h1 : th < 0 ∨ 64 ≤ th
  · have HT := hid (fun w => thread_no th h1 w)
    clear h h1
    go_enter Tryz.func36, Tryz.ntmps36
    go_wp2_with fail
    refine (HT.out _).mono ?_
    rintro e w' ⟨rfl, rfl⟩
    go_wp2
    go_ret2
    exact ⟨rfl, Keep.refl _ _⟩
  · have HT := hid (fun w => thread_yes th (by omega) (by omega) w)
    by_cases h3 : tr < 0
    · have d3 : decide (tr < 0) = true := decide_eq_true h3
      clear h h1
      go_enter Tryz.func36, Tryz.ntmps36
      go_wp2_with fail
      refine (HT.out _).mono ?_
      rintro e w' ⟨rfl, rfl⟩
      go_wp2
      go_ret2
      exact ⟨rfl, Keep.refl _ _⟩
    · have d3 : decide (tr < 0) = false := decide_eq_false h3
      have d4 : decide (255 < tr) = true := decide_eq_true (by omega)
      clear h h1
      go_enter Tryz.func36, Tryz.ntmps36
      go_wp2_with fail
      refine (HT.out _).mono ?_
      rintro e w' ⟨rfl, rfl⟩
      go_wp2
      go_ret2
      exact ⟨rfl, Keep.refl _ _⟩
set_option maxHeartbeats 2000000 in
theorem r14take_range (th hh tr : Int) (t0 : 0 ≤ th) (t1 : th < 64) (r0 : 0 ≤ tr) (r1 : tr ≤ 255) (h : hh < 1 ∨ 6 < hh) : Calls Tryz.prog 36 #[.pointer (some ⟨pb, 0, none⟩), .int .i64 th, .int .i64 hh, .int .i64 tr] w fun e w' => e = .returned (.tuple #[.pointer none, .int .i64 3]) ∧ Keep Nil w w' := by
  have HT := hid (fun w => thread_yes th t0 t1 w)
  have d3 : decide (tr < 0) = false := decide_eq_false (by omega)
  have d4 : decide (255 < tr) = false := decide_eq_false (by omega)
  by_cases h1 : hh < 1
  · have d5 : decide (hh < 1) = true := decide_eq_true h1
    clear h
    go_enter Tryz.func36, Tryz.ntmps36
    go_wp2_with fail
    refine (HT.out _).mono ?_
    rintro e w' ⟨rfl, rfl⟩
    go_wp2
    go_ret2
    exact ⟨rfl, Keep.refl _ _⟩
  · have d5 : decide (hh < 1) = false := decide_eq_false h1
    have d6 : decide (6 < hh) = true := decide_eq_true (by omega)
    clear h
    go_enter Tryz.func36, Tryz.ntmps36
    go_wp2_with fail
    refine (HT.out _).mono ?_
    rintro e w' ⟨rfl, rfl⟩
    go_wp2
    go_ret2
    exact ⟨rfl, Keep.refl _ _⟩
def R14NewTo (w : World) (pb : Nat) (o : PO) (e : Ending) (w' : World) : Prop := ∃ rb, e = .returned (.tuple #[.pointer (some ⟨rb, 0, none⟩), .int .i64 0]) ∧ RRunAt w' rb pb o ∧ Keep Nil w w' ∧ w.heap.size ≤ rb
set_option maxHeartbeats 2000000 in
theorem r14take_ok (th hh tr : Int) (t0 : 0 ≤ th) (t1 : th < 64) (k1 : 1 ≤ hh) (k6 : hh ≤ 6) (r0 : 0 ≤ tr) (r1 : tr ≤ 255) : Calls Tryz.prog 36 #[.pointer (some ⟨pb, 0, none⟩), .int .i64 th, .int .i64 hh, .int .i64 tr] w (R14NewTo w pb (PO.take th hh.toNat tr)) := by
  have HT := hid (fun w => thread_yes th t0 t1 w)
  have d3 : decide (tr < 0) = false := decide_eq_false (by omega)
  have d4 : decide (255 < tr) = false := decide_eq_false (by omega)
  have d5 : decide (hh < 1) = false := decide_eq_false (by omega)
  have d6 : decide (6 < hh) = false := decide_eq_false (by omega)
  have HH := hid (show ((hh.toNat : Nat) : Int) = hh by omega)
  go_enter Tryz.func36, Tryz.ntmps36
  go_wp2_with fail
  refine (HT.out _).mono ?_
  rintro e w' ⟨rfl, rfl⟩
  go_wp2
  go_ret2
  refine ⟨w.heap.size, rfl, ?_, (Keep.refl Nil w).alloc _, Nat.le_refl _⟩
  have := heap_alloc_new w (.cells #[.pointer (some ⟨pb, 0, none⟩), .int .i64 th, .int .i64 hh, .int .i64 0, .int .i64 tr, .int .u8 4, .int .u64 0, .int .u64 0, .int .i64 0, .int .i64 0, .int .i64 0] 192)
  unfold RRunAt rrCells PO.take PO.twR PO.got
  simp only [HH.out]
  exact this
end
end Go.Proofs.YtjghenomeindcaaGreat
