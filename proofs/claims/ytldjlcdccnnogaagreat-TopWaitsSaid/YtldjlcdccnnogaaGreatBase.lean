/- Plain facts about memory that the walks of this seat use: what a call keeps, rows of cells that an object owns, append onto such a row. No program is named here. -/
import Derived.WalkKit
import Derived.WalkSpells
import Derived.WalkLawsBesides
import Derived.Handy
import Derived.Deep.RegionLaw
import Derived.Deep.QuietTactic
import Derived.BigQuiet
import Derived.Laws.EntriesVeiled
namespace Go.Lf
open Go.RowKit

/-- w' is w but for the blocks of S and new blocks. -/
structure Keep (S : Nat → Prop) (w w' : World) : Prop where
  os : w'.os = w.os
  tape : w'.tape = w.tape
  output : w'.output = w.output
  size : w.heap.size ≤ w'.heap.size
  block : ∀ k, k < w.heap.size → ¬ S k → w'.heap[k]? = w.heap[k]?

/-- A fact kept from the walk. -/
theorem hid {p : Prop} (h : p) : Hid p := h

def Nil : Nat → Prop := fun _ => False

theorem Keep.refl (S : Nat → Prop) (w : World) : Keep S w w := ⟨rfl, rfl, rfl, Nat.le_refl _, fun _ _ _ => rfl⟩
theorem Keep.mono {S T : Nat → Prop} {w w' : World} (h : Keep S w w') (hs : ∀ k, k < w.heap.size → S k → T k) : Keep T w w' :=
  ⟨h.os, h.tape, h.output, h.size, fun k hk hn => h.block k hk (fun hsk => hn (hs k hk hsk))⟩
theorem Keep.trans {S T : Nat → Prop} {a b c : World} (h : Keep S a b) (k : Keep T b c) (hs : ∀ k, k < a.heap.size → T k → S k) : Keep S a c :=
  ⟨k.os.trans h.os, k.tape.trans h.tape, k.output.trans h.output, Nat.le_trans h.size k.size,
    fun i hi hn => (k.block i (Nat.lt_of_lt_of_le hi h.size) (fun ht => hn (hs i hi ht))).trans (h.block i hi hn)⟩
theorem Keep.drewN {S : Nat → Prop} {a w : World} (h : Keep S a w) (n : Nat) : Keep S a (w.drewN n) := ⟨h.os, h.tape, h.output, h.size, h.block⟩
/-- A contract that leaves the world alone, inside a region that draws. -/
theorem quiet_eq {P : Program} {f : FuncId} {args : Array Value} {w : World} {n : Nat} {v : Value}
    (h : Calls P f args (w.drewN n) fun e w' => e = .returned v ∧ w.drewN n = w') : Calls P f args (w.drewN n) fun e w'' => e = .returned v ∧ ∃ m, w'' = w.drewN m :=
  h.mono fun _ _ ⟨he, hm⟩ => ⟨he, n, hm.symm⟩
theorem Keep.drew {S : Nat → Prop} {a w : World} (h : Keep S a w) : Keep S a w.drew := ⟨h.os, h.tape, h.output, h.size, h.block⟩
theorem Keep.alloc {S : Nat → Prop} {a w : World} (h : Keep S a w) (o : Obj) : Keep S a (w.alloc o) :=
  ⟨h.os, h.tape, h.output, Nat.le_trans h.size (by simp), fun k hk hn => (Below.heap_alloc w o k (Nat.lt_of_lt_of_le hk h.size)).trans (h.block k hk hn)⟩
theorem Keep.setCell {S : Nat → Prop} {a w : World} (h : Keep S a w) {p : Addr} (hp : S p.block ∨ a.heap.size ≤ p.block) (u : Value) : Keep S a (w.setCell p u) :=
  ⟨h.os, h.tape, h.output, by simpa [World.setCell] using h.size, fun k hk hn => by
    rw [Below.heap_setCell w p u k (fun e => by subst e; exact hp.elim hn (fun h' => by omega))]; exact h.block k hk hn⟩
theorem Keep.grown {S : Nat → Prop} {a w w' : World} {row : Option Nat} (h : Keep S a w) (hg : w.grownBy w' row) (hr : ∀ k, row = some k → S k ∨ a.heap.size ≤ k) : Keep S a w' :=
  ⟨hg.os.trans h.os, hg.tape.trans h.tape, hg.output.trans h.output, Nat.le_trans h.size hg.size, fun k hk hn => by
    rw [hg.block k (Nat.lt_of_lt_of_le hk h.size) (fun e => (hr k e.symm).elim hn (fun h' => by omega))]; exact h.block k hk hn⟩
theorem Keep.below {w w' : World} (h : Keep Nil w w') : Below w.heap.size w w' := ⟨h.os, h.tape, h.output, h.size, fun k hk => h.block k hk (fun h => h)⟩
theorem Keep.at {S : Nat → Prop} {w w' : World} (h : Keep S w w') {b : Nat} {o : Obj} (hb : w.heap[b]? = some o) (hn : ¬ S b) : w'.heap[b]? = some o :=
  (h.block b (lt_of_block hb) hn).trans hb

theorem Keep.cell {S : Nat → Prop} {w w' : World} (h : Keep S w w') {b i : Nat} {v : Value} (hb : w.cell? ⟨b, i, none⟩ = some v) (hn : ¬ S b) : w'.cell? ⟨b, i, none⟩ = some v :=
  (World.cell?_of_block (w := w) (h.block b (World.block_lt_of_cell? w _ hb) hn)).trans hb

/-- The footprint of an object after a call: what it was, or new. -/
def Foot (w : World) (F F' : Nat → Prop) : Prop := ∀ k, F' k → F k ∨ w.heap.size ≤ k

theorem Foot.trans {w w1 : World} {S F F' : Nat → Prop} {T : Nat → Prop} (h : Foot w S F) (hk : Keep T w w1) (h' : Foot w1 F F') : Foot w S F' := by
  intro k hF
  rcases h' k hF with h1 | h1
  · exact h k h1
  · exact .inr (Nat.le_trans hk.size h1)

/-- An object with the blocks F that was made since w; nothing that was there at w has turned. -/
def Own (w : World) (F : Nat → Prop) (wr : World) : Prop := Keep Nil w wr ∧ Foot w Nil F
theorem Own.step {w wr w1 : World} {F F1 : Nat → Prop} (h : Own w F wr) (k1 : Keep F wr w1) (f1 : Foot wr F F1) : Own w F1 w1 :=
  ⟨h.1.trans k1 (fun j hj hF => by rcases h.2 j hF with h' | h'; exact h'; exact absurd hj (by omega)), h.2.trans h.1 f1⟩
theorem Own.quiet {w wr w1 : World} {F : Nat → Prop} (h : Own w F wr) (k1 : Keep Nil wr w1) : Own w F w1 :=
  ⟨h.1.trans k1 (fun _ _ h => h), h.2⟩
theorem Own.fresh {w wr w1 : World} {F : Nat → Prop} (h : Keep Nil w wr) (k1 : Keep Nil wr w1) (f1 : Foot wr Nil F) : Own w F w1 :=
  ⟨h.trans k1 (fun _ _ h => h), fun j hj => by rcases f1 j hj with h' | h'; exact .inl h'; exact .inr (Nat.le_trans h.size h')⟩

/-- What a block of cells says of its cells. -/
theorem cell_of {w : World} {b : Nat} {cs : Array Value} {t : TypeId} (h : w.heap[b]? = some (.cells cs t (0, 0))) (i : Nat) : w.cell? ⟨b, i, none⟩ = cs[i]? := by simp [World.cell?, h]
theorem free_of {w : World} {b : Nat} {cs : Array Value} {t : TypeId} (h : w.heap[b]? = some (.cells cs t (0, 0))) (i : Nat) : w.frozen? ⟨b, i, none⟩ = false := by simp [World.frozen?, h]
theorem set_same {w : World} {b i : Nat} {cs : Array Value} {t : TypeId} (h : w.heap[b]? = some (.cells cs t (0, 0))) (u : Value) : (w.setCell ⟨b, i, none⟩ u).heap[b]? = some (.cells (cs.setIfInBounds i u) t (0, 0)) :=
  heap_setCell_same w b i cs t u h
theorem set_other {w : World} {b : Nat} {p : Addr} {o : Obj} (h : w.heap[b]? = some o) (hne : b ≠ p.block) (u : Value) : (w.setCell p u).heap[b]? = some o := by
  rw [Below.heap_setCell w p u b hne]; exact h
theorem alloc_old {w : World} {b : Nat} {o : Obj} (h : w.heap[b]? = some o) (o' : Obj) : (w.alloc o').heap[b]? = some o := by
  rw [Below.heap_alloc w o' b (lt_of_block h)]; exact h

/-- A row behind a step that keeps its block. -/
theorem row_keep {w w' : World} {S : Nat → Prop} {base size n : Nat} {e : TypeId} {v : Value} {xs : List Value} (h : w.ownsRow base e size v n xs) (hk : Keep S w w') (hn : ∀ k, v.ownBlock = some k → ¬ S k) : w'.ownsRow base e size v n xs := by
  refine ⟨h.1, ?_⟩
  rcases h.2 with hn' | ⟨g, cap, cur, rfl, hb, hg, rest⟩
  · exact .inl hn'
  · exact .inr ⟨g, cap, cur, rfl, hb, hk.at hg (hn g rfl), rest⟩

theorem row_drew {w : World} {base size n : Nat} {e : TypeId} {v : Value} {xs : List Value} (h : w.ownsRow base e size v n xs) : w.drew.ownsRow base e size v n xs := h

theorem row_grown {w w' : World} {row : Option Nat} {base size n : Nat} {e : TypeId} {v : Value} {xs : List Value} (h : w.ownsRow base e size v n xs) (hg : w.grownBy w' row) (hn : ∀ k, v.ownBlock = some k → row ≠ some k) : w'.ownsRow base e size v n xs :=
  h.kept hg (by cases hv : v.ownBlock with
    | none => exact .inl rfl
    | some k => exact .inr (fun e => hn k hv e.symm))

/-- The block of a row: as it was, or new. -/
def RowStep (w : World) (v v' : Value) : Prop := ∀ k, v'.ownBlock = some k → v.ownBlock = some k ∨ w.heap.size ≤ k

section
variable {P : Program} (w : World)
theorem run_app (t ty e : TypeId) (z : Value) (size bytes : Nat) (ht : P.underlying t = some (.slice e)) (hinfo : (P.info? e).map (fun i => (i.zero, i.size, i.bytes)) = some (some z, size, bytes))
    (hzs : z.cells.size = size) (hsz : 0 < size)
    (v : Value) (n : Nat) (xs : List Value) (hown : w.ownsRow 0 e size v n xs)
    (a : Addr) (m c : Nat) (news : List Value) (hl : news.length = m * size) (hnews : ∀ j u, news[j]? = some u → w.cell? (a.add j) = some u) (h1 : ∀ u ∈ news, u.oneCell' = true)
    (hbytes : (n + m) * bytes ≤ 140737488355328) (h63 : n + m ≤ maxLen) :
    ∃ v' w', (Builtin.append_ #[t, t] ty #[v, .slice (some a) m c]).run P w = .ok v' w' ∧ w'.ownsRow 0 e size v' (n + m) (xs ++ news) ∧ w.grownBy w' v.ownBlock ∧ RowStep w v v' := by
  obtain ⟨i, hi, hz, hsize, hby⟩ := info_parts hinfo
  rcases hown.2 with ⟨rfl, rfl⟩ | ⟨g, cap, cur, rfl, hbg, hg, hnc, hcm, hcs, htake⟩
  · obtain ⟨v', w', hr, ho, hgr, _⟩ := run_append_own (P := P) w w.heap.size t ty e i z size bytes ht hi hz hsize hby hzs hsz _ 0 xs ⟨hown.1, .inl ⟨rfl, rfl⟩⟩ a m c news hl hnews h1 h63 hbytes (Nat.le_refl _)
    refine ⟨v', w', hr, ?_, hgr, fun k hk => .inr (ho.lt k hk).1⟩
    refine ⟨ho.1, ?_⟩
    rcases ho.2 with h | ⟨g, cap, cur, h, _, r⟩
    · exact .inl h
    · exact .inr ⟨g, cap, cur, h, Nat.zero_le _, r⟩
  · by_cases hroom : n + m ≤ cap
    · obtain ⟨w', hr, ho, hgr⟩ := run_append_fits (P := P) w 0 t ty e i size ht hi hsize g n cap xs hown a m c news hl hnews h1 hroom
      exact ⟨_, w', hr, ho, hgr, fun k hk => .inl hk⟩
    · subst hsize
      subst hby
      have holds : ∀ j u, xs[j]? = some u → w.cell? ((⟨g, 0, none⟩ : Addr).add j) = some u := hown.cells (g := g) rfl
      have hsm : ((n + m : Nat) : Int) ≤ 9223372036854775807 := by simp only [maxLen] at h63; omega
      have hr := run_append_grow (P := P) w t ty e i z ht hi hz ⟨g, 0, none⟩ n cap xs hown.1 holds a m c news hl hnews (by omega) hsm (growslice_fits (by omega) hbytes)
      have hge := grownCap_ge w (n + m) cap e
      have hcm' : grownCap w (n + m) cap e ≤ maxLen := grownCap_le_maxLen w (n + m) cap e h63
      have hlen : (xs ++ news).length = (n + m) * i.size := by rw [List.length_append, hown.1, hl, Nat.add_mul]
      refine ⟨_, _, hr, ⟨hlen, .inr ⟨w.heap.size, _, _, rfl, Nat.zero_le _, heap_alloc_new w.drew _, hge, hcm', ?_, ?_⟩⟩, ⟨rfl, rfl, rfl, by simp, fun k hk _ => Below.heap_alloc w.drew _ k hk⟩, fun k hk => .inr ?_⟩
      · simp only [Array.size_append, List.size_toArray, size_zeroCells, hzs, hown.1, hl, ← Nat.add_mul]
        congr 1
        omega
      · simp only [Array.toList_append, List.append_assoc]
        rw [← List.append_assoc, ← hlen]
        exact List.take_left
      · simp [Value.ownBlock] at hk; omega

/-- What can be read through a slice: its elements' cells. -/
def Rd (w : World) (size : Nat) (v : Value) (n : Nat) (xs : List Value) : Prop :=
  ∃ a c, v = .slice a n c ∧ xs.length = n * size ∧ ((a = none ∧ n = 0 ∧ c = 0) ∨ (∃ b off, a = some ⟨b, off, none⟩ ∧ ∀ j u, xs[j]? = some u → w.cell? ⟨b, off + j, none⟩ = some u) ∨ ((∃ ad, a = some ad) ∧ n = 0))

theorem rd_keep {w w' : World} {S : Nat → Prop} {size n : Nat} {v : Value} {xs : List Value} (h : Rd w size v n xs) (hk : Keep S w w') (hn : ∀ k, v.ownBlock = some k → ¬ S k) : Rd w' size v n xs := by
  obtain ⟨a, c, rfl, hl, h' | ⟨b, off, rfl, hc⟩ | h'⟩ := h
  · exact ⟨a, c, rfl, hl, .inl h'⟩
  · exact ⟨_, c, rfl, hl, .inr <| .inl ⟨b, off, rfl, fun j u hu => hk.cell (hc j u hu) (hn b rfl)⟩⟩
  · exact ⟨_, c, rfl, hl, .inr <| .inr h'⟩
theorem row_rd {w : World} {base size n : Nat} {e : TypeId} {v : Value} {xs : List Value} (h : w.ownsRow base e size v n xs) : Rd w size v n xs := by
  rcases h.2 with ⟨rfl, rfl⟩ | ⟨g, cap, cur, rfl, hb, hg, hnc, hcm, hcs, htake⟩
  · exact ⟨none, 0, rfl, h.1, .inl ⟨rfl, rfl, rfl⟩⟩
  · refine ⟨_, cap, rfl, h.1, .inr <| .inl ⟨g, 0, rfl, fun j u hu => ?_⟩⟩
    rw [Nat.zero_add, ← hu]
    exact h.cellAt j (by rw [← h.1]; exact (List.getElem?_eq_some_iff.1 hu).1)
theorem rd_of_heap {w : World} {g : Nat} {cs : List Value} {e : TypeId} {size n : Nat} (h : w.heap[g]? = some (.cells cs.toArray e (0, 0))) (hl : cs.length = n * size) : Rd w size (.slice (some ⟨g, 0, none⟩) n n) n cs :=
  ⟨_, n, rfl, hl, .inr <| .inl ⟨g, 0, rfl, fun j u hu => by rw [cell_of h, Nat.zero_add]; simpa using hu⟩⟩

theorem Rd.cell {w : World} {size n : Nat} {v : Value} {xs : List Value} (h : Rd w size v n xs) (hn : 0 < n) : ∃ b off c, v = .slice (some ⟨b, off, none⟩) n c ∧ ∀ j u, xs[j]? = some u → w.cell? ⟨b, off + j, none⟩ = some u := by
  obtain ⟨a, c, rfl, -, ⟨rfl, h0, -⟩ | ⟨b, off, rfl, hc⟩ | ⟨-, h0⟩⟩ := h
  · omega
  · exact ⟨b, off, c, rfl, hc⟩
  · omega

theorem addr_add (b off j : Nat) : (⟨b, off, none⟩ : Addr).add j = ⟨b, off + j, none⟩ := by unfold Addr.add; split <;> simp_all

theorem rd_new (cs : Array Value) (e : TypeId) (size n : Nat) (xs : List Value) (h : cs.toList = xs ∧ xs.length = n * size := by exact ⟨rfl, rfl⟩) :
    Rd (w.alloc (.cells cs e)) size (.slice (some ⟨w.heap.size, 0, none⟩) n n) n xs :=
  ⟨_, _, rfl, h.2, .inr <| .inl ⟨_, _, rfl, fun j u hu => by
    rw [cell_of (heap_alloc_new w _)]
    rw [← h.1] at hu
    simpa using hu⟩⟩

theorem run_app_rd (t ty e : TypeId) (z : Value) (size bytes : Nat) (ht : P.underlying t = some (.slice e)) (hinfo : (P.info? e).map (fun i => (i.zero, i.size, i.bytes)) = some (some z, size, bytes))
    (hzs : z.cells.size = size) (hsz : 0 < size)
    (v : Value) (n : Nat) (xs : List Value) (hown : w.ownsRow 0 e size v n xs)
    (s : Value) (m : Nat) (news : List Value) (hrd : Rd w size s m news) (h1 : ∀ u ∈ news, u.oneCell' = true)
    (hbytes : (n + m) * bytes ≤ 140737488355328) (h63 : n + m ≤ maxLen) :
    ∃ v' w', (Builtin.append_ #[t, t] ty #[v, s]).run P w = .ok v' w' ∧ w'.ownsRow 0 e size v' (n + m) (xs ++ news) ∧ w.grownBy w' v.ownBlock ∧ RowStep w v v' := by
  obtain ⟨a, c, rfl, hl, ⟨rfl, rfl, rfl⟩ | ⟨b, off, rfl, hc⟩ | ⟨⟨ad, rfl⟩, rfl⟩⟩ := hrd
  · obtain ⟨i, hi, hz, hsize, hby⟩ := info_parts hinfo
    have hn : news = [] := List.eq_nil_of_length_eq_zero (by simpa using hl)
    subst hn
    exact ⟨v, w, run_append_owned_none (P := P) w 0 t ty e i size ht hi v n xs hown, by simpa using hown, World.grownBy.refl _ _, fun k hk => .inl hk⟩
  · exact run_app w t ty e z size bytes ht hinfo hzs hsz v n xs hown ⟨b, off, none⟩ m c news hl (fun j u hu => by rw [addr_add]; exact hc j u hu) h1 hbytes h63
  · have hn : news = [] := List.eq_nil_of_length_eq_zero (by simpa using hl)
    subst hn
    exact run_app w t ty e z size bytes ht hinfo hzs hsz v n xs hown ad 0 c [] hl (fun j u hu => by simp at hu) h1 hbytes h63

theorem row_slice {w : World} {base size n : Nat} {e : TypeId} {v : Value} {xs : List Value} (h : w.ownsRow base e size v n xs) : ∃ a c, v = .slice a n c := by
  rcases h.2 with ⟨rfl, rfl⟩ | ⟨g, cap, cur, rfl, _⟩
  · exact ⟨_, _, rfl⟩
  · exact ⟨_, _, rfl⟩

/-- The walk's law: append of a readable slice onto a row that the call owns. -/
theorem wpList_app {ops : Array Oper} {rest : List Oper} {o : Oper} {a : Act} {Q : Exit → Act → World → Prop} (hgd : o.guard = none) (s x : Operand) (t : TypeId)
    (ho : o.op = .call { callee := .builtin .append, args := #[s, x], argTypes := #[t, t] })
    (e : TypeId) (z : Value) (size bytes : Nat) (ht : P.underlying t = some (.slice e)) (hinfo : (P.info? e).map (fun i => (i.zero, i.size, i.bytes)) = some (some z, size, bytes))
    (hzs : z.cells.size = size) (hsz : 0 < size)
    (v : Value) (n : Nat) (xs : List Value) (hs : a.eval s = v) (hown : w.ownsRow 0 e size v n xs)
    (sv : Value) (m : Nat) (news : List Value) (hx : a.eval x = sv) (hrd : Rd w size sv m news) (h1 : ∀ u ∈ news, u.oneCell' = true)
    (hbytes : (n + m) * bytes ≤ 140737488355328) (h63 : n + m ≤ maxLen)
    (h : ∀ a' c' w', w'.ownsRow 0 e size (.slice a' (n + m) c') (n + m) (xs ++ news) → w.grownBy w' v.ownBlock → RowStep w v (.slice a' (n + m) c') → wpList P ops Q rest (a.put o.dst (.slice a' (n + m) c')) w') : wpList P ops Q (o :: rest) a w :=
  wpList_plain hgd fun _ hK => by
    obtain ⟨v', w', hr, h2, h3, h4⟩ := run_app_rd (P := P) w t o.type e z size bytes ht hinfo hzs hsz v n xs hown sv m news hrd h1 hbytes h63
    unfold Oper.wp execOp
    simp only [ho, resolve, invoke, builtin, Sem.run_bind, Sem.run_pure, Result.andThen_ok, List.map_toArray, List.map_cons, List.map_nil, hs, hx, hr]
    obtain ⟨a', c', rfl⟩ := row_slice h2
    exact hK _ _ (h a' c' w' h2 h3 h4)

/-- The walk's law: make of n zero elements. -/
theorem wpList_mk {ops : Array Oper} {rest : List Oper} {o : Oper} {a : Act} {Q : Exit → Act → World → Prop} (hgd : o.guard = none) (l c : Operand) (t : TypeId) (hop : o.op = Op.makeSlice t l c)
    (e : TypeId) (z : Value) (size bytes : Nat) (ht : P.underlying t = some (.slice e)) (hinfo : (P.info? e).map (fun i => (i.zero, i.size, i.bytes)) = some (some z, size, bytes))
    (kl kc : IntKind) (L : Int) (hl : a.eval l = .int kl L) (hc : a.eval c = .int kc L) (h0 : 0 ≤ L) (hb : (bytes : Int) * L ≤ 281474976710656) (h63 : L ≤ 9223372036854775807)
    (hK : ∀ w1, w1.heap[w.heap.size]? = some (.cells (madeCells z.cells (L.toNat * size)) e (0, 0)) → Keep Nil w w1 → w1.heap.size = w.heap.size + 1 → wpList P ops Q rest (a.put o.dst (.slice (some ⟨w.heap.size, 0, none⟩) L.toNat L.toNat)) w1) :
    wpList P ops Q (o :: rest) a w :=
  wpList_plain hgd fun _ hK' => by
    obtain ⟨i, hi, hz, hsize, hby⟩ := info_parts hinfo
    subst hsize
    subst hby
    have hr := run_make (P := P) w t e i z ht hi hz kl kc L L h0 (Int.le_refl _) hb h63
    unfold Oper.wp
    simp [execOp, hop, hl, hc, hr, Result.andThen]
    exact hK' _ _ (hK _ (heap_alloc_new w _) (Keep.alloc (Keep.refl _ _) _) (by simp))

/-- The same append as a step of a region that draws its order. -/
theorem step_app {ops : Array Oper} {o : Oper} {a : Act} {K : Act → World → Prop} {Q : Exit → Act → World → Prop} {E : Prop} (hgd : o.guard = none) (s x : Operand) (t : TypeId)
    (ho : o.op = .call { callee := .builtin .append, args := #[s, x], argTypes := #[t, t] })
    (e : TypeId) (z : Value) (size bytes : Nat) (ht : P.underlying t = some (.slice e)) (hinfo : (P.info? e).map (fun i => (i.zero, i.size, i.bytes)) = some (some z, size, bytes))
    (hzs : z.cells.size = size) (hsz : 0 < size)
    (v : Value) (n : Nat) (xs : List Value) (hs : a.eval s = v) (hown : w.ownsRow 0 e size v n xs)
    (sv : Value) (m : Nat) (news : List Value) (hx : a.eval x = sv) (hrd : Rd w size sv m news) (h1 : ∀ u ∈ news, u.oneCell' = true)
    (hbytes : (n + m) * bytes ≤ 140737488355328) (h63 : n + m ≤ maxLen)
    (h : ∀ a' c' w', w'.ownsRow 0 e size (.slice a' (n + m) c') (n + m) (xs ++ news) → w.grownBy w' v.ownBlock → RowStep w v (.slice a' (n + m) c') → K (a.put o.dst (.slice a' (n + m) c')) w') :
    if Region.wanted o (yielded ops a.tmps) = true then Oper.wp P o a w K Q else E := by
  have hw : Region.wanted o (yielded ops a.tmps) = true := by simp [Region.wanted, hgd]
  rw [if_pos hw]
  obtain ⟨v', w', hr, h2, h3, h4⟩ := run_app_rd (P := P) w t o.type e z size bytes ht hinfo hzs hsz v n xs hown sv m news hrd h1 hbytes h63
  unfold Oper.wp execOp
  simp only [ho, resolve, invoke, builtin, Sem.run_bind, Sem.run_pure, Result.andThen_ok, List.map_toArray, List.map_cons, List.map_nil, hs, hx, hr]
  obtain ⟨a', c', rfl⟩ := row_slice h2
  exact h a' c' w' h2 h3 h4

/-- copy of a whole row of n elements from a readable slice of n elements. -/
theorem run_copy_full (dT sT ty elem : TypeId) (size : Nat) (g n dCap : Nat) (s : Value) (cur : Array Value) (t : TypeId) (cs : List Value)
    (hu : P.underlying dT = some (.slice elem)) (hs : (P.info? elem).map (·.size) = some size)
    (hg : w.heap[g]? = some (.cells cur t (0, 0))) (hcur : cur.size = n * size) (hrd : Rd w size s n cs) (h0 : 0 < n) (h1 : ∀ v ∈ cs, v.oneCell' = true) :
    (Builtin.copy_ #[dT, sT] ty #[.slice (some ⟨g, 0, none⟩) n dCap, s]).run P w = .ok (goInt n) (w.setRow g cs.toArray) := by
  obtain ⟨a, c, rfl, hl, ⟨rfl, rfl, rfl⟩ | ⟨b, off, rfl, hc⟩ | ⟨-, rfl⟩⟩ := hrd
  · omega
  rotate_left
  · omega
  have hl' := run_firstCells_some (P := P) w size n ⟨b, off, none⟩ n c cs hl (fun j u hu => by rw [addr_add]; exact hc j u hu)
  have hst := run_storeCells_at P g 0 t cs 0 cur w hg (by simp [hl, hcur]) h1
  have hdrop : cur.toList.drop cs.length = [] := by rw [List.drop_eq_nil_iff]; simp [hl, hcur]
  simp only [Nat.add_zero, Nat.zero_add, List.take_zero, List.nil_append, hdrop, List.append_nil] at hst
  cases hq : P.info? elem with
  | none => simp [hq] at hs
  | some i =>
    have hi : i.size = size := by simpa [hq] using hs
    simp [Builtin.copy_, run_underlying hu, Builtin.lenOf, sizeOf, typeInfo, hq, hi, hl', hst]

theorem wpList_copyAll {ops : Array Oper} {rest : List Oper} {o : Oper} {a : Act} {Q : Exit → Act → World → Prop} (hgd : o.guard = none) (d s : Operand) (dT sT : TypeId)
    (ho : o.op = .call { callee := .builtin .copy, args := #[d, s], argTypes := #[dT, sT] }) (elem : TypeId) (size : Nat) (hu : P.underlying dT = some (.slice elem)) (hsz : (P.info? elem).map (·.size) = some size)
    (g n dCap : Nat) (sv : Value) (hd : a.eval d = .slice (some ⟨g, 0, none⟩) n dCap) (hs : a.eval s = sv)
    (cur : Array Value) (t : TypeId) (hg : w.heap[g]? = some (.cells cur t (0, 0))) (hcur : cur.size = n * size) (cs : List Value) (hrd : Rd w size sv n cs) (h0 : 0 < n) (h1 : ∀ v ∈ cs, v.oneCell' = true)
    (h : ∀ w', w'.heap[g]? = some (.cells cs.toArray t (0, 0)) → Keep (fun k => k = g) w w' → wpList P ops Q rest (a.put o.dst (goInt n)) w') : wpList P ops Q (o :: rest) a w :=
  wpList_plain hgd fun _ hK => by
    have hrun := run_copy_full (P := P) w dT sT o.type elem size g n dCap sv cur t cs hu hsz hg hcur hrd h0 h1
    unfold Oper.wp
    simp [execOp, ho, resolve, invoke, builtin, hd, hs, hrun, Result.andThen]
    exact hK _ _ (h _ (setRow_heap w g _ _ t _ hg) ⟨rfl, rfl, rfl, by simp, fun k _ hn => setRow_other w g k _ hn⟩)

theorem made_one (z : Value) (n : Nat) : madeCells #[z] n = (List.replicate n z).toArray := by
  apply Array.toList_inj.1
  rw [toList_madeCells_one]
end
end Go.Lf

/-! Plain model of the shared memory: an access, its cells, the error of an access, a list of numbers as cells. No program is named here. -/
namespace Go.Lf
open Go.RowKit

/-- An access: thread, address, kind, old, new, swapped. -/
structure Acc where
  t : Int
  a : Int
  k : Int
  o : Int
  n : Int
  s : Bool

/-- The numbers of an access fit their kinds. -/
def Acc.wf (x : Acc) : Prop := (Lit.int .i64 x.t).wf = true ∧ (Lit.int .i64 x.a).wf = true ∧ (Lit.int .u8 x.k).wf = true ∧ (Lit.int .u64 x.o).wf = true ∧ (Lit.int .u64 x.n).wf = true
def Acc.cells (x : Acc) : List Value := [.int .i64 x.t, .int .i64 x.a, .int .u8 x.k, .int .u64 x.o, .int .u64 x.n, .bool x.s]
def logCells (l : List Acc) : List Value := l.flatMap Acc.cells
def u64s (ws : List Int) : List Value := ws.map (Value.int .u64)

theorem length_logCells (l : List Acc) : (logCells l).length = l.length * 6 := by
  induction l with
  | nil => rfl
  | cons x l ih => simp [logCells, Acc.cells] at *; omega
theorem logCells_snoc (l : List Acc) (x : Acc) : logCells (l ++ [x]) = logCells l ++ x.cells := by simp [logCells]
theorem logCells_one (l : List Acc) : ∀ v ∈ logCells l, v.oneCell' = true := by
  intro v hv
  simp only [logCells, List.mem_flatMap] at hv
  obtain ⟨x, -, hx⟩ := hv
  simp [Acc.cells] at hx
  rcases hx with rfl | rfl | rfl | rfl | rfl | rfl <;> rfl
theorem logCells_append (l m : List Acc) : logCells (l ++ m) = logCells l ++ logCells m := by simp [logCells]
theorem logCells_drop {l : List Acc} {k j : Nat} {u : Value} (h : (logCells (l.drop k))[j]? = some u) : (logCells l)[k * 6 + j]? = some u := by
  have hk : k ≤ l.length := by
    rcases Nat.lt_or_ge l.length k with h' | h'
    · rw [List.drop_eq_nil_of_le (by omega)] at h; simp [logCells] at h
    · exact h'
  have e : logCells l = logCells (l.take k) ++ logCells (l.drop k) := by rw [← logCells_append, List.take_append_drop]
  have hl : (logCells (l.take k)).length = k * 6 := by rw [length_logCells, List.length_take, Nat.min_eq_left hk]
  rw [e, List.getElem?_append_right (by omega), hl, Nat.add_sub_cancel_left]
  exact h
theorem logCells_at {l : List Acc} {k j : Nat} {x : Acc} {u : Value} (hx : l[k]? = some x) (hu : x.cells[j]? = some u) : (logCells l)[k * 6 + j]? = some u := by
  refine logCells_drop ?_
  have hk := (List.getElem?_eq_some_iff.1 hx)
  obtain ⟨h, rfl⟩ := hk
  rw [List.drop_eq_getElem_cons h]
  show (l[k].cells ++ _)[j]? = some u
  rw [List.getElem?_append_left (List.getElem?_eq_some_iff.1 hu).1]
  exact hu
theorem u64s_one (l : List Int) : ∀ v ∈ u64s l, v.oneCell' = true := by
  intro v hv
  simp only [u64s, List.mem_map] at hv
  obtain ⟨x, -, rfl⟩ := hv
  rfl
theorem length_u64s (ws : List Int) : (u64s ws).length = ws.length := by simp [u64s]
theorem u64s_at {ws : List Int} {i : Nat} {x : Int} (h : ws[i]? = some x) : (u64s ws)[i]? = some (.int .u64 x) := by simp [u64s, h]
theorem u64s_set (ws : List Int) (i : Nat) (x : Int) : (u64s ws).set i (.int .u64 x) = u64s (ws.set i x) := by simp [u64s, List.map_set]
theorem set_self {α : Type} {l : List α} {i : Nat} {x : α} (h : l[i]? = some x) : l.set i x = l := by
  apply List.ext_getElem?
  intro j
  rw [List.getElem?_set]
  split
  · rename_i e; subst e; split
    · exact h.symm
    · rename_i hn; rw [List.getElem?_eq_none (by omega)]
  · rfl
theorem lt_of_at {α : Type} {l : List α} {i : Nat} {x : α} (h : l[i]? = some x) : i < l.length := (List.getElem?_eq_some_iff.1 h).1

/-- The error of an access of thread t to address i, n words. -/
def errOf (t i : Int) (n : Nat) : Int := if t < 0 ∨ 64 ≤ t then 2 else if i < 0 ∨ (n : Int) ≤ i then 3 else 0

theorem errOf_zero {t i : Int} {n : Nat} : errOf t i n = 0 ↔ 0 ≤ t ∧ t < 64 ∧ 0 ≤ i ∧ i < (n : Int) := by
  unfold errOf
  split
  · omega
  · split <;> omega
theorem errOf_bd (t i : Int) (n : Nat) : 0 ≤ errOf t i n ∧ errOf t i n ≤ 3 := by
  unfold errOf
  split
  · omega
  · split <;> omega

/-- The error of a number of words. -/
def szErr (n : Int) : Int := if n = 0 then 2 else if 65536 < n then 5 else 0
theorem szErr_zero {n : Int} (h : n = 0) : szErr n = 2 := by simp [szErr, h]
theorem szErr_big {n : Int} (h : 65536 < n) : szErr n = 5 := by unfold szErr; rw [if_neg (by omega), if_pos h]
theorem szErr_ok {n : Int} (h : 0 < n) (h' : n ≤ 65536) : szErr n = 0 := by unfold szErr; rw [if_neg (by omega), if_neg (by omega)]

/-- The first k of ws, zeros behind them. -/
def filled (ws : List Int) (k : Nat) : List Int := ws.take k ++ List.replicate (ws.length - k) 0
theorem length_filled (ws : List Int) (k : Nat) (h : k ≤ ws.length) : (filled ws k).length = ws.length := by simp [filled]; omega
theorem filled_zero (ws : List Int) : filled ws 0 = List.replicate ws.length 0 := by simp [filled]
theorem filled_all (ws : List Int) : filled ws ws.length = ws := by simp [filled]
theorem filled_set (ws : List Int) (k : Nat) (x : Int) (h : ws[k]? = some x) : (filled ws k).set k x = filled ws (k + 1) := by
  obtain ⟨hk, hx⟩ := List.getElem?_eq_some_iff.1 h
  have hl : (ws.take k).length = k := by simp; omega
  unfold filled
  rw [List.set_append, if_neg (by omega), hl, Nat.sub_self, List.take_succ_eq_append_getElem hk, hx, List.append_assoc]
  congr 1
  obtain ⟨m, hm⟩ : ∃ m, ws.length - k = m + 1 := ⟨ws.length - k - 1, by omega⟩
  rw [hm, show ws.length - (k + 1) = m from by omega]
  simp [List.replicate_succ]
theorem filled_at (ws : List Int) (k : Nat) (h : k < ws.length) : (filled ws k)[k]? = some 0 := by
  have hl : (ws.take k).length = k := by simp; omega
  unfold filled
  rw [List.getElem?_append_right (by omega), hl, Nat.sub_self, List.getElem?_replicate, if_pos (by omega)]
end Go.Lf

/-! full: plain facts. -/
namespace Go.Lf
/-- The error of the arguments of New. -/
def fErr (base n : Int) (len : Nat) : Int := if n < 1 ∨ 64 < n then 2 else if base < 0 ∨ (len : Int) < base + n then 3 else 0
theorem fErr_two {base n : Int} {len : Nat} (h : n < 1 ∨ 64 < n) : fErr base n len = 2 := if_pos h
theorem fErr_three {base n : Int} {len : Nat} (h : ¬ (n < 1 ∨ 64 < n)) (h' : base < 0 ∨ (len : Int) < base + n) : fErr base n len = 3 := (if_neg h).trans (if_pos h')
theorem fErr_zero {base n : Int} {len : Nat} (h : fErr base n len = 0) : 1 ≤ n ∧ n ≤ 64 ∧ 0 ≤ base ∧ base + n ≤ len := by
  unfold fErr at h
  split at h
  · omega
  · split at h <;> omega
/-- The slots below k whose number is odd. -/
def fopens (nums : List Int) (k : Nat) : List Int := ((List.range k).filter (fun i => nums[i]?.getD 0 % 2 == 1)).map Int.ofNat
theorem fopens_yes {nums : List Int} {k : Nat} {x : Int} (h : nums[k]? = some x) (hx : x % 2 = 1) : fopens nums (k + 1) = fopens nums k ++ [(k : Int)] := by
  simp [fopens, List.range_succ, h, hx]
theorem fopens_no {nums : List Int} {k : Nat} {x : Int} (h : nums[k]? = some x) (hx : ¬ x % 2 = 1) : fopens nums (k + 1) = fopens nums k := by
  simp [fopens, List.range_succ, h, hx]
theorem fopens_len (nums : List Int) (k : Nat) : (fopens nums k).length ≤ k := by
  have := List.length_filter_le (fun i => nums[i]?.getD 0 % 2 == 1) (List.range k)
  simpa [fopens] using this
theorem fopens_zero (n k : Nat) : fopens (List.replicate n 0) k = [] := by
  simp [fopens, List.getElem?_replicate]
  intro a _
  split <;> simp
end Go.Lf

/-! The error of the arguments of New of an engine of n parts of k words, at most bd parts. -/
namespace Go.Lf
def pErr (k bd base n : Int) (len : Nat) : Int := if n < 1 ∨ bd < n then 2 else if base < 0 ∨ (len : Int) < base + k * n then 3 else 0
theorem pErr_two {k bd base n : Int} {len : Nat} (h : n < 1 ∨ bd < n) : pErr k bd base n len = 2 := if_pos h
theorem pErr_three {k bd base n : Int} {len : Nat} (h : ¬ (n < 1 ∨ bd < n)) (h' : base < 0 ∨ (len : Int) < base + k * n) : pErr k bd base n len = 3 := (if_neg h).trans (if_pos h')
theorem pErr_zero {k bd base n : Int} {len : Nat} (h : pErr k bd base n len = 0) : 1 ≤ n ∧ n ≤ bd ∧ 0 ≤ base ∧ base + k * n ≤ len := by
  unfold pErr at h
  split at h
  · omega
  · split at h <;> omega
end Go.Lf

/-! Lists of seven cells for each thread. -/
namespace Go.Lf
theorem flat7 {α β : Type} (f : α → List β) (hf : ∀ a, (f a).length = 7) (l : List α) (pre : List β) {t : Nat} {x : α} (hx : l[t]? = some x) {j : Nat} (hj : j < 7) : (pre ++ l.flatMap f)[pre.length + t * 7 + j]? = (f x)[j]? := by
  rw [show pre.length + t * 7 + j = pre.length + (t * 7 + j) by omega, List.getElem?_append_right (by omega), show pre.length + (t * 7 + j) - pre.length = t * 7 + j by omega]
  induction l generalizing t with
  | nil => simp at hx
  | cons a l ih =>
    cases t with
    | zero =>
      simp at hx; subst hx
      rw [List.flatMap_cons, List.getElem?_append_left (by have := hf a; omega)]
      simp
    | succ t =>
      have h1 := ih (t := t) (by simpa using hx)
      rw [List.flatMap_cons, List.getElem?_append_right (by have := hf a; omega), hf a, show (t + 1) * 7 + j - 7 = t * 7 + j by omega]
      exact h1
theorem flat7_set {α β : Type} (f : α → List β) (hf : ∀ a, (f a).length = 7) (l : List α) (pre : List β) {t : Nat} {x x' : α} (hx : l[t]? = some x) {j : Nat} (hj : j < 7) (v : β) (he : f x' = (f x).set j v) : (pre ++ l.flatMap f).set (pre.length + t * 7 + j) v = pre ++ (l.set t x').flatMap f := by
  rw [show pre.length + t * 7 + j = pre.length + (t * 7 + j) by omega, List.set_append_right _ _ (by omega), show pre.length + (t * 7 + j) - pre.length = t * 7 + j by omega]
  congr 1
  induction l generalizing t with
  | nil => simp at hx
  | cons a l ih =>
    cases t with
    | zero =>
      simp at hx; subst hx
      rw [List.flatMap_cons, List.set_append_left _ _ (by have := hf a; omega), List.set_cons_zero, List.flatMap_cons, he]
      simp
    | succ t =>
      have h1 := ih (t := t) (by simpa using hx)
      rw [List.flatMap_cons, List.set_append_right _ _ (by have := hf a; omega), hf a, show (t + 1) * 7 + j - 7 = t * 7 + j by omega, List.set_cons_succ, List.flatMap_cons, h1]
theorem flat7_same {α β : Type} (f : α → List β) (l : List α) {t : Nat} {x x' : α} (hx : l[t]? = some x) (he : f x' = f x) : (l.set t x').flatMap f = l.flatMap f := by
  induction l generalizing t with
  | nil => rfl
  | cons a l ih =>
    cases t with
    | zero =>
      simp at hx; subst hx
      simp [he]
    | succ t => simp [ih (t := t) (by simpa using hx)]
theorem flatn_at {α β : Type} (f : α → List β) (n : Nat) (hf : ∀ a, (f a).length = n) (l : List α) {t : Nat} {x : α} (hx : l[t]? = some x) {j : Nat} (hj : j < n) : (l.flatMap f)[t * n + j]? = (f x)[j]? := by
  induction l generalizing t with
  | nil => simp at hx
  | cons a l ih =>
    cases t with
    | zero =>
      simp at hx; subst hx
      rw [List.flatMap_cons, List.getElem?_append_left (by have := hf a; omega)]
      simp
    | succ t =>
      have h1 := ih (t := t) (by simpa using hx)
      rw [List.flatMap_cons, List.getElem?_append_right (by rw [hf a, Nat.succ_mul]; omega), hf a, show (t + 1) * n + j - n = t * n + j by rw [Nat.succ_mul]; omega]
      exact h1
theorem flatn_set {α β : Type} (f : α → List β) (n : Nat) (hf : ∀ a, (f a).length = n) (l : List α) {t : Nat} {x x' : α} (hx : l[t]? = some x) {j : Nat} (hj : j < n) (v : β) (he : f x' = (f x).set j v) : (l.flatMap f).set (t * n + j) v = (l.set t x').flatMap f := by
  induction l generalizing t with
  | nil => simp at hx
  | cons a l ih =>
    cases t with
    | zero =>
      simp at hx; subst hx
      rw [List.flatMap_cons, List.set_append_left _ _ (by have := hf a; omega), List.set_cons_zero, List.flatMap_cons, he]
      simp
    | succ t =>
      have h1 := ih (t := t) (by simpa using hx)
      rw [List.flatMap_cons, List.set_append_right _ _ (by rw [hf a, Nat.succ_mul]; omega), hf a, show (t + 1) * n + j - n = t * n + j by rw [Nat.succ_mul]; omega, List.set_cons_succ, List.flatMap_cons, h1]
theorem set_cases {α : Type} {l : List α} {t : Nat} {x' : α} {i : Nat} {y : α} (h : (l.set t x')[i]? = some y) : (i = t ∧ y = x') ∨ (i ≠ t ∧ l[i]? = some y) := by
  rw [List.getElem?_set] at h
  split at h
  · rename_i e; subst e
    split at h
    · exact .inl ⟨rfl, (Option.some.inj h).symm⟩
    · cases h
  · rename_i e; exact .inr ⟨fun h => e h.symm, h⟩
theorem put_self {α : Type} {l : List α} {i : Nat} {x : α} (h : l[i]? = some x) (y : α) : (l.set i y)[i]? = some y := by
  rw [List.getElem?_set, if_pos rfl, if_pos (by obtain ⟨h1, -⟩ := List.getElem?_eq_some_iff.1 h; exact h1)]
theorem set_eq {α : Type} {l : List α} {i : Nat} {x : α} (h : l[i]? = some x) : l.set i x = l := by
  obtain ⟨h1, h2⟩ := List.getElem?_eq_some_iff.1 h
  rw [← h2]; exact List.set_getElem_self h1
end Go.Lf

/-! Two sides that lie apart in one memory, and the blocks of the walk itself. -/
set_option linter.unusedVariables false
set_option linter.unusedSimpArgs false
namespace Go.Lf
open Go.RowKit
/-- A way in which a state lies in a world, at a set of blocks. -/
structure Lies (σ : Type) where
  lie : World → (Nat → Prop) → σ → Prop
  keep : ∀ {w w' : World} {A S : Nat → Prop} {s : σ}, lie w A s → Keep S w w' → (∀ k, A k → ¬ S k) → lie w' A s
  lt : ∀ {w : World} {A : Nat → Prop} {s : σ}, lie w A s → ∀ k, A k → k < w.heap.size
/-- A call has turned the state. -/
def Lies.To {σ : Type} (P : Lies σ) (w : World) (A : Nat → Prop) (s' : σ) (w' : World) : Prop := ∃ A', P.lie w' A' s' ∧ Keep A w w' ∧ Foot w A A'
/-- What neither side may turn: the walk's own blocks, and what was there before. -/
def Out (w : World) (L : Nat → Prop) : Nat → Prop := fun k => ¬ L k ∧ w.heap.size ≤ k
structure Two {σ τ : Type} (P : Lies σ) (R : Lies τ) (w : World) (L : Nat → Prop) (s : σ) (r : τ) (wr : World) : Prop where
  ex : ∃ A B, P.lie wr A s ∧ R.lie wr B r ∧ (∀ k, A k → ¬ B k ∧ ¬ L k ∧ w.heap.size ≤ k) ∧ (∀ k, B k → ¬ L k ∧ w.heap.size ≤ k)
  ll : ∀ k, L k → k < wr.heap.size ∧ w.heap.size ≤ k
  own : Keep Nil w wr

section
variable {σ τ : Type} {P : Lies σ} {R : Lies τ} {w wr w' : World} {L : Nat → Prop} {s s' : σ} {r r' : τ}
theorem Lies.quiet {A : Nat → Prop} (h : P.lie wr A s) (hk : Keep Nil wr w') : P.lie w' A s := P.keep h hk (fun _ _ h => h)
theorem Two.quiet (h : Two P R w L s r wr) (hk : Keep Nil wr w') : Two P R w L s r w' := by
  obtain ⟨⟨A, B, h1, h2, h3, h4⟩, h5, h6⟩ := h
  exact ⟨⟨A, B, P.keep h1 hk (fun _ _ h => h), R.keep h2 hk (fun _ _ h => h), h3, h4⟩, fun k hk' => ⟨by have := (h5 k hk').1; have := hk.size; omega, (h5 k hk').2⟩, h6.trans hk (fun _ _ h => h)⟩
theorem Two.loc (h : Two P R w L s r wr) (hk : Keep L wr w') {L' : Nat → Prop} (hL : ∀ k, L' k → L k ∨ (wr.heap.size ≤ k ∧ k < w'.heap.size)) : Two P R w L' s r w' := by
  obtain ⟨⟨A, B, h1, h2, h3, h4⟩, h5, h6⟩ := h
  have hz := hk.size
  have h0 := h6.size
  have a1 := P.lt h1
  have b1 := R.lt h2
  refine ⟨⟨A, B, P.keep h1 hk (fun k hA hl => (h3 k hA).2.1 hl), R.keep h2 hk (fun k hB hl => (h4 k hB).1 hl), fun k hA => ⟨(h3 k hA).1, fun hl => ?_, (h3 k hA).2.2⟩, fun k hB => ⟨fun hl => ?_, (h4 k hB).2⟩⟩, fun k hl => ?_, h6.trans hk (fun j hj hl => by have := (h5 j hl).2; omega)⟩
  · rcases hL k hl with e | e
    · exact (h3 k hA).2.1 e
    · have := a1 k hA; omega
  · rcases hL k hl with e | e
    · exact (h4 k hB).1 e
    · have := b1 k hB; omega
  · rcases hL k hl with e | e
    · have := h5 k e; omega
    · omega
theorem Two.less (h : Two P R w L s r wr) {L' : Nat → Prop} (hL : ∀ k, L' k → L k) : Two P R w L' s r wr := h.loc (Keep.refl L wr) (fun k hk => .inl (hL k hk))
/-- A call of the first side. -/
theorem Two.turn1 {A : Nat → Prop} {B : Nat → Prop} (_h1 : P.lie wr A s) (h2 : R.lie wr B r) (h3 : ∀ k, A k → ¬ B k ∧ ¬ L k ∧ w.heap.size ≤ k) (h4 : ∀ k, B k → ¬ L k ∧ w.heap.size ≤ k) (h5 : ∀ k, L k → k < wr.heap.size ∧ w.heap.size ≤ k) (h6 : Keep Nil w wr) (ht : P.To wr A s' w') :
    Two P R w L s' r w' ∧ Keep (Out w L) wr w' := by
  obtain ⟨A', p, k, f⟩ := ht
  have hz := k.size
  have h0 := h6.size
  have b1 := R.lt h2
  refine ⟨⟨⟨A', B, p, R.keep h2 k (fun j hB hA => (h3 j hA).1 hB), fun j hA => ?_, h4⟩, fun j hl => ⟨by have := (h5 j hl).1; omega, (h5 j hl).2⟩, h6.trans k (fun j hj hA => by have := (h3 j hA).2.2; omega)⟩, k.mono (fun j _ hA => (h3 j hA).2)⟩
  rcases f j hA with e | e
  · exact h3 j e
  · exact ⟨fun hB => by have := b1 j hB; omega, fun hl => by have := (h5 j hl).1; omega, by omega⟩
theorem Two.turn2 {A : Nat → Prop} {B : Nat → Prop} (h1 : P.lie wr A s) (_h2 : R.lie wr B r) (h3 : ∀ k, A k → ¬ B k ∧ ¬ L k ∧ w.heap.size ≤ k) (h4 : ∀ k, B k → ¬ L k ∧ w.heap.size ≤ k) (h5 : ∀ k, L k → k < wr.heap.size ∧ w.heap.size ≤ k) (h6 : Keep Nil w wr) (ht : R.To wr B r' w') :
    Two P R w L s r' w' ∧ Keep (Out w L) wr w' := by
  obtain ⟨B', p, k, f⟩ := ht
  have hz := k.size
  have h0 := h6.size
  have a1 := P.lt h1
  refine ⟨⟨⟨A, B', P.keep h1 k (fun j hA hB => (h3 j hA).1 hB), p, fun j hA => ⟨fun hB => ?_, (h3 j hA).2⟩, fun j hB => ?_⟩, fun j hl => ⟨by have := (h5 j hl).1; omega, (h5 j hl).2⟩, h6.trans k (fun j hj hB => by have := (h4 j hB).2; omega)⟩, k.mono (fun j _ hB => h4 j hB)⟩
  · rcases f j hB with e | e
    · exact (h3 j hA).1 e
    · have := a1 j hA; omega
  · rcases f j hB with e | e
    · exact h4 j e
    · exact ⟨fun hl => by have := (h5 j hl).1; omega, by omega⟩
theorem Two.call1 (h : Two P R w L s r wr) {Q : Program} {f : FuncId} {args : Array Value} {Φ : Ending → World → Prop} (hc : ∀ A, P.lie wr A s → Calls Q f args wr fun e w' => Φ e w' ∧ P.To wr A s' w') :
    Calls Q f args wr fun e w' => Φ e w' ∧ Two P R w L s' r w' ∧ Keep (Out w L) wr w' := by
  obtain ⟨⟨A, B, h1, h2, h3, h4⟩, h5, h6⟩ := h
  exact (hc A h1).mono fun e w' ⟨a, b⟩ => ⟨a, Two.turn1 h1 h2 h3 h4 h5 h6 b⟩
theorem Two.call2 (h : Two P R w L s r wr) {Q : Program} {f : FuncId} {args : Array Value} {Φ : Ending → World → Prop} (hc : ∀ B, R.lie wr B r → Calls Q f args wr fun e w' => Φ e w' ∧ R.To wr B r' w') :
    Calls Q f args wr fun e w' => Φ e w' ∧ Two P R w L s r' w' ∧ Keep (Out w L) wr w' := by
  obtain ⟨⟨A, B, h1, h2, h3, h4⟩, h5, h6⟩ := h
  exact (hc B h2).mono fun e w' ⟨a, b⟩ => ⟨a, Two.turn2 h1 h2 h3 h4 h5 h6 b⟩
theorem Two.has1 (h : Two P R w L s r wr) : ∃ A, P.lie wr A s := by obtain ⟨⟨A, _, h1, -⟩, -⟩ := h; exact ⟨A, h1⟩
theorem Two.has2 (h : Two P R w L s r wr) : ∃ B, R.lie wr B r := by obtain ⟨⟨_, B, _, h1, -⟩, -⟩ := h; exact ⟨B, h1⟩
theorem Keep.loc {w0 : World} (hk : Keep (Out w0 L) wr w') {b : Nat} {o : Obj} (hb : wr.heap[b]? = some o) (hl : L b) : w'.heap[b]? = some o := hk.at hb (fun h => h.1 hl)
/-- Both sides made anew, one after the other. -/
theorem Two.fresh {w1 w2 : World} {A B : Nat → Prop} (k1 : Keep Nil w w1) (h1 : P.lie w1 A s) (a : ∀ k, A k → w.heap.size ≤ k) (k2 : Keep Nil w1 w2) (h2 : R.lie w2 B r) (b : ∀ k, B k → w1.heap.size ≤ k) : Two P R w Nil s r w2 := by
  have := k1.size
  exact ⟨⟨A, B, P.keep h1 k2 (fun _ _ h => h), h2, fun k hA => ⟨fun hB => by have := P.lt h1 k hA; have := b k hB; omega, fun h => h, a k hA⟩, fun k hB => ⟨fun h => h, by have := b k hB; omega⟩⟩, fun _ h => h.elim, k1.trans k2 (fun _ _ h => h)⟩
end
theorem get_snoc {α : Type} {l : List α} {o p : α} {i : Nat} (h : (l ++ [o])[i]? = some p) : (i = l.length ∧ p = o) ∨ (i ≠ l.length ∧ l[i]? = some p) := by
  by_cases hi : i < l.length
  · rw [List.getElem?_append_left hi] at h; exact .inr ⟨by omega, h⟩
  · rw [List.getElem?_append_right (by omega)] at h
    by_cases e : i = l.length
    · subst e; simp at h; exact .inl ⟨rfl, h.symm⟩
    · rw [List.getElem?_eq_none (by simp; omega)] at h; cases h
theorem row_beyond {wr w' : World} {e : TypeId} {size m : Nat} {v : Value} {xs : List Value} (ho : wr.ownsRow 0 e size v m xs) (hk : ∀ (k : Nat) (cs : Array Value), v.ownBlock = some k → wr.heap[k]? = some (.cells cs e (0, 0)) → w'.heap[k]? = some (.cells cs e (0, 0))) : w'.ownsRow 0 e size v m xs := by
  refine ⟨ho.1, ?_⟩
  rcases ho.2 with hz | ⟨q, cap, cur, rfl, h1, h2, h3⟩
  · exact .inl hz
  · exact .inr ⟨q, cap, cur, rfl, h1, hk q cur rfl h2, h3⟩
/-- A way in which an object lies at a block of its own. -/
structure OpLies (ω : Type) where
  at_ : World → Nat → ω → Prop
  keep : ∀ {w w' : World} {b : Nat} {o : ω} {S : Nat → Prop}, at_ w b o → Keep S w w' → ¬ S b → at_ w' b o
  lt : ∀ {w : World} {b : Nat} {o : ω}, at_ w b o → b < w.heap.size
/-- Objects beside a system: bl are their blocks. -/
structure ObjsAt {σ ω : Type} (P : Lies σ) (O : OpLies ω) (w : World) (A : Nat → Prop) (s : σ) (ops : List ω) (bl : List Nat) (F : Nat → Prop) : Prop where
  sys : P.lie w F s
  len : bl.length = ops.length
  objs : ∀ (i b : Nat) (o : ω), bl[i]? = some b → ops[i]? = some o → O.at_ w b o ∧ ¬ F b
  apart : ∀ i j b : Nat, bl[i]? = some b → bl[j]? = some b → i = j
  foot : ∀ k, A k ↔ F k ∨ k ∈ bl
section
variable {σ ω : Type} {P : Lies σ} {O : OpLies ω} {w w' : World} {A F F' : Nat → Prop} {s s' : σ} {ops ops' : List ω} {bl bl' : List Nat}
theorem ObjsAt.at (h : ObjsAt P O w A s ops bl F) {b : Nat} (hb : b ∈ bl) : ∃ (i : Nat) (o : ω), bl[i]? = some b ∧ ops[i]? = some o ∧ O.at_ w b o ∧ ¬ F b := by
  obtain ⟨i, hi⟩ := List.getElem?_of_mem hb
  obtain ⟨o, ho⟩ : ∃ o, ops[i]? = some o := ⟨_, List.getElem?_eq_getElem (by have := (List.getElem?_eq_some_iff.1 hi).1; have := h.len; omega)⟩
  exact ⟨i, o, hi, ho, h.objs i b o hi ho⟩
theorem ObjsAt.lt (h : ObjsAt P O w A s ops bl F) (k : Nat) (hA : A k) : k < w.heap.size := by
  rcases (h.foot k).1 hA with e | e
  · exact P.lt h.sys k e
  · obtain ⟨i, o, -, -, ho, -⟩ := h.at e; exact O.lt ho
theorem ObjsAt.keep (h : ObjsAt P O w A s ops bl F) {T : Nat → Prop} (hk : Keep T w w') (hn : ∀ k, A k → ¬ T k) : ObjsAt P O w' A s ops bl F :=
  ⟨P.keep h.sys hk (fun k hF => hn k ((h.foot k).2 (.inl hF))), h.len, fun i b o hb ho => ⟨O.keep (h.objs i b o hb ho).1 hk (hn b ((h.foot b).2 (.inr (List.mem_of_getElem? hb)))), (h.objs i b o hb ho).2⟩, h.apart, h.foot⟩
def Lies.objs (P : Lies σ) (O : OpLies ω) : Lies (σ × List ω × List Nat) where
  lie w A x := ∃ F, ObjsAt P O w A x.1 x.2.1 x.2.2 F
  keep := fun ⟨F, h⟩ hk hn => ⟨F, h.keep hk hn⟩
  lt := fun ⟨_, h⟩ k hA => h.lt k hA
theorem ObjsAt.to (h : ObjsAt P O w A s ops bl F) (t : Nat) (hs : P.lie w' F' s') (hk : Keep (fun k => F k ∨ bl[t]? = some k) w w') (hf : Foot w F F') (hl : bl'.length = ops'.length)
    (hnew : ∀ (i b : Nat) (o : ω), bl'[i]? = some b → ops'[i]? = some o → (i ≠ t ∧ bl[i]? = some b ∧ ops[i]? = some o) ∨ (O.at_ w' b o ∧ ¬ F' b)) (hbl : ∀ b ∈ bl', b ∈ bl ∨ w.heap.size ≤ b) (hap : ∀ i j b : Nat, bl'[i]? = some b → bl'[j]? = some b → i = j) :
    (P.objs O).To w A (s', ops', bl') w' := by
  refine ⟨fun k => F' k ∨ k ∈ bl', ⟨F', hs, hl, fun i b o hb ho => ?_, hap, fun _ => Iff.rfl⟩, hk.mono (fun k _ hk => (h.foot k).2 ?_), fun k hk => ?_⟩
  · rcases hnew i b o hb ho with ⟨e1, e2, e3⟩ | e
    · obtain ⟨ho2, hF⟩ := h.objs i b o e2 e3
      have hlt := O.lt ho2
      refine ⟨O.keep ho2 hk ?_, fun e => (hf b e).elim hF (fun e => by omega)⟩
      rintro (e | e)
      · exact hF e
      · exact e1 (h.apart i t b e2 e)
    · exact e
  · rcases hk with e | e
    · exact .inl e
    · exact .inr (List.mem_of_getElem? e)
  · rcases hk with e | e
    · exact (hf k e).elim (fun e => .inl ((h.foot k).2 (.inl e))) .inr
    · exact (hbl k e).elim (fun e => .inl ((h.foot k).2 (.inr e))) .inr
/-- Operation t has turned. -/
theorem ObjsAt.one (h : ObjsAt P O w A s ops bl F) {t b : Nat} {o' : ω} (hb : bl[t]? = some b) (hs : P.lie w' F' s') (ho : O.at_ w' b o') (hk : Keep (fun k => F k ∨ k = b) w w') (hf : Foot w F F') (hn : ¬ F' b) :
    (P.objs O).To w A (s', ops.set t o', bl) w' := by
  refine h.to t hs (hk.mono fun k _ e => ?_) hf (by simpa using h.len) (fun i b' p hb' hp => ?_) (fun b hb => .inl hb) h.apart
  · rcases e with e | e
    · exact .inl e
    · subst e; exact .inr hb
  · rcases set_cases hp with ⟨i1, i2⟩ | ⟨i1, i2⟩
    · subst i1; subst i2
      rw [hb] at hb'; cases hb'
      exact .inr ⟨ho, hn⟩
    · exact .inl ⟨i1, hb', i2⟩
/-- The system has turned. -/
theorem ObjsAt.none (h : ObjsAt P O w A s ops bl F) (hs : P.lie w' F' s') (hk : Keep F w w') (hf : Foot w F F') : (P.objs O).To w A (s', ops, bl) w' :=
  h.to bl.length hs (hk.mono fun k _ e => .inl e) hf h.len (fun i b' p hb' hp => .inl ⟨by have := (List.getElem?_eq_some_iff.1 hb').1; omega, hb', hp⟩) (fun b hb => .inl hb) h.apart
/-- A new object, at the first free block. -/
theorem ObjsAt.new (h : ObjsAt P O w A s ops bl F) {o : ω} (hs : P.lie w' F s') (ho : O.at_ w' w.heap.size o) (hk : Keep F w w') : (P.objs O).To w A (s', ops ++ [o], bl ++ [w.heap.size]) w' := by
  have nF : ¬ F w.heap.size := fun e => by have := P.lt h.sys _ e; omega
  have old : ∀ (i b : Nat), bl[i]? = some b → b < w.heap.size := fun i b hb => h.lt b ((h.foot b).2 (.inr (List.mem_of_getElem? hb)))
  refine h.to bl.length hs (hk.mono fun k _ e => .inl e) (fun k hk => .inl hk) (by simp [h.len]) (fun i b' p hb' hp => ?_) (fun b hb => ?_) (fun i j b hi hj => ?_)
  · rcases get_snoc hb' with ⟨e1, e2⟩ | ⟨e1, e2⟩ <;> rcases get_snoc hp with ⟨e3, e4⟩ | ⟨e3, e4⟩
    · subst e2; subst e4; exact .inr ⟨ho, nF⟩
    · exact absurd (e1.trans h.len) e3
    · exact absurd (e3.trans h.len.symm) e1
    · exact .inl ⟨e1, e2, e4⟩
  · rcases List.mem_append.1 hb with e | e
    · exact .inl e
    · simp only [List.mem_singleton] at e; exact .inr (by omega)
  · rcases get_snoc hi with ⟨e1, e2⟩ | ⟨e1, e2⟩ <;> rcases get_snoc hj with ⟨e3, e4⟩ | ⟨e3, e4⟩
    · exact e1.trans e3.symm
    · have := old j b e4; omega
    · have := old i b e2; omega
    · exact h.apart i j b e2 e4
theorem ObjsAt.same (h : ObjsAt P O w A s ops bl F) (hk : Keep Nil w w') : (P.objs O).To w A (s, ops, bl) w' :=
  ⟨A, ⟨F, h.keep hk (fun _ _ h => h)⟩, hk.mono (fun _ _ h => h.elim), fun _ h => .inl h⟩
theorem ObjsAt.init (hs : P.lie w F s) : ObjsAt P O w F s [] [] F := ⟨hs, rfl, fun i b o hb => by simp at hb, fun i j b hb => by simp at hb, fun k => by simp⟩
end
end Go.Lf

/-! Objects of several blocks beside a system. -/
set_option linter.unusedVariables false
set_option linter.unusedSimpArgs false
namespace Go.Lf
open Go.RowKit
/-- A way in which an object lies at blocks of its own. -/
structure ObLies (ω : Type) where
  at_ : World → ω → Prop
  has : ω → Nat → Prop
  keep : ∀ {w w' : World} {o : ω} {S : Nat → Prop}, at_ w o → Keep S w w' → (∀ k, has o k → ¬ S k) → at_ w' o
  lt : ∀ {w : World} {o : ω} {k : Nat}, at_ w o → has o k → k < w.heap.size
/-- Objects beside a system. -/
structure ObjsB {σ ω : Type} (P : Lies σ) (O : ObLies ω) (w : World) (A : Nat → Prop) (s : σ) (ops : List ω) (F : Nat → Prop) : Prop where
  sys : P.lie w F s
  objs : ∀ (i : Nat) (o : ω), ops[i]? = some o → O.at_ w o ∧ ∀ k, O.has o k → ¬ F k
  apart : ∀ (i j : Nat) (o p : ω) (k : Nat), ops[i]? = some o → ops[j]? = some p → O.has o k → O.has p k → i = j
  foot : ∀ k, A k ↔ F k ∨ ∃ (i : Nat) (o : ω), ops[i]? = some o ∧ O.has o k
section
variable {σ ω : Type} {P : Lies σ} {O : ObLies ω} {w w' : World} {A F F' : Nat → Prop} {s s' : σ} {ops ops' : List ω}
theorem ObjsB.lt (h : ObjsB P O w A s ops F) (k : Nat) (hA : A k) : k < w.heap.size := by
  rcases (h.foot k).1 hA with e | ⟨i, o, ho, hh⟩
  · exact P.lt h.sys k e
  · exact O.lt (h.objs i o ho).1 hh
theorem ObjsB.keep (h : ObjsB P O w A s ops F) {T : Nat → Prop} (hk : Keep T w w') (hn : ∀ k, A k → ¬ T k) : ObjsB P O w' A s ops F :=
  ⟨P.keep h.sys hk (fun k hF => hn k ((h.foot k).2 (.inl hF))), fun i o ho => ⟨O.keep (h.objs i o ho).1 hk (fun k hh => hn k ((h.foot k).2 (.inr ⟨i, o, ho, hh⟩))), (h.objs i o ho).2⟩, h.apart, h.foot⟩
def Lies.objsB (P : Lies σ) (O : ObLies ω) : Lies (σ × List ω) where
  lie w A x := ∃ F, ObjsB P O w A x.1 x.2 F
  keep := fun ⟨F, h⟩ hk hn => ⟨F, h.keep hk hn⟩
  lt := fun ⟨_, h⟩ k hA => h.lt k hA
/-- What is made of the objects: those that stay, and those that are as new. -/
theorem ObjsB.to (h : ObjsB P O w A s ops F) (t : Nat) (hs : P.lie w' F' s') (hk : Keep (fun k => F k ∨ ∃ o, ops[t]? = some o ∧ O.has o k) w w') (hf : Foot w F F')
    (hnew : ∀ (i : Nat) (o : ω), ops'[i]? = some o → (i ≠ t ∧ ops[i]? = some o) ∨ (O.at_ w' o ∧ ∀ k, O.has o k → ¬ F' k ∧ ((∃ p, ops[t]? = some p ∧ O.has p k) ∨ w.heap.size ≤ k)))
    (hone : ∀ (i j : Nat) (o p : ω), ops'[i]? = some o → ops'[j]? = some p → (i ≠ t ∧ ops[i]? = some o) ∨ (j ≠ t ∧ ops[j]? = some p) ∨ i = j) :
    ∃ A', ObjsB P O w' A' s' ops' F' ∧ Keep A w w' ∧ Foot w A A' := by
  refine ⟨fun k => F' k ∨ ∃ (i : Nat) (o : ω), ops'[i]? = some o ∧ O.has o k, ⟨hs, fun i o ho => ?_, fun i j o p k ho hp ho' hp' => ?_, fun _ => Iff.rfl⟩, hk.mono (fun k _ hk => (h.foot k).2 ?_), fun k hk' => ?_⟩
  · rcases hnew i o ho with ⟨e1, e2⟩ | ⟨e1, e2⟩
    · obtain ⟨ho2, hF⟩ := h.objs i o e2
      refine ⟨O.keep ho2 hk fun k hh e => ?_, fun k hh e => (hf k e).elim (hF k hh) (fun e => by have := O.lt ho2 hh; omega)⟩
      rcases e with e | ⟨p, hp, e⟩
      · exact hF k hh e
      · exact e1 (h.apart i t o p k e2 hp hh e)
    · exact ⟨e1, fun k hh => (e2 k hh).1⟩
  · have old : ∀ (i j : Nat) (o p : ω), i ≠ t → ops[i]? = some o → ops'[j]? = some p → O.has o k → O.has p k → i = j := by
      intro i j o p hi ho hp ho' hp'
      have hl := O.lt (h.objs i o ho).1 ho'
      rcases hnew j p hp with ⟨e1, e2⟩ | ⟨e1, e2⟩
      · exact h.apart i j o p k ho e2 ho' hp'
      · rcases (e2 k hp').2 with ⟨q, hq, e⟩ | e
        · exact absurd (h.apart i t o q k ho hq ho' e) hi
        · omega
    rcases hone i j o p ho hp with ⟨e1, e2⟩ | ⟨e1, e2⟩ | e
    · exact old i j o p e1 e2 hp ho' hp'
    · exact (old j i p o e1 e2 ho hp' ho').symm
    · exact e
  · rcases hk with e | ⟨o, ho, e⟩
    · exact .inl e
    · exact .inr ⟨t, o, ho, e⟩
  · rcases hk' with e | ⟨i, o, ho, hh⟩
    · exact (hf k e).elim (fun e => .inl ((h.foot k).2 (.inl e))) .inr
    · rcases hnew i o ho with ⟨e1, e2⟩ | ⟨e1, e2⟩
      · exact .inl ((h.foot k).2 (.inr ⟨i, o, e2, hh⟩))
      · rcases (e2 k hh).2 with ⟨q, hq, e⟩ | e
        · exact .inl ((h.foot k).2 (.inr ⟨t, q, hq, e⟩))
        · exact .inr e
/-- Object t has turned. -/
theorem ObjsB.one (h : ObjsB P O w A s ops F) {t : Nat} {o o' : ω} (ho : ops[t]? = some o) (hs : P.lie w' F' s') (ho' : O.at_ w' o') (hk : Keep (fun k => F k ∨ O.has o k) w w') (hf : Foot w F F') (hn : ∀ k, O.has o' k → ¬ F' k ∧ (O.has o k ∨ w.heap.size ≤ k)) :
    ∃ A', ObjsB P O w' A' s' (ops.set t o') F' ∧ Keep A w w' ∧ Foot w A A' := by
  refine h.to t hs (hk.mono fun k _ e => e.elim .inl (fun e => .inr ⟨o, ho, e⟩)) hf (fun i p hp => ?_) (fun i j p q hp hq => ?_)
  · rcases set_cases hp with ⟨i1, i2⟩ | ⟨i1, i2⟩
    · subst i2
      exact .inr ⟨ho', fun k hh => ⟨(hn k hh).1, (hn k hh).2.elim (fun e => .inl ⟨o, ho, e⟩) .inr⟩⟩
    · exact .inl ⟨i1, i2⟩
  · rcases set_cases hp with ⟨i1, i2⟩ | ⟨i1, i2⟩
    · rcases set_cases hq with ⟨j1, j2⟩ | ⟨j1, j2⟩
      · exact .inr (.inr (i1.trans j1.symm))
      · exact .inr (.inl ⟨j1, j2⟩)
    · exact .inl ⟨i1, i2⟩
/-- The system has turned. -/
theorem ObjsB.none (h : ObjsB P O w A s ops F) (hs : P.lie w' F' s') (hk : Keep F w w') (hf : Foot w F F') : ∃ A', ObjsB P O w' A' s' ops F' ∧ Keep A w w' ∧ Foot w A A' :=
  h.to ops.length hs (hk.mono fun k _ e => .inl e) hf (fun i p hp => .inl ⟨by have := (List.getElem?_eq_some_iff.1 hp).1; omega, hp⟩) (fun i j p q hp hq => .inl ⟨by have := (List.getElem?_eq_some_iff.1 hp).1; omega, hp⟩)
/-- A new object. -/
theorem ObjsB.new (h : ObjsB P O w A s ops F) {o : ω} (hs : P.lie w' F' s') (ho : O.at_ w' o) (hk : Keep F w w') (hf : Foot w F F') (hn : ∀ k, O.has o k → ¬ F' k ∧ w.heap.size ≤ k) : ∃ A', ObjsB P O w' A' s' (ops ++ [o]) F' ∧ Keep A w w' ∧ Foot w A A' := by
  refine h.to ops.length hs (hk.mono fun k _ e => .inl e) hf (fun i p hp => ?_) (fun i j p q hp hq => ?_)
  · rcases get_snoc hp with ⟨i1, i2⟩ | ⟨i1, i2⟩
    · subst i2; exact .inr ⟨ho, fun k hh => ⟨(hn k hh).1, .inr (hn k hh).2⟩⟩
    · exact .inl ⟨i1, i2⟩
  · rcases get_snoc hp with ⟨i1, i2⟩ | ⟨i1, i2⟩
    · rcases get_snoc hq with ⟨j1, j2⟩ | ⟨j1, j2⟩
      · exact .inr (.inr (i1.trans j1.symm))
      · exact .inr (.inl ⟨j1, j2⟩)
    · exact .inl ⟨i1, i2⟩
theorem ObjsB.same (h : ObjsB P O w A s ops F) (hk : Keep Nil w w') : ∃ A', ObjsB P O w' A' s ops F ∧ Keep A w w' ∧ Foot w A A' :=
  ⟨A, h.keep hk (fun _ _ h => h), hk.mono (fun _ _ h => h.elim), fun _ h => .inl h⟩
theorem ObjsB.init (hs : P.lie w F s) : ObjsB P O w F s [] F := ⟨hs, fun i o hb => by simp at hb, fun i j o p k hb => by simp at hb, fun k => by simp⟩
end
section
variable {σ τ : Type} {P : Lies σ} {R : Lies τ} {w wr w' : World} {L : Nat → Prop} {s : σ} {r : τ} {X : Type}
/-- A call of the first side whose outcome hangs on what it lays. -/
theorem Two.call1x (h : Two P R w L s r wr) {Q : Program} {f : FuncId} {args : Array Value} {Φ : X → Ending → Prop} {s' : X → σ} (hc : ∀ A, P.lie wr A s → Calls Q f args wr fun e w' => ∃ x, Φ x e ∧ P.To wr A (s' x) w') :
    Calls Q f args wr fun e w' => ∃ x, Φ x e ∧ Two P R w L (s' x) r w' ∧ Keep (Out w L) wr w' := by
  obtain ⟨⟨A, B, h1, h2, h3, h4⟩, h5, h6⟩ := h
  exact (hc A h1).mono fun e w' ⟨x, a, b⟩ => ⟨x, a, Two.turn1 h1 h2 h3 h4 h5 h6 b⟩
theorem Two.call2x (h : Two P R w L s r wr) {Q : Program} {f : FuncId} {args : Array Value} {Φ : X → Ending → Prop} {r' : X → τ} (hc : ∀ B, R.lie wr B r → Calls Q f args wr fun e w' => ∃ x, Φ x e ∧ R.To wr B (r' x) w') :
    Calls Q f args wr fun e w' => ∃ x, Φ x e ∧ Two P R w L s (r' x) w' ∧ Keep (Out w L) wr w' := by
  obtain ⟨⟨A, B, h1, h2, h3, h4⟩, h5, h6⟩ := h
  exact (hc B h2).mono fun e w' ⟨x, a, b⟩ => ⟨x, a, Two.turn2 h1 h2 h3 h4 h5 h6 b⟩
end
end Go.Lf

/-! A slice against nil: runs of the operations, over any program. -/
namespace Go.Lf
open Go.RowKit
section
variable {P : Program} (w : World)
theorem run_eqs_some (d : Nat) {t e : TypeId} (h : P.underlying t = some (.slice e)) (ad : Addr) (n c : Nat) : (Op.equalIn (d + 1) t (.slice (some ad) n c) (.slice none 0 0)).run P w = .ok false w := by
  simp [Op.equalIn, run_underlying h]
theorem run_eqs_none (d : Nat) {t e : TypeId} (h : P.underlying t = some (.slice e)) (n c : Nat) : (Op.equalIn (d + 1) t (.slice none n c) (.slice none 0 0)).run P w = .ok true w := by
  simp [Op.equalIn, run_underlying h]
theorem run_eql_some {t e : TypeId} (h : P.underlying t = some (.slice e)) (ad : Addr) (n c : Nat) : (binOp .eql t (.slice (some ad) n c) (.slice none 0 0)).run P w = .ok (.bool false) w := by
  simp only [binOp]
  simp [Op.equal, Op.maxDepth, run_eqs_some w 9999 h]
theorem run_eql_none {t e : TypeId} (h : P.underlying t = some (.slice e)) (n c : Nat) : (binOp .eql t (.slice none n c) (.slice none 0 0)).run P w = .ok (.bool true) w := by
  simp only [binOp]
  simp [Op.equal, Op.maxDepth, run_eqs_none w 9999 h]
end
end Go.Lf
