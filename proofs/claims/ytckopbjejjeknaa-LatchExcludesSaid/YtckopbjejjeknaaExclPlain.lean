/- LatchExcludes: the state of the run. -/
import Derived.Test.YtckopbjejjeknaaLocks
namespace Go.Proofs.Ytckopbjejjeknaa
open Go.RowKit Go.Lf

def ptrV : Option Nat → Value
  | none => .pointer none
  | some b => .pointer (some ⟨b, 0, none⟩)
/-- The locks of the threads at block rb, their failures at block fb. -/
structure Bx (w wr : World) (F : Nat → Prop) (ls : List (Nat × LS)) (rb fb : Nat) (R : List (Option Nat)) (fs : List Int) : Prop where
  r : wr.heap[rb]? = some (.cells (R.map ptrV).toArray 50 (0, 0))
  f : wr.heap[fb]? = some (.cells (fs.map (Value.int .i64)).toArray 51 (0, 0))
  ne : rb ≠ fb
  nr : ¬ F rb
  nf : ¬ F fb
  nl : ∀ p ∈ ls, p.1 ≠ rb ∧ p.1 ≠ fb
  or' : w.heap.size ≤ rb
  of' : w.heap.size ≤ fb

variable {w wr w1 : World} {mb : Nat} {F F1 : Nat → Prop} {ws : List Int} {log : List Acc} {ls : List (Nat × LS)} {rb fb : Nat} {R : List (Option Nat)} {fs : List Int}

theorem Bx.lt (h : Bx w wr F ls rb fb R fs) : rb < wr.heap.size ∧ fb < wr.heap.size := ⟨lt_of_block h.r, lt_of_block h.f⟩
theorem Bx.keep (h : Bx w wr F ls rb fb R fs) (hk : Keep Nil wr w1) : Bx w w1 F ls rb fb R fs := ⟨hk.at h.r (fun h => h), hk.at h.f (fun h => h), h.ne, h.nr, h.nf, h.nl, h.or', h.of'⟩
theorem Bx.mem (h : Bx w wr F ls rb fb R fs) (hk : Keep F wr w1) (hf : Foot wr F F1) : Bx w w1 F1 ls rb fb R fs := by
  obtain ⟨l1, l2⟩ := h.lt
  exact ⟨hk.at h.r h.nr, hk.at h.f h.nf, h.ne, fun e => (hf _ e).elim h.nr (fun h' => by omega), fun e => (hf _ e).elim h.nf (fun h' => by omega), h.nl, h.or', h.of'⟩
theorem Bx.step (h : Bx w wr F ls rb fb R fs) {i lb : Nat} {s s' : LS} (hi : ls[i]? = some (lb, s)) (hk : Keep (fun k => F k ∨ k = lb) wr w1) (hf : Foot wr F F1) : Bx w w1 F1 (ls.set i (lb, s')) rb fb R fs := by
  obtain ⟨l1, l2⟩ := h.lt
  obtain ⟨n1, n2⟩ := h.nl _ (List.mem_of_getElem? hi)
  refine ⟨hk.at h.r (fun e => e.elim h.nr (fun e => n1 e.symm)), hk.at h.f (fun e => e.elim h.nf (fun e => n2 e.symm)), h.ne, fun e => (hf _ e).elim h.nr (fun h' => by omega), fun e => (hf _ e).elim h.nf (fun h' => by omega), fun p hp => ?_, h.or', h.of'⟩
  rcases set_mem hp with rfl | ⟨j, -, hj⟩
  · exact ⟨n1, n2⟩
  · exact h.nl p (List.mem_of_getElem? hj)
theorem Bx.add (h : Bx w wr F ls rb fb R fs) {s : LS} (hk : Keep Nil wr w1) : Bx w w1 F (ls ++ [(wr.heap.size, s)]) rb fb R fs := by
  obtain ⟨l1, l2⟩ := h.lt
  refine ⟨hk.at h.r (fun h => h), hk.at h.f (fun h => h), h.ne, h.nr, h.nf, fun p hp => ?_, h.or', h.of'⟩
  rcases List.mem_append.1 hp with hp | hp
  · exact h.nl p hp
  · simp at hp; subst hp; exact ⟨by simp; omega, by simp; omega⟩
theorem Bx.setR (h : Bx w wr F ls rb fb R fs) (t : Nat) (x : Option Nat) : Bx w (wr.setCell ⟨rb, t, none⟩ (ptrV x)) F ls rb fb (R.set t x) fs :=
  ⟨by rw [set_same h.r]; simp [List.map_set], set_other h.f (fun e => h.ne e.symm) _, h.ne, h.nr, h.nf, h.nl, h.or', h.of'⟩
theorem Bx.setF (h : Bx w wr F ls rb fb R fs) (t : Nat) (x : Int) : Bx w (wr.setCell ⟨fb, t, none⟩ (.int .i64 x)) F ls rb fb R (fs.set t x) :=
  ⟨set_other h.r h.ne _, by rw [set_same h.f]; simp [List.map_set], h.ne, h.nr, h.nf, h.nl, h.or', h.of'⟩
/-- A box of the run has turned. -/
theorem Sys.box (h : Sys w wr mb F ws log ls) (hb : Bx w wr F ls rb fb R fs) (p : Addr) (hp : p.block = rb ∨ p.block = fb) (v : Value) : Sys w (wr.setCell p v) mb F ws log ls := by
  have hk : Keep (fun k => k = p.block) wr (wr.setCell p v) := Keep.setCell (Keep.refl (fun k => k = p.block) wr) (.inl rfl) _
  have n0 : ¬ F p.block := by rcases hp with e | e <;> rw [e]; exact hb.nr; exact hb.nf
  refine ⟨h.mem.keep hk (fun k hF e => n0 (by rw [← e]; exact hF)), ⟨h.own.1.trans hk (fun j hj e => by
    have := hb.or'; have := hb.of'; rcases hp with e' | e' <;> omega), h.own.2⟩, fun q hq => ⟨(h.at' q hq).1.keep hk (fun e => ?_), (h.at' q hq).2⟩, h.ne⟩
  obtain ⟨n1, n2⟩ := hb.nl q hq
  rcases hp with e' | e'
  · exact n1 (e.trans e')
  · exact n2 (e.trans e')
theorem Bx.cellR (h : Bx w wr F ls rb fb R fs) {t : Nat} {x : Option Nat} (hx : R[t]? = some x) : wr.cell? ⟨rb, t, none⟩ = some (ptrV x) := by rw [cell_of h.r]; simp [hx]
theorem Bx.cellF (h : Bx w wr F ls rb fb R fs) {t : Nat} {x : Int} (hx : fs[t]? = some x) : wr.cell? ⟨fb, t, none⟩ = some (.int .i64 x) := by rw [cell_of h.f]; simp [hx]

/-- Each thread's lock, if it has one. -/
def Runs (ls : List (Nat × LS)) (R : List (Option Nat)) (fs : List Int) (lim : Int) : Prop :=
  R.length = 8 ∧ fs.length = 8 ∧ ∀ (t lb : Nat), R[t]? = some (some lb) → ∃ (i : Nat) (f : Int), fs[t]? = some f ∧ ls[i]? = some (lb, ⟨f, lim, t, 0, true, 0⟩)
theorem Runs.clr {lim : Int} (h : Runs ls R fs lim) (t : Nat) : Runs ls (R.set t none) fs lim := by
  refine ⟨by simp [h.1], h.2.1, fun t' lb hx => ?_⟩
  rw [List.getElem?_set] at hx
  split at hx
  · split at hx
    · cases hx
    · cases hx
  · exact h.2.2 t' lb hx
theorem Runs.ended {lim : Int} (h : Runs ls R fs lim) {t i lb : Nat} {f : Int} {s' : LS} (hi : ls[i]? = some (lb, ⟨f, lim, t, 0, true, 0⟩)) (f' : Int) : Runs (ls.set i (lb, s')) (R.set t none) (fs.set t f') lim := by
  refine ⟨by simp [h.1], by simp [h.2.1], fun t' lb' hx => ?_⟩
  rw [List.getElem?_set] at hx
  split at hx
  · split at hx
    · cases hx
    · cases hx
  · rename_i hne
    obtain ⟨j, g, h1, h2⟩ := h.2.2 t' lb' hx
    refine ⟨j, g, by rw [List.getElem?_set, if_neg hne]; exact h1, ?_⟩
    rw [List.getElem?_set, if_neg (fun e => ?_)]
    · exact h2
    · subst e
      rw [hi] at h2
      simp at h2
      omega
theorem Runs.failed {lim : Int} (h : Runs ls R fs lim) {t i lb : Nat} {f : Int} (hR : R[t]? = some (some lb)) (hi : ls[i]? = some (lb, ⟨f, lim, t, 0, true, 0⟩)) :
    Runs (ls.set i (lb, ⟨f + 1, lim, t, 0, true, 0⟩)) R (fs.set t (f + 1)) lim := by
  have hil := lt_of_at hi
  refine ⟨h.1, by simp [h.2.1], fun t' lb' hx => ?_⟩
  by_cases e : t = t'
  · subst e
    rw [hR] at hx
    obtain rfl := Option.some.inj (Option.some.inj hx)
    refine ⟨i, f + 1, ?_, by rw [List.getElem?_set, if_pos rfl, if_pos hil]⟩
    rw [List.getElem?_set, if_pos rfl, if_pos (by have := lt_of_at hR; have := h.1; have := h.2.1; omega)]
  · obtain ⟨j, g, h1, h2⟩ := h.2.2 t' lb' hx
    refine ⟨j, g, by rw [List.getElem?_set, if_neg e]; exact h1, ?_⟩
    rw [List.getElem?_set, if_neg (fun e' => ?_)]
    · exact h2
    · subst e'
      rw [hi] at h2
      simp at h2
      omega
theorem Runs.begun {lim : Int} (h : Runs ls R fs lim) {t lb : Nat} (ht : t < 8) : Runs (ls ++ [(lb, ⟨0, lim, t, 0, true, 0⟩)]) (R.set t (some lb)) (fs.set t 0) lim := by
  refine ⟨by simp [h.1], by simp [h.2.1], fun t' lb' hx => ?_⟩
  by_cases e : t = t'
  · subst e
    rw [List.getElem?_set, if_pos rfl, if_pos (by have := h.1; omega)] at hx
    obtain rfl := Option.some.inj (Option.some.inj hx)
    exact ⟨ls.length, 0, by rw [List.getElem?_set, if_pos rfl, if_pos (by have := h.2.1; omega)], by simp⟩
  · rw [List.getElem?_set, if_neg e] at hx
    obtain ⟨j, g, h1, h2⟩ := h.2.2 t' lb' hx
    exact ⟨j, g, by rw [List.getElem?_set, if_neg e]; exact h1, by rw [List.getElem?_append_left (lt_of_at h2)]; exact h2⟩
end Go.Proofs.Ytckopbjejjeknaa
namespace Go.Proofs.Ytckopbjejjeknaa
open Go.RowKit Go.Lf
/-- The state between two events. -/
def ExI (w wr : World) (mb rb fb : Nat) (lim : Int) (k : Nat) (hs : Int) : Prop :=
  ∃ F ls R fs log, Sys w wr mb F [hs + 1] log ls ∧ Bx w wr F ls rb fb R fs ∧ Runs ls R fs lim ∧ log.length ≤ 3 * k ∧ ∀ (t : Nat) (f : Int), fs[t]? = some f → 0 ≤ f ∧ f ≤ k
/-- The state in which thread t has the lock lb, with f failures. -/
def ExM (w wr : World) (mb rb fb : Nat) (lim : Int) (k : Nat) (hs : Int) (t : Nat) : Prop :=
  ∃ F ls R fs log, ∃ (i lb : Nat) (f : Int), Sys w wr mb F [hs + 1] log ls ∧ Bx w wr F ls rb fb R fs ∧ Runs ls R fs lim ∧ log.length ≤ 3 * k ∧ (∀ (t : Nat) (f : Int), fs[t]? = some f → 0 ≤ f ∧ f ≤ k) ∧ R[t]? = some (some lb) ∧ ls[i]? = some (lb, ⟨f, lim, t, 0, true, 0⟩) ∧ fs[t]? = some f

variable {w wr w1 : World} {mb : Nat} {F F1 : Nat → Prop} {ws : List Int} {log : List Acc} {ls : List (Nat × LS)} {rb fb : Nat} {R : List (Option Nat)} {fs : List Int} {lim hs : Int} {k : Nat}

theorem ExI.unlock {hs' : Int} {a : Acc} (h : Sys w wr mb F ws log ls) (hb : Bx w wr F ls rb fb R fs) (hr : Runs ls R fs lim) (hl : log.length ≤ 3 * k) (hf : ∀ (t : Nat) (f : Int), fs[t]? = some f → 0 ≤ f ∧ f ≤ k) (ht : MemTo wr mb F [hs' + 1] (log ++ [a]) w1) : ExI w w1 mb rb fb lim (k + 1) hs' := by
  obtain ⟨F', hm, hk, hft⟩ := ht
  refine ⟨F', ls, R, fs, log ++ [a], ⟨hm, h.own.step hk hft, fun p hp => ?_, h.ne⟩, hb.mem hk hft, hr, by simp; omega, fun t f h => by have := hf t f h; omega⟩
  obtain ⟨h1, h2, h3⟩ := h.at' p hp
  refine ⟨h1.keep hk h2, fun hF => ?_, h3⟩
  rcases hft _ hF with h' | h'
  · exact h2 h'
  · have := lt_of_block h1; omega
theorem fs_set {fs : List Int} {t : Nat} {x : Int} {k : Nat} (hf : ∀ (t : Nat) (f : Int), fs[t]? = some f → 0 ≤ f ∧ f ≤ k) (h0 : 0 ≤ x) (h1 : x ≤ (k + 1 : Nat)) : ∀ (t' : Nat) (f : Int), (fs.set t x)[t']? = some f → 0 ≤ f ∧ f ≤ (k + 1 : Nat) := by
  intro t' f h
  rw [List.getElem?_set] at h
  split at h
  · split at h
    · obtain rfl := Option.some.inj h; exact ⟨h0, h1⟩
    · cases h
  · have := hf t' f h; omega
theorem ExM.begin {t : Nat} (ht : t < 8) (h : Sys w wr mb F [hs + 1] log ls) (hb : Bx w wr F ls rb fb R fs) (hr : Runs ls R fs lim) (hl : log.length ≤ 3 * k) (hf : ∀ (t : Nat) (f : Int), fs[t]? = some f → 0 ≤ f ∧ f ≤ k)
    (hn : LockAt w1 wr.heap.size mb ⟨0, lim, t, 0, true, 0⟩) (hk : Keep Nil wr w1) : ExM w ((w1.setCell ⟨rb, t, none⟩ (.pointer (some ⟨wr.heap.size, 0, none⟩))).setCell ⟨fb, t, none⟩ (.int .i64 0)) mb rb fb lim k hs t := by
  have h1 := h.add hn hk
  have b1 := hb.add (s := ⟨0, lim, t, 0, true, 0⟩) hk
  have h2 := h1.box b1 ⟨rb, t, none⟩ (.inl rfl) (.pointer (some ⟨wr.heap.size, 0, none⟩))
  have b2 := b1.setR t (some wr.heap.size)
  have h3 := h2.box b2 ⟨fb, t, none⟩ (.inr rfl) (.int .i64 0)
  have b3 := b2.setF t 0
  refine ⟨F, _, _, _, log, ls.length, wr.heap.size, 0, h3, b3, hr.begun ht, hl, fun t' f h => ?_, ?_, by simp, ?_⟩
  · rw [List.getElem?_set] at h
    split at h
    · split at h
      · obtain rfl := Option.some.inj h; omega
      · cases h
    · exact hf t' f h
  · rw [List.getElem?_set, if_pos rfl, if_pos (by have := hr.1; omega)]
  · rw [List.getElem?_set, if_pos rfl, if_pos (by have := hr.2.1; omega)]
/-- A lock of the run has made a step. -/
theorem sb_step {lb i : Nat} {s s' : LS} {ws' : List Int} {log' : List Acc} {done : Bool} {e : Ending} (h : Sys w wr mb F ws log ls) (hb : Bx w wr F ls rb fb R fs) (hi : ls[i]? = some (lb, s)) (ht : TryTo wr lb mb F s' ws' log' done e w1) :
    e = .returned (.tuple #[.int .u8 2, .bool done]) ∧ ∃ F', Sys w w1 mb F' ws' log' (ls.set i (lb, s')) ∧ Bx w w1 F' (ls.set i (lb, s')) rb fb R fs := by
  obtain ⟨he, F', hm, hl, hn, hk, hf⟩ := ht
  obtain ⟨-, hs⟩ := h.stepF hi hm hl hn hk hf
  exact ⟨he, F', hs, hb.step hi hk hf⟩
theorem set_id {α : Type} {l : List α} {i : Nat} {x : α} (h : l[i]? = some x) : l.set i x = l := by
  obtain ⟨h1, rfl⟩ := List.getElem?_eq_some_iff.1 h
  exact List.set_getElem_self h1
theorem ExI.won {i lb t : Nat} {f : Int} {s' : LS} {log' : List Acc} (h : Sys w w1 mb F1 [(t : Int) + 1] log' (ls.set i (lb, s'))) (hb : Bx w w1 F1 (ls.set i (lb, s')) rb fb R fs) (hr : Runs ls R fs lim) (hi : ls[i]? = some (lb, ⟨f, lim, t, 0, true, 0⟩)) (hft : fs[t]? = some f)
    (hl : log'.length ≤ 3 * (k + 1)) (hf : ∀ (t : Nat) (f : Int), fs[t]? = some f → 0 ≤ f ∧ f ≤ k) (n : Nat) : ExI w ((w1.drewN n).setCell ⟨rb, t, none⟩ (.pointer none)) mb rb fb lim (k + 1) t := by
  have h1 := h.keep ((Keep.refl Nil w1).drewN n)
  have b1 := hb.keep ((Keep.refl Nil w1).drewN n)
  have hr1 := hr.ended hi (s' := s') f
  rw [set_id hft] at hr1
  exact ⟨F1, _, _, _, log', h1.box b1 ⟨rb, t, none⟩ (.inl rfl) _, b1.setR t none, hr1, hl, fun t f h => by have := hf t f h; omega⟩
theorem ExI.lost {i lb t : Nat} {f : Int} {log' : List Acc} (h : Sys w w1 mb F1 [hs + 1] log' (ls.set i (lb, ⟨f + 1, lim, t, 0, true, 0⟩))) (hb : Bx w w1 F1 (ls.set i (lb, ⟨f + 1, lim, t, 0, true, 0⟩)) rb fb R fs) (hr : Runs ls R fs lim) (hR : R[t]? = some (some lb)) (hi : ls[i]? = some (lb, ⟨f, lim, t, 0, true, 0⟩)) (hft : fs[t]? = some f)
    (hl : log'.length ≤ 3 * (k + 1)) (hf : ∀ (t : Nat) (f : Int), fs[t]? = some f → 0 ≤ f ∧ f ≤ k) (n : Nat) : ExI w ((w1.drewN n).setCell ⟨fb, t, none⟩ (.int .i64 (f + 1))) mb rb fb lim (k + 1) hs := by
  have h1 := h.keep ((Keep.refl Nil w1).drewN n)
  have b1 := hb.keep ((Keep.refl Nil w1).drewN n)
  have := hf t f hft
  exact ⟨F1, _, _, _, log', h1.box b1 ⟨fb, t, none⟩ (.inr rfl) _, b1.setF t (f + 1), hr.failed hR hi, hl, fs_set hf (by omega) (by omega)⟩
theorem ExI.over {i lb t : Nat} {f : Int} {s' : LS} {log' : List Acc} (h : Sys w w1 mb F1 [hs + 1] log' (ls.set i (lb, s'))) (hb : Bx w w1 F1 (ls.set i (lb, s')) rb fb R fs) (hr : Runs ls R fs lim) (hi : ls[i]? = some (lb, ⟨f, lim, t, 0, true, 0⟩)) (hft : fs[t]? = some f)
    (hl : log'.length ≤ 3 * (k + 1)) (hf : ∀ (t : Nat) (f : Int), fs[t]? = some f → 0 ≤ f ∧ f ≤ k) (n : Nat) : ExI w (((w1.drewN n).setCell ⟨fb, t, none⟩ (.int .i64 (f + 1))).setCell ⟨rb, t, none⟩ (.pointer none)) mb rb fb lim (k + 1) hs := by
  have h1 := h.keep ((Keep.refl Nil w1).drewN n)
  have b1 := hb.keep ((Keep.refl Nil w1).drewN n)
  have h2 := h1.box b1 ⟨fb, t, none⟩ (.inr rfl) (.int .i64 (f + 1))
  have b2 := b1.setF t (f + 1)
  have := hf t f hft
  exact ⟨F1, _, _, _, log', h2.box b2 ⟨rb, t, none⟩ (.inl rfl) _, b2.setR t none, hr.ended hi (f + 1), hl, fs_set hf (by omega) (by omega)⟩
end Go.Proofs.Ytckopbjejjeknaa
