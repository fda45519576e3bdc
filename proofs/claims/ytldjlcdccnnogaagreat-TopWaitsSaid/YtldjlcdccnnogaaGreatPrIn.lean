/- A new engine behind prcu's face is at its beginning. -/
import Derived.Test.YtldjlcdccnnogaaGreatPrNew
set_option linter.unusedVariables false
set_option linter.unusedSimpArgs false
namespace Go.Lf
open Go.RowKit
/-- Nothing is done yet. -/
def RX.zero : RX := ⟨0, fun _ => .idle, fun _ _ => False, fun _ => 0, fun _ => 0⟩
def zws (N : Nat) : List Int := List.replicate N 0
theorem zws_at {N i : Nat} (h : i < N) : (zws N)[i]? = some 0 := by simp [zws, h]
theorem zws_len (N : Nat) : (zws N).length = N := by simp [zws]
theorem zws_mem {N : Nat} {x : Int} (h : x ∈ zws N) : x = 0 := by simp [zws] at h; exact h.2
theorem rep_at {α : Type} {N i : Nat} {a : α} (h : i < N) : (List.replicate N a)[i]? = some a := by simp [h]
theorem rep_of {α : Type} {N i : Nat} {a x : α} (h : (List.replicate N a)[i]? = some x) : x = a := by
  rw [List.getElem?_replicate] at h
  split at h
  · exact (Option.some.inj h).symm
  · cases h
theorem FX.init {n : Nat} (oi : Nat → Nat) : FX n ⟨List.replicate n 0, List.replicate n false, zws n, []⟩ [] oi RX.zero := by
  refine ⟨by simp, by simp, by simp, fun k hk => ?_, fun k hk => ?_⟩
  · have e : FSy.qn ⟨List.replicate n 0, List.replicate n false, zws n, []⟩ k = 0 := fqn_of (rep_at hk)
    rw [e]
    exact ⟨by omega, by show (0 : Int) ≤ ((0 : Nat) : Int); omega, zws_at hk⟩
  · have e : FSy.qn ⟨List.replicate n 0, List.replicate n false, zws n, []⟩ k = 0 := fqn_of (rep_at hk)
    show _ ∧ _
    rw [e]
    exact ⟨rep_at hk, by decide⟩
theorem EX.init {n : Nat} (oi : Nat → Nat) : EX n ⟨List.replicate n (0, 0), zws (2 * n), [], []⟩ oi RX.zero := by
  have e : ∀ k, k < n → ESt.qn ⟨List.replicate n (0, 0), zws (2 * n), [], []⟩ k = 0 := fun k hk => (qn_of (S := ⟨List.replicate n (0, 0), zws (2 * n), [], []⟩) (p := (0, 0)) (rep_at hk))
  refine ⟨⟨by simp, by rw [zws_len]; omega, fun x hx => by rw [zws_mem hx]; omega, fun i hi => ⟨0, by omega, ?_⟩, by simp, fun i p hp => ?_, fun i o ho => by simp at ho, fun i j o p s ho => by simp at ho⟩, fun k hk => ?_, fun k hk => ?_⟩
  · exact zws_at (by omega)
  · rw [rep_of hp]
    exact ⟨by simp, by simp, by simp, by simp⟩
  · show _ = _
    rw [e k hk]; exact rep_at hk
  · rw [e k hk]; exact zws_at (by omega)
theorem GX.init {n nb : Nat} (hn : n ≤ 6) (oi : Nat → Nat) : GX n nb ⟨List.replicate 64 ⟨0, 0, 0, 0⟩, zws (4 * nb), [], []⟩ oi RX.zero := by
  refine ⟨⟨by simp, by rw [zws_len]; omega, fun x hx => by rw [zws_mem hx]; omega, fun b hb => ⟨0, by omega, zws_at (by omega)⟩, fun i o b ho => by simp at ho, by simp, fun i o ho => by simp at ho, fun s x hx => ?_⟩, fun b c hb hc => ?_, fun b y hb hy h0 => ?_, fun k hk => ?_⟩
  · rw [rep_of hx]
    exact ⟨by simp, by simp, by simp, fun h => absurd rfl h⟩
  · have e : gcn (inAt (List.replicate 64 (⟨0, 0, 0, 0⟩ : GSl)) b c) n = 0 := by
      by_cases h0 : gcn (inAt (List.replicate 64 (⟨0, 0, 0, 0⟩ : GSl)) b c) n = 0
      · exact h0
      · obtain ⟨k, hk, hf⟩ := gcn_ex h0
        unfold inAt at hf
        rw [rep_at (show k < 64 by omega)] at hf
        simp at hf
    rw [e]; exact zws_at (by omega)
  · rw [zws_at (by omega)] at hy
    exact absurd (Option.some.inj hy).symm h0
  · exact ⟨_, rep_at (by omega), rfl⟩
end Go.Lf
namespace Go.Proofs.YtldjlcdccnnogaaGreat
open Go.RowKit Go.Lf
/-- Which engine, with what bounds. -/
def EngIs {n : Nat} (nb : Nat) (E : PrW n) : Prop :=
  (E.kind = 1 ∧ (∀ s, E.bnd s = n) ∧ ∀ s v, E.conc s v = true) ∨ (E.kind = 2 ∧ (∀ s, E.bnd s = 3 * n) ∧ ∀ s v, E.conc s v = hasv s v) ∨
  (E.kind = 3 ∧ (∀ s, E.bnd s = 6 * (bkts s.toNat nb).length) ∧ ∀ s v, E.conc s v = decide (v.toNat % nb ∈ bkts s.toNat nb))
/-- The words of an engine. -/
def engWords (kd : Int) (n nb : Nat) : Nat := if kd = 1 then n else if kd = 2 then 2 * n else 4 * nb
/-- The buckets as the program gives them. -/
def engBk (kd : Int) (nb : Nat) : Int := if kd = 3 then nb else 0
section
variable {w : World} {mb : Nat} {F : Nat → Prop} {n nb : Nat}
def PrNewTo (w : World) (F : Nat → Prop) (n nb : Nat) (kd : Int) (e : Ending) (w' : World) : Prop :=
  ∃ E : PrW n, E.kind = kd ∧ EngIs nb E ∧ e = .returned (.tuple #[pb E.p, .int .i64 0]) ∧ Keep Nil w w' ∧ ∃ A, E.P.lie w' A RX.zero ∧ ∀ k, A k → F k ∨ w.heap.size ≤ k
theorem prnew_any (kd : Int) (hkd : kd = 1 ∨ kd = 2 ∨ kd = 3) (h0 : 1 ≤ n) (h1 : n ≤ 6) (hb0 : 1 ≤ nb) (hb : nb ≤ 4) (h : MemAt w mb F (zws (engWords kd n nb)) []) :
    Calls Tryz.prog 27 #[pb mb, .int .u8 kd, .int .i64 0, .int .i64 n, .int .i64 (engBk kd nb)] w (PrNewTo w F n nb kd) := by
  have nF : ∀ k, w.heap.size ≤ k → ¬ F k := fun k hk e => by have := h.lt k e; omega
  have bj : ∀ {cs : List (Nat × Obj)} {tb : Nat → Option Nat} {en wa : Nat → Obj}, BoxJ n cs tb en wa RX.zero := ⟨fun k v _ e => (by cases e), fun k s b _ e => (by cases e)⟩
  rcases hkd with rfl | rfl | rfl
  · have h : MemAt w mb F (zws n) [] := h
    refine (prnew_full h (by rw [zws_len]; omega) n h0 h1 (by rw [zws_len]; omega)).mono ?_
    rintro e w' ⟨p, rfl, rfl, k, g, a, b, hE, hp, l1, l2, l3⟩
    have hs : FSys w' g a b mb F ((0 : Nat) : Int) (List.replicate n 0) (List.replicate n false) (zws n) [] := ⟨h.keep k (fun _ _ e => e), hE, nF g (by omega), nF a (by omega), nF b (by omega)⟩
    refine ⟨prF w.heap.size g a b mb n h1, rfl, .inl ⟨rfl, fun _ => rfl, fun _ _ => rfl⟩, rfl, k, fun j => (F j ∨ j = g ∨ j = a ∨ j = b) ∨ ∃ c ∈ [(w.heap.size, prHO_full g n)], c.1 = j, ?_, ?_⟩
    · refine ⟨((⟨List.replicate n 0, List.replicate n false, zws n, []⟩, [], []), [(w.heap.size, prHO_full g n)]), ⟨fun j => F j ∨ j = g ∨ j = a ∨ j = b, ⟨_, ObjsAt.init ⟨F, hs, fun _ => Iff.rfl⟩⟩, fun c hc => ?_, fun _ => Iff.rfl⟩, fun _ => 0, FX.init _, rfl, List.mem_singleton.2 rfl, bj⟩
      rw [List.mem_singleton.1 hc]
      refine ⟨hp, ?_⟩
      rintro (e | e | e | e)
      · exact nF _ (Nat.le_refl _) e
      · simp only at e; omega
      · simp only at e; omega
      · simp only at e; omega
    · rintro j ((e | e | e | e) | ⟨c, hc, e⟩)
      · exact .inl e
      · exact .inr (by omega)
      · exact .inr (by omega)
      · exact .inr (by omega)
      · rw [List.mem_singleton.1 hc] at e
        exact .inr (by simp only at e; omega)
  · have h : MemAt w mb F (zws (2 * n)) [] := h
    refine (prnew_each h (by rw [zws_len]; omega) n h0 h1 (by rw [zws_len]; omega)).mono ?_
    rintro e w' ⟨p, rfl, rfl, k, g, a, b, hE, hp, l1, l2, l3⟩
    have he : esl (List.replicate n ((0 : Int), 0)) = List.replicate n (0, false) := by simp [esl]
    refine ⟨prE w.heap.size g a b mb n h1, rfl, .inr (.inl ⟨rfl, fun _ => rfl, fun _ _ => rfl⟩), rfl, k, fun j => (F j ∨ j = g ∨ j = a ∨ j = b) ∨ ∃ c ∈ [(w.heap.size, prHO_each g n)], c.1 = j, ?_, ?_⟩
    · refine ⟨((⟨List.replicate n (0, 0), zws (2 * n), [], []⟩, []), [(w.heap.size, prHO_each g n)]), ⟨fun j => F j ∨ j = g ∨ j = a ∨ j = b, ⟨F, ⟨⟨h.keep k (fun _ _ e => e), by show EEngAt w' g a b mb _ (esl (List.replicate n (0, 0))); rw [he]; exact hE, nF g (by omega), nF a (by omega), nF b (by omega)⟩, rfl, fun i b o hb => by simp at hb, fun i j b hb => by simp at hb, fun j => by simp⟩⟩, fun c hc => ?_, fun _ => Iff.rfl⟩, fun _ => 0, EX.init _, rfl, List.mem_singleton.2 rfl, bj⟩
      rw [List.mem_singleton.1 hc]
      refine ⟨hp, ?_⟩
      rintro (e | e | e | e)
      · exact nF _ (Nat.le_refl _) e
      · simp only at e; omega
      · simp only at e; omega
      · simp only at e; omega
    · rintro j ((e | e | e | e) | ⟨c, hc, e⟩)
      · exact .inl e
      · exact .inr (by omega)
      · exact .inr (by omega)
      · exact .inr (by omega)
      · rw [List.mem_singleton.1 hc] at e
        exact .inr (by simp only at e; omega)
  · have h : MemAt w mb F (zws (4 * nb)) [] := h
    refine (prnew_gate h (by rw [zws_len]; omega) n h0 h1 nb hb0 hb (by rw [zws_len]; omega)).mono ?_
    rintro e w' ⟨p, rfl, rfl, k, g, a, hE, hp, l1, l2⟩
    have him : IMap .i64 w' a [] := ⟨#[], 0, hE.map, rfl, MapKept.stamped_empty 0⟩
    refine ⟨prG w.heap.size g a mb n nb h1 hb hb0, rfl, .inr (.inr ⟨rfl, fun _ => rfl, fun _ _ => rfl⟩), rfl, k, fun j => (F j ∨ j = g ∨ j = a) ∨ ∃ c ∈ [(w.heap.size, prHO_gate g n)], c.1 = j, ?_, ?_⟩
    · refine ⟨((⟨List.replicate 64 ⟨0, 0, 0, 0⟩, zws (4 * nb), [], []⟩, []), [(w.heap.size, prHO_gate g n)]), ⟨fun j => F j ∨ j = g ∨ j = a, ⟨_, [], ObjsB.init ⟨F, h.keep k (fun _ _ e => e), ⟨hE.head, him⟩, nF g (by omega), nF a (by omega), fun _ => Iff.rfl⟩, rfl, by simp [mkeys], fun j => ?_⟩, fun c hc => ?_, fun _ => Iff.rfl⟩, fun _ => 0, GX.init h1 _, rfl, List.mem_singleton.2 rfl, bj⟩
      · show none = _
        split
        · rfl
        · cases hx : (List.replicate 64 (⟨0, 0, 0, 0⟩ : GSl))[j.toNat]? with
          | none => rfl
          | some x => rw [rep_of hx]; rfl
      · rw [List.mem_singleton.1 hc]
        refine ⟨hp, ?_⟩
        rintro (e | e | e)
        · exact nF _ (Nat.le_refl _) e
        · simp only at e; omega
        · simp only at e; omega
    · rintro j ((e | e | e) | ⟨c, hc, e⟩)
      · exact .inl e
      · exact .inr (by omega)
      · exact .inr (by omega)
      · rw [List.mem_singleton.1 hc] at e
        exact .inr (by simp only at e; omega)
end
end Go.Proofs.YtldjlcdccnnogaaGreat
