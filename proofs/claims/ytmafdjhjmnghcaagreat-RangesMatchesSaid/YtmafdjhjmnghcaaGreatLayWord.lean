/- layout: the words of towers. -/
import Derived.Test.YtmafdjhjmnghcaaGreatLayOps
set_option linter.unusedVariables false
set_option linter.unusedSimpArgs false
namespace Go.Lf
theorem tows_at {l : List Nat} : ∀ {a i x h : Nat}, (tows a l)[i]? = some x → l[i]? = some h → a ≤ x ∧ x + (5 + h) ≤ a + towW l := by
  induction l with
  | nil => intro a i x h h1 h2; simp at h2
  | cons n l ih =>
    intro a i x h h1 h2
    have e : towW (n :: l) = 5 + n + towW l := by simp [towW]
    cases i with
    | zero =>
      simp only [tows, List.getElem?_cons_zero, Option.some.injEq] at h1 h2
      subst h1; subst h2
      omega
    | succ i =>
      simp only [tows, List.getElem?_cons_succ] at h1 h2
      have := ih h1 h2
      omega
/-- The first word of a tower. -/
def Cfg.tow (c : Cfg) (i : Nat) : Nat := ((tows c.towers c.hs)[i]?).getD 0
theorem Cfg.tow_at (c : Cfg) {i : Nat} (h : i < c.nT) : (tows c.towers c.hs)[i]? = some (c.tow i) := by
  have : i < (tows c.towers c.hs).length := by rw [tows_len]; exact h
  unfold Cfg.tow
  rw [List.getElem?_eq_getElem this]; rfl
theorem Cfg.tow_rng (c : Cfg) {i : Nat} (h : i < c.nT) : c.towers ≤ c.tow i ∧ c.tow i + 5 ≤ c.words := by
  have h2 : c.hs[i]? = some c.hs[i] := List.getElem?_eq_getElem h
  have := tows_at (c.tow_at h) h2
  unfold Cfg.words
  omega
theorem Cfg.ok.towers {c : Cfg} (h : c.ok) : c.towers ≤ 4096 := by
  have h1 := h.engW
  have h2 := h.sl2
  have h3 := h.lk2
  have h4 := h.nT
  have h5 : c.d.cnt ≤ 64 := (Dom.cnt_pos h.d).2
  unfold Cfg.towers Cfg.heads Cfg.links Cfg.pools Cfg.descs Cfg.locks Cfg.master Cfg.engine
  omega
end Go.Lf
namespace Go.Proofs.YtmafdjhjmnghcaaGreat
open Go.RowKit Go.Lf
section
variable {W W' : World} {L : Nat} {c : Cfg}
set_option maxRecDepth 100000 in
set_option maxHeartbeats 2000000 in
theorem lword_ok (h : LayAt W L c) (hok : c.ok) {i : Nat} (hi : i < c.nT) (t n r : Int) (ht : t = i + 1) (n0 : 0 ≤ n) (n1 : n ≤ 4) (hr : r = (c.tow i : Int) + n) : Calls Tryz.prog 87 #[.pointer (some ⟨L, 0, none⟩), .int .i64 t, .int .i64 n] W fun e w' => e = .returned (.tuple #[.int .i64 r, .int .i64 0]) ∧ W = w' := by
  have H := hid h
  have HOK := hid hok
  obtain ⟨t1, t2, t3, t4, t5, t6, a, cp, g, ha, hc, ta, tc, e, ho, r1, r2, r3⟩ := h.obj
  have hn := hok.nT
  obtain ⟨x, h2⟩ : ∃ x, c.hs[i]? = some x := ⟨_, List.getElem?_eq_getElem hi⟩
  have H2 := hid h2
  have hrg := c.tow_rng hi
  have hw := hok.tow
  have ht2 := hok.towers
  have hwd : c.words ≤ 100000 := by unfold Cfg.words; omega
  obtain ⟨b, off, cc, hv, hcell⟩ := Rd.cell r3 (by omega)
  simp only [Value.slice.injEq] at hv
  obtain ⟨rfl, -, rfl⟩ := hv
  have cx := hcell i _ (nums_at (c.tow_at hi))
  have q0 : W.cell? ⟨L, 28, none⟩ = some (.slice (some ⟨b, off, none⟩) c.nT tc) := by rw [cell_of ho]; rfl
  have wr : IntKind.i64.wrap ((c.tow i : Int) + n) = r := by rw [IntKind.wrap_i64]; omega
  have ti0 : (i : Int) + 1 - 1 = (i : Int) := by omega
  have wi : IntKind.i64.wrap ((i : Int) + 1 - 1) = (i : Int) := by rw [IntKind.wrap_i64]; omega
  have wi2 : IntKind.i64.wrap (i : Int) = (i : Int) := by rw [IntKind.wrap_i64]; omega
  have i0 : (0 : Int) ≤ (i : Int) := by omega
  have i1 : (i : Int) < (c.nT : Int) := by omega
  have i2 : i < c.nT := hi
  clear ho r1 r2 r3 h e hcell hok h2 hw hwd ht2 hrg hn hi
  generalize hti : c.tow i = ti at *
  generalize hnt : c.nT = nt at *
  clear hti hnt
  subst ht
  subst hr
  go_enter Tryz.func87, Tryz.ntmps87
  go_wp2_with fail
  refine (height_ok H.out HOK.out H2.out _ rfl).mono ?_
  rintro e w' ⟨rfl, rfl⟩
  go_wp2_with fail
  refine (within_yes _ _ _ (by omega) (by omega)).mono ?_
  rintro e w' ⟨rfl, rfl⟩
  go_wp2
  go_ret2
  exact ⟨rfl, rfl⟩
end
end Go.Proofs.YtmafdjhjmnghcaaGreat
