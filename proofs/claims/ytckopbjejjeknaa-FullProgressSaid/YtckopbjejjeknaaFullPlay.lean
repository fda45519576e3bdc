/- full: acts and plays keep what holds of a run. -/
import Derived.Test.YtckopbjejjeknaaFullInv
import Derived.Deep.RegionHeld3
namespace Go.Proofs.Ytckopbjejjeknaa
open Go.RowKit Go.Lf
section
variable {w wr : World} {rb g nb bb mb : Nat} {F : Nat → Prop} {nums : List Int} {th : List PT} {log : List Acc}

def noBeg : List Bool := List.replicate 6 false
/-- A run of n acts at most. -/
def Good (w : World) (rb g nb bb mb n : Nat) (w' : World) : Prop := ∃ nums th F log, RunAt w w' rb g nb bb mb F nums noBeg th log ∧ Inv nums th n ∧ log.length ≤ n
theorem Good.keep {n : Nat} {w' : World} (h : Good w rb g nb bb mb n wr) (hk : Keep Nil wr w') : Good w rb g nb bb mb n w' := by
  obtain ⟨nums, th, F, log, h1, h2, h3⟩ := h
  exact ⟨nums, th, F, log, h1.keep hk, h2, h3⟩

/-- What an act makes of the run, by its kind. -/
theorem act_any (h : RunAt w wr rb g nb bb mb F nums noBeg th log) {K : Nat} (hI : Inv nums th K) (hl : log.length ≤ K) (hK : K < 1000000) (t : Nat) (ht : t < 6) (what v s : Int) (h0 : 0 ≤ what) (v0 : 0 ≤ v) (v1 : v < 64) (hs : s ≠ 0) :
    Calls Try.prog 37 #[.pointer (some ⟨rb, 0, none⟩), .int .i64 t, .int .u8 what, .int .i64 v, .int .u64 s] wr fun e w' => e = .returned (.bool true) ∧ Good w rb g nb bb mb (K + 1) w' := by
  obtain ⟨x, hx⟩ : ∃ x, th[t]? = some x := ⟨_, List.getElem?_eq_getElem (by have := hI.lt; omega)⟩
  obtain ⟨n, hn⟩ : ∃ n, nums[t]? = some n := ⟨_, List.getElem?_eq_getElem (by have := hI.ln; omega)⟩
  obtain ⟨en, s0, s1, sI, sO⟩ := hI.num t x n hx hn
  cases hwt : x.wt with
  | some p =>
    obtain ⟨b, u⟩ := p
    obtain ⟨a1, a2, a3, a4, sb, l, a5, a6, a7⟩ := hI.wait t x b u hx hwt
    obtain ⟨y, hy⟩ : ∃ y, nums[u.pos]? = some y := ⟨_, List.getElem?_eq_getElem (by have := hI.ln; omega)⟩
    obtain ⟨z, hz⟩ : ∃ z, th[u.pos]? = some z := ⟨_, List.getElem?_eq_getElem (by have := hI.lt; omega)⟩
    obtain ⟨-, z0, -, zI, zO⟩ := hI.num u.pos z y hz hy
    have y0 : 0 ≤ y := by
      cases hzi : z.inn with
      | true => have := zI hzi; omega
      | false => have := zO hzi; omega
    refine act_wait h t x b u hx en hwt what v s ((rwait_ok h t x b u hx hwt a2 a3 y hy y0 sb l a5 (by omega) (fun he => hI.ends hx hwt a5 hy he)).mono ?_)
    rintro e w' ⟨rfl, F', log', hr, hl'⟩
    refine ⟨rfl, _, _, F', log', hr, ?_, by omega⟩
    refine Inv.mono (K := (K : Int)) ?_ (by omega)
    refine hI.turn hx rfl rfl rfl ?_
    intro b' s' hb'
    simp only at hb'
    split at hb'
    · cases hb'
    · rename_i hlt
      simp only [Option.some.injEq, Prod.mk.injEq] at hb'
      obtain ⟨rfl, rfl⟩ := hb'
      obtain ⟨f1, f2⟩ := (step_form u y a2 a3 a4).2 (by omega)
      exact ⟨a1, by omega, f1, f2, sb, l, a5, a6, a7.step hy (fun z' hz' hin => by
        rw [hz] at hz'; obtain rfl := Option.some.inj hz'
        have := zI hin; omega) a2⟩
  | none =>
    cases hin : x.inn with
    | true =>
      have hnv := sI hin
      by_cases hw : 1 < what % 4
      · refine (act_out h t x hx en hwt hin what v s h0 hw).mono ?_
        rintro e w' ⟨rfl, rfl⟩
        exact ⟨rfl, nums, th, F, log, h, hI.mono (K' := ((K + 1 : Nat) : Int)) (by omega), by omega⟩
      · refine (act_exit h t x hx en hwt hin what v s h0 hw n hn (by omega) (by omega) (by omega) (by omega)).mono ?_
        rintro e w' ⟨rfl, F', log', hr, hl'⟩
        exact ⟨rfl, _, _, F', log', hr, (hI.exit hx hn hin hwt).mono (K' := ((K + 1 : Nat) : Int)) (by omega), by omega⟩
    | false =>
      have hnv := sO hin
      by_cases hw : what % 4 < 2
      · refine (act_enter h t x hx en hwt hin what v s h0 hw v0 v1 n hn (by omega) (by omega) (by omega) (by rw [noBeg, List.getElem?_replicate, if_pos ht]) (by omega) s0 (by omega)).mono ?_
        rintro e w' ⟨rfl, F', log', hr, hl'⟩
        exact ⟨rfl, _, _, F', log', hr, (hI.enter hx hn hin hwt v).mono (K' := ((K + 1 : Nat) : Int)) (by omega), by omega⟩
      · obtain ⟨y, hy⟩ : ∃ y, nums[0]? = some y := ⟨_, List.getElem?_eq_getElem (by have := hI.ln; omega)⟩
        obtain ⟨z, hz⟩ : ∃ z, th[0]? = some z := ⟨_, List.getElem?_eq_getElem (by have := hI.lt; omega)⟩
        obtain ⟨-, z0, -, zI, zO⟩ := hI.num 0 z y hz hy
        have y0 : 0 ≤ y := by
          cases hzi : z.inn with
          | true => have := zI hzi; omega
          | false => have := zO hzi; omega
        refine (act_begin h t x hx en hwt hin what v s h0 hw hs y hy y0 (by omega)).mono ?_
        rintro e w' ⟨rfl, b, sb, F', log', hr, hl'⟩
        refine ⟨rfl, _, _, F', log', hr, ?_, by omega⟩
        refine Inv.mono (K := (K : Int)) ?_ (by omega)
        refine hI.turn hx rfl rfl rfl ?_
        intro b' s' hb'
        simp only [Option.some.injEq, Prod.mk.injEq] at hb'
        obtain ⟨rfl, rfl⟩ := hb'
        obtain ⟨f1, f2⟩ := (step_form ⟨0, 0, 0⟩ y (by decide) (by decide) (fun h => by simp at h)).2 (first_step y)
        exact ⟨hin, first_step y, f1, f2, sb, mList th 6, rfl, mList_len th 6, (ahead_begin hI).step hy (fun z' hz' hin' => by
          rw [hz] at hz'; obtain rfl := Option.some.inj hz'
          have := zI hin'; omega) (by decide)⟩
theorem act_good {K : Nat} (h : Good w rb g nb bb mb K wr) (hK : K < 1000000) (t : Nat) (ht : t < 6) (what v s : Int) (h0 : 0 ≤ what) (v0 : 0 ≤ v) (v1 : v < 64) (hs : s ≠ 0) :
    Calls Try.prog 37 #[.pointer (some ⟨rb, 0, none⟩), .int .i64 t, .int .u8 what, .int .i64 v, .int .u64 s] wr fun e w' => e = .returned (.bool true) ∧ Good w rb g nb bb mb (K + 1) w' := by
  obtain ⟨nums, th, F, log, h1, h2, h3⟩ := h
  exact act_any h1 h2 h3 hK t ht what v s h0 v0 v1 hs
end

/-! begin. -/
section
variable {w : World}
/-- A new run. -/
def BegunTo (w : World) (e : Ending) (w' : World) : Prop := ∃ rb g nb bb mb F, e = .returned (.pointer (some ⟨rb, 0, none⟩)) ∧ RunAt w w' rb g nb bb mb F (List.replicate 6 0) noBeg (List.replicate 6 ⟨none, false, 0, 0, 0, none, none⟩) []
theorem make_six64 (w : World) : (Instr.makeSlice 26 (.int .i64 6) (.int .i64 6)).run Try.prog w = .ok (.slice (some ⟨w.heap.size, 0, none⟩) 6 6) (w.alloc (.cells #[.int .u64 0, .int .u64 0, .int .u64 0, .int .u64 0, .int .u64 0, .int .u64 0] 42)) := by kernel_rfl
set_option maxRecDepth 100000 in
set_option maxHeartbeats 4000000 in
theorem begin_any (w0 : World) (hk0 : Keep Nil w0 w) (n : Int) : Calls Try.prog 35 #[.int .i64 n] w (BegunTo w0) := by
  have q6 := make_six64
  have HK0 := hid hk0
  clear hk0
  go_enter Try.func35, Try.ntmps35
  go_wp2_with fail
  refine (new_ok _ [0, 0, 0, 0, 0, 0] _ (rd_new _ _ _ 1 6 _ ⟨rfl, rfl⟩) (by simp) (by simp)).mono ?_
  rintro e w2 ⟨mb, F, rfl, hm, k2, f2⟩
  have HM := hid hm
  have HO := hid (Own.fresh (HK0.out.alloc _) k2 f2)
  clear hm k2 f2
  go_wp2_with fail
  refine (fnew_ok HM.out (by simp) 0 6 (by decide)).mono ?_
  rintro e w3 ⟨g, nb, bb, rfl, hg, k3, lg, lnb, lbb⟩
  have HM3 := hid (HM.out.keep k3 (fun _ _ h => h))
  have HO3 := hid (HO.out.quiet k3)
  have HG := hid hg
  have hz := HO.out.1.size
  have hfl := HM.out.lt
  have HFL := hid hfl
  clear hg k3 hfl
  go_wp2
  go_ret
  have ha := heap_alloc_new w3 (.cells (runCells mb g (List.replicate 6 ⟨none, false, 0, 0, 0, none, none⟩)).toArray 85)
  have kA : Keep Nil w3 (w3.alloc (.cells (runCells mb g (List.replicate 6 ⟨none, false, 0, 0, 0, none, none⟩)).toArray 85)) := (Keep.refl Nil w3).alloc _
  have z3 := HO3.out.1.size
  have nF : ∀ k : Nat, w2.heap.size ≤ k → ¬ F k := fun k hk hF => by have := HFL.out k hF; omega
  have hz3 : w2.heap.size ≤ w3.heap.size := by have := lt_of_block HG.out.head; omega
  have emp : ∀ (i : Nat) (x : PT), (List.replicate 6 (⟨none, false, 0, 0, 0, none, none⟩ : PT))[i]? = some x → x = ⟨none, false, 0, 0, 0, none, none⟩ := fun i x h => by
    rw [List.getElem?_replicate] at h
    split at h
    · exact (Option.some.inj h).symm
    · cases h
  refine ⟨w3.heap.size, g, nb, bb, mb, F, rfl, ⟨⟨HM3.out.keep kA (fun _ _ h => h), HG.out.keep kA (fun h => h) (fun h => h) (fun h => h), nF g lg, nF nb lnb, nF bb lbb⟩, ha, nF _ hz3, HO3.out.quiet kA, by omega, by omega, z3, by simp, by simp, by simp [noBeg], ?_, ?_, ?_⟩⟩
  · intro i x b s h1 h2; rw [emp i x h1] at h2; cases h2
  · intro i x b l h1 h2; rw [emp i x h1] at h2; cases h2
  · intro i j x y b c s u h1 h2 h3 h4; rw [emp i x h1] at h3; cases h3
theorem inv_new : Inv (List.replicate 6 0) (List.replicate 6 ⟨none, false, 0, 0, 0, none, none⟩) 0 := by
  have emp : ∀ (i : Nat) (x : PT), (List.replicate 6 (⟨none, false, 0, 0, 0, none, none⟩ : PT))[i]? = some x → x = ⟨none, false, 0, 0, 0, none, none⟩ := fun i x h => by
    rw [List.getElem?_replicate] at h
    split at h
    · exact (Option.some.inj h).symm
    · cases h
  refine ⟨by simp, by simp, fun i x n h1 h2 => ?_, fun i x b s h1 h2 => ?_⟩
  · rw [emp i x h1]
    rw [List.getElem?_replicate] at h2
    split at h2
    · obtain rfl := Option.some.inj h2
      simp
    · cases h2
  · rw [emp i x h1] at h2; cases h2
end
end Go.Proofs.Ytckopbjejjeknaa
