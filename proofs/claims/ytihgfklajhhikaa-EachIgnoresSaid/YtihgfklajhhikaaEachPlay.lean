/- each: acts and plays keep what holds of a run. -/
import Derived.Test.YtihgfklajhhikaaEachAct3
import Derived.Test.YtihgfklajhhikaaMemNew
namespace Go.Lf
open Go.Proofs.Ytihgfklajhhikaa
variable {sl : List (Int × Bool)} {ws : List Int} {th : List ET}
theorem EInv.vals {K : Int} (h : EInv sl ws th K) : ∀ (j : Nat) (z : ET), th[j]? = some z → 0 ≤ z.val ∧ z.val < 64 := by
  intro j z hz
  obtain ⟨⟨n, b⟩, hn⟩ : ∃ p, sl[j]? = some p := ⟨_, List.getElem?_eq_getElem (by have := lt_of_at hz; have := h.lt; have := h.ln; omega)⟩
  exact ⟨(h.num j z n b hz hn).v0, (h.num j z n b hz hn).v1⟩

/-! What acts make of what holds. -/
theorem EInv.exit {K : Int} (h : EInv sl ws th K) {t : Nat} {x : ET} {n : Int} {b : Bool} (hx : th[t]? = some x) (hn : sl[t]? = some (n, b)) (hin : x.inn = true) (hw : x.wt = none) : EInv (sl.set t (n + 1, b)) (ws.set (2 * t) (n + 1)) (th.set t { x with inn := false }) K := by
  have a := h.num t x n b hx hn
  obtain ⟨s1, s2, s3⟩ := a.sI hin
  have t6 : t < 6 := by have := lt_of_at hx; have := h.lt; omega
  have lw := h.lw
  refine h.upd hx (Int.le_refl _) (fun i h1 h2 => by rw [List.getElem?_set, if_neg (fun e => h1 e.symm)]) (by simp [h.lw]) (Int.le_refl _) (fun h => by simp at h) ⟨a.s0, a.s1, fun h => by simp at h, fun _ => by simp only; omega, a.beg, ?_, ?_, a.v0, a.v1, fun b k hb => by simp only at hb; rw [s1] at hb; cases hb⟩ hw
  · rw [List.getElem?_set, if_pos rfl, if_pos (by omega)]
  · obtain ⟨v, h1, h2, h3, h4⟩ := a.val
    exact ⟨v, by rw [List.getElem?_set, if_neg (by omega)]; exact h1, h2, h3, fun h => by
      rcases h with h | h
      · simp at h
      · exact absurd s1 h⟩
theorem EInv.mark {K : Int} (h : EInv sl ws th K) {t : Nat} {x : ET} {n : Int} (hx : th[t]? = some x) (hn : sl[t]? = some (n, false)) (hin : x.inn = false) (hw : x.wt = none) {v : Int} (v0 : 0 ≤ v) (v1 : v < 64) (eb : Nat) : EInv (sl.set t (n, true)) (ws.set (2 * t + 1) v) (th.set t { x with val := v, en := some (eb, 1) }) K := by
  have a := h.num t x n false hx hn
  have t6 : t < 6 := by have := lt_of_at hx; have := h.lt; omega
  have lw := h.lw
  refine h.upd hx (Int.le_refl _) (fun i h1 h2 => by rw [List.getElem?_set, if_neg (fun e => h2 e.symm)]) (by simp [h.lw]) (Int.le_refl _) (fun h => by simp only at h; rw [hin] at h; cases h) ⟨a.s0, a.s1, fun h => (by simp only at h; rw [hin] at h; cases h), a.sO, rfl, ?_, ?_, v0, v1, fun b k hb => ?_⟩ hw
  · rw [List.getElem?_set, if_neg (by omega)]; exact a.seq
  · exact ⟨v, by rw [List.getElem?_set, if_pos rfl, if_pos (by omega)], v0, v1, fun _ => rfl⟩
  · simp only [Option.some.injEq, Prod.mk.injEq] at hb
    exact ⟨hb.2.symm, hin, hw⟩
theorem EInv.seq {K : Int} (h : EInv sl ws th K) {t : Nat} {x : ET} {n : Int} {b : Bool} {eb : Nat} (hx : th[t]? = some x) (hn : sl[t]? = some (n, b)) (hen : x.en = some (eb, 1)) : EInv (sl.set t (n + 1, false)) (ws.set (2 * t) (n + 1)) (th.set t { x with en := none, inn := true, sec := x.sec + 1 }) (K + 1) := by
  have a := h.num t x n b hx hn
  obtain ⟨-, e2, e3⟩ := a.en _ _ hen
  have sO := a.sO e2
  have s0 := a.s0
  have s1 := a.s1
  have t6 : t < 6 := by have := lt_of_at hx; have := h.lt; omega
  have lw := h.lw
  refine h.upd hx (by omega) (fun i h1 h2 => by rw [List.getElem?_set, if_neg (fun e => h1 e.symm)]) (by simp [h.lw]) (by simp only; omega) (fun _ => by simp only; omega) ⟨by simp only; omega, by simp only; omega, fun _ => ⟨rfl, by simp only; omega, by simp only; omega⟩, fun h => by simp at h, rfl, ?_, ?_, a.v0, a.v1, fun b k hb => by simp at hb⟩ e3
  · rw [List.getElem?_set, if_pos rfl, if_pos (by omega)]
  · obtain ⟨v, h1, h2, h3, h4⟩ := a.val
    exact ⟨v, by rw [List.getElem?_set, if_neg (by omega)]; exact h1, h2, h3, fun _ => h4 (.inr (by rw [hen]; simp))⟩
theorem EInv.wstep {K : Int} (h : EInv sl ws th K) {t : Nat} {x : ET} {b : Nat} {u : EWS} {y : Int} (hx : th[t]? = some x) (hwt : x.wt = some (b, u)) (hy : ws[u.addr]? = some y) : EInv sl ws (th.set t { x with wt := if (u.step 6 x.set y).st = 3 then none else some (b, u.step 6 x.set y) }) K := by
  obtain ⟨a1, a2, a3, a4, a5, qb, l, a6, a7, a8⟩ := h.wait t x b u hx hwt
  refine h.turn hx rfl rfl rfl rfl a2 ?_
  intro b' s' hb'
  simp only at hb'
  split at hb'
  · cases hb'
  · rename_i hne
    simp only [Option.some.injEq, Prod.mk.injEq] at hb'
    obtain ⟨rfl, rfl⟩ := hb'
    obtain ⟨f1, f2, f3⟩ := (EWS.step_form x.set y u a3 a4 a5).2 hne
    exact ⟨a1, f1, f2, f3, qb, l, a6, a7, h.ahead a8 a4 hy a3⟩
theorem EInv.wbegin {K : Int} (h : EInv sl ws th K) {t : Nat} {x : ET} {b qb : Nat} {s y : Int} (hx : th[t]? = some x) (hen : x.en = none) (hin : x.inn = false) (hy : ws[0]? = some y) : EInv sl ws (th.set t { x with wt := some (b, EWS.step 6 s y ⟨0, 0, 0⟩), set := s, mu := some (qb, eList th s 6) }) K := by
  refine h.turn hx rfl rfl rfl rfl hen ?_
  intro b' s' hb'
  simp only [Option.some.injEq, Prod.mk.injEq] at hb'
  obtain ⟨rfl, rfl⟩ := hb'
  have hf := efirst_step s y
  obtain ⟨f1, f2, f3⟩ := (EWS.step_form s y ⟨0, 0, 0⟩ (by simp) (by simp) (fun h => absurd rfl h)).2 (by omega)
  exact ⟨hin, f1, f2, f3, qb, eList th s 6, rfl, eList_len th s 6, h.ahead (eahead_begin h s 0) (by simp) hy (by simp)⟩

end Go.Lf
namespace Go.Proofs.Ytihgfklajhhikaa
open Go.RowKit Go.Lf
section
variable {w wr : World} {rb g sb cb mb : Nat} {F : Nat → Prop} {sl : List (Int × Bool)} {ws : List Int} {th : List ET} {log : List Acc}

/-- Sets are sets. -/
def SetsOk (th : List ET) : Prop := ∀ (j : Nat) (z : ET), th[j]? = some z → 0 ≤ z.set ∧ z.set < 18446744073709551616
theorem SetsOk.put (h : SetsOk th) {t : Nat} {x' : ET} (hs : 0 ≤ x'.set ∧ x'.set < 18446744073709551616) : SetsOk (th.set t x') := by
  intro j z hz
  rcases set_cases hz with ⟨-, e2⟩ | ⟨-, e2⟩
  · rw [e2]; exact hs
  · exact h j z e2
/-- A run of n acts at most. -/
def EGood (w : World) (rb g sb cb mb n : Nat) (w' : World) : Prop := ∃ sl ws th F log, ERunAt w w' rb g sb cb mb F sl ws th log ∧ EInv sl ws th n ∧ log.length ≤ n ∧ SetsOk th
theorem EGood.keep {n : Nat} {w' : World} (h : EGood w rb g sb cb mb n wr) (hk : Keep Nil wr w') : EGood w rb g sb cb mb n w' := by
  obtain ⟨sl, ws, th, F, log, h1, h2, h3, h4⟩ := h
  exact ⟨sl, ws, th, F, log, h1.keep hk, h2, h3, h4⟩
theorem EGood.own {K : Nat} (h : EGood w rb g sb cb mb K wr) : Keep Nil w wr := by
  obtain ⟨sl, ws, th, F, log, h1, -⟩ := h
  exact h1.own.1
/-- What an act makes of the run. -/
theorem eact_any (h : ERunAt w wr rb g sb cb mb F sl ws th log) {K : Nat} (hI : EInv sl ws th K) (hl : log.length ≤ K) (hS : SetsOk th) (hK : K < 1000000) (t : Nat) (ht : t < 6) (what v : Int) (s : Nat) (h0 : 0 ≤ what) (v0 : 0 ≤ v) (v1 : v < 64) (hs : s ≠ 0) (hs1 : s < 18446744073709551616) :
    Calls Try.prog 30 #[.pointer (some ⟨rb, 0, none⟩), .int .i64 t, .int .u8 what, .int .i64 v, .int .u64 s] wr fun e w' => e = .returned (.bool true) ∧ EGood w rb g sb cb mb (K + 1) w' := by
  obtain ⟨x, hx⟩ : ∃ x, th[t]? = some x := ⟨_, List.getElem?_eq_getElem (by have := hI.lt; omega)⟩
  obtain ⟨⟨n, bg⟩, hn⟩ : ∃ p, sl[t]? = some p := ⟨_, List.getElem?_eq_getElem (by have := hI.ln; omega)⟩
  have a := hI.num t x n bg hx hn
  obtain ⟨nn0, nn1, nnI, nnO⟩ := EInv.nn a
  have s0 := a.s0
  have s1 := a.s1
  have hK1 : ((K + 1 : Nat) : Int) = (K : Int) + 1 := by omega
  cases hen : x.en with
  | some p =>
    obtain ⟨eb, k⟩ := p
    obtain ⟨rfl, e2, e3⟩ := a.en eb k hen
    refine eact_en h t x eb 1 hx hen what v s ((erenter_seq h t x eb hx hen n bg hn nn0 (by omega) (by omega) s0 (by omega)).mono ?_)
    rintro e w' ⟨rfl, F', log', hr, hl'⟩
    exact ⟨rfl, _, _, _, F', log', hr, by rw [hK1]; exact hI.seq hx hn hen, by omega, hS.put (hS t x hx)⟩
  | none =>
    cases hwt : x.wt with
    | some p =>
      obtain ⟨b, u⟩ := p
      obtain ⟨a1, a2, a3, a4, a5, qb, l, a6, a7, a8⟩ := hI.wait t x b u hx hwt
      obtain ⟨y, hy, y0, y1⟩ := hI.word u a4
      obtain ⟨z0, z1⟩ := hS t x hx
      refine eact_wait h t x b u hx hen hwt what v s ((erwait_ok h t x b u hx hwt a3 a4 y hy y0 y1 qb l a6 (by omega) z0 z1 (fun he => hI.ends hx hwt a6 hy he)).mono ?_)
      rintro e w' ⟨rfl, F', log', hr, hl'⟩
      exact ⟨rfl, _, _, _, F', log', hr, (hI.wstep hx hwt hy).mono (by omega), by omega, hS.put (hS t x hx)⟩
    | none =>
      cases hin : x.inn with
      | true =>
        by_cases hw : 1 < what % 4
        · refine (eact_out h t x hx hen hwt hin what v s h0 hw).mono ?_
          rintro e w' ⟨rfl, rfl⟩
          exact ⟨rfl, sl, ws, th, F, log, h, hI.mono (by omega), by omega, hS⟩
        · refine (eact_exit h t x hx hen hwt hin what v s h0 hw n bg hn nn0 (by omega) (nnI hin) (by omega)).mono ?_
          rintro e w' ⟨rfl, F', log', hr, hl'⟩
          exact ⟨rfl, _, _, _, F', log', hr, (hI.exit hx hn hin hwt).mono (by omega), by omega, hS.put (hS t x hx)⟩
      | false =>
        obtain rfl : bg = false := by rw [a.beg, hen]; rfl
        by_cases hw : what % 4 < 2
        · refine (eact_enter h t x hx hen hwt hin what v s h0 hw v0 v1 n hn nn0 (nnO hin) (by omega)).mono ?_
          rintro e w' ⟨rfl, eb, F', log', hr, hl'⟩
          exact ⟨rfl, _, _, _, F', log', hr, (hI.mark hx hn hin hwt v0 v1 eb).mono (by omega), by omega, hS.put (hS t x hx)⟩
        · obtain ⟨y, hy, y0, -⟩ := hI.word ⟨0, 0, 0⟩ (by simp)
          refine (eact_begin h t x hx hen hwt hin what v s h0 hw hs hs1 y hy y0 (by omega) hI.vals).mono ?_
          rintro e w' ⟨rfl, b, qb, F', log', hr, hl'⟩
          exact ⟨rfl, _, _, _, F', log', hr, (hI.wbegin hx hen hin hy).mono (by omega), by omega, hS.put ⟨by simp only; omega, by simp only; omega⟩⟩
theorem eact_good {K : Nat} (h : EGood w rb g sb cb mb K wr) (hK : K < 1000000) (t : Nat) (ht : t < 6) (what v : Int) (s : Nat) (h0 : 0 ≤ what) (v0 : 0 ≤ v) (v1 : v < 64) (hs : s ≠ 0) (hs1 : s < 18446744073709551616) :
    Calls Try.prog 30 #[.pointer (some ⟨rb, 0, none⟩), .int .i64 t, .int .u8 what, .int .i64 v, .int .u64 s] wr fun e w' => e = .returned (.bool true) ∧ EGood w rb g sb cb mb (K + 1) w' := by
  obtain ⟨sl, ws, th, F, log, h1, h2, h3, h4⟩ := h
  exact eact_any h1 h2 h3 h4 hK t ht what v s h0 v0 v1 hs hs1
end

/-! begin. -/
section
variable {w : World}
def z0 : ET := ⟨none, false, 0, 0, 0, none, none⟩
/-- A new run. -/
def EBegunTo (w : World) (e : Ending) (w' : World) : Prop := ∃ rb g sb cb mb F, e = .returned (.pointer (some ⟨rb, 0, none⟩)) ∧ ERunAt w w' rb g sb cb mb F (List.replicate 6 (0, false)) (List.replicate 12 0) (List.replicate 6 z0) []
theorem make_twelve (w : World) : (Instr.makeSlice 26 (.int .i64 12) (.int .i64 12)).run Try.prog w = .ok (.slice (some ⟨w.heap.size, 0, none⟩) 12 12) (w.alloc (.cells #[.int .u64 0, .int .u64 0, .int .u64 0, .int .u64 0, .int .u64 0, .int .u64 0, .int .u64 0, .int .u64 0, .int .u64 0, .int .u64 0, .int .u64 0, .int .u64 0] 49)) := by kernel_rfl
set_option maxRecDepth 100000 in
set_option maxHeartbeats 4000000 in
theorem ebegin_any (w0 : World) (hk0 : Keep Nil w0 w) (n : Int) : Calls Try.prog 28 #[.int .i64 n] w (EBegunTo w0) := by
  have q6 := make_twelve
  have HK0 := hid hk0
  clear hk0
  go_enter Try.func28, Try.ntmps28
  go_wp2_with fail
  refine (new_ok _ [0, 0, 0, 0, 0, 0, 0, 0, 0, 0, 0, 0] _ (rd_new _ _ _ 1 12 _ ⟨rfl, rfl⟩) (by simp) (by simp)).mono ?_
  rintro e w2 ⟨mb, F, rfl, hm, k2, f2⟩
  have HM := hid hm
  have HO := hid (Own.fresh (HK0.out.alloc _) k2 f2)
  clear hm k2 f2
  go_wp2_with fail
  refine (enew_ok HM.out (by simp) 0 6 (by decide)).mono ?_
  rintro e w3 ⟨g, sb, cb, rfl, hg, k3, lg, lsb, lcb⟩
  have HM3 := hid (HM.out.keep k3 (fun _ _ h => h))
  have HO3 := hid (HO.out.quiet k3)
  have HG := hid hg
  have hz := HO.out.1.size
  have hfl := HM.out.lt
  have HFL := hid hfl
  clear hg k3 hfl
  go_wp2
  go_ret
  have ha := heap_alloc_new w3 (.cells (erunCells mb g (List.replicate 6 z0)).toArray 60)
  have kA : Keep Nil w3 (w3.alloc (.cells (erunCells mb g (List.replicate 6 z0)).toArray 60)) := (Keep.refl Nil w3).alloc _
  have z3 := HO3.out.1.size
  have nF : ∀ k : Nat, w2.heap.size ≤ k → ¬ F k := fun k hk hF => by have := HFL.out k hF; omega
  have hz3 : w2.heap.size ≤ w3.heap.size := by have := lt_of_block HG.out.head; omega
  have emp : ∀ (i : Nat) (x : ET), (List.replicate 6 z0)[i]? = some x → x = z0 := fun i x h => by
    rw [List.getElem?_replicate] at h
    split at h
    · exact (Option.some.inj h).symm
    · cases h
  refine ⟨w3.heap.size, g, sb, cb, mb, F, rfl, ⟨⟨HM3.out.keep kA (fun _ _ h => h), HG.out.quiet kA, nF g lg, nF sb lsb, nF cb lcb⟩, ha, nF _ hz3, HO3.out.quiet kA, by omega, z3, by simp, by simp, by simp, ?_, ?_, ?_, ?_, ?_⟩⟩
  · intro i x b s h1 h2; rw [emp i x h1] at h2; cases h2
  · intro i x b s h1 h2; rw [emp i x h1] at h2; cases h2
  · intro i x b l h1 h2; rw [emp i x h1] at h2; cases h2
  · intro i j x y b c s u h1 h2 h3 h4; rw [emp i x h1] at h3; cases h3
  · intro i j x y b c s u h1 h2 h3 h4; rw [emp i x h1] at h3; cases h3
theorem einv_new : EInv (List.replicate 6 (0, false)) (List.replicate 12 0) (List.replicate 6 z0) 0 := by
  have emp : ∀ (i : Nat) (x : ET), (List.replicate 6 z0)[i]? = some x → i < 6 ∧ x = z0 := fun i x h => by
    rw [List.getElem?_replicate] at h
    split at h
    · exact ⟨by assumption, (Option.some.inj h).symm⟩
    · cases h
  refine ⟨by simp, by simp, by simp, fun i x n b h1 h2 => ?_, fun i x b s h1 h2 => ?_⟩
  · obtain ⟨hi, rfl⟩ := emp i x h1
    rw [List.getElem?_replicate, if_pos hi] at h2
    simp only [Option.some.injEq, Prod.mk.injEq] at h2
    obtain ⟨rfl, rfl⟩ := h2
    refine ⟨by simp [z0], by simp [z0], fun h => by simp [z0] at h, fun _ => by simp [z0], rfl, ?_, ⟨0, ?_, by omega, by omega, fun h => rfl⟩, by simp [z0], by simp [z0], fun b k h => by simp [z0] at h⟩
    · rw [List.getElem?_replicate, if_pos (by omega)]
    · rw [List.getElem?_replicate, if_pos (by omega)]
  · rw [(emp i x h1).2] at h2; cases h2
theorem esets_new : SetsOk (List.replicate 6 z0) := fun j z h => by
  rw [List.getElem?_replicate] at h
  split at h
  · rw [← Option.some.inj h]; exact ⟨by simp [z0], by simp [z0]⟩
  · cases h
end
end Go.Proofs.Ytihgfklajhhikaa
