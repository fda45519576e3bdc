/- FullSteps: Enter, Exit and Wait by both. -/
import Derived.Test.YtckopbjejjeknaaFullJ2
namespace Go.Proofs.Ytckopbjejjeknaa
open Go.RowKit Go.Lf
section
variable {w wr : World} {g nb bb mb h sb rb : Nat} {F G : Nat → Prop} {base : Int} {n K : Nat} {c : List (Int × Nat)} {ws : List Int} {log : List Acc} {ops : List OpD}

/-- What is refused by both, with the same error, at the world at hand. -/
def BothNo (wr : World) (f1 f2 : FuncId) (args1 args2 : Array Value) (r : Int → Value) : Prop :=
  ∃ e0 : Int, e0 ≠ 0 ∧ (Calls Try.prog f1 args1 wr fun e w' => e = .returned (r e0) ∧ wr = w') ∧ (Calls Try.prog f2 args2 wr fun e w' => e = .returned (r e0) ∧ wr = w')

theorem jenter_cases (hJ : J w wr g nb bb mb h sb rb F G base n c ws log ops K) (t s v : Int) :
    BothNo wr 40 47 #[.pointer (some ⟨g, 0, none⟩), .int .i64 t, .int .i64 s, .int .i64 v] #[.pointer (some ⟨h, 0, none⟩), .int .i64 t, .int .i64 s, .int .i64 v] (fun e => .tuple #[.pointer none, .int .i64 e]) ∨
    (0 ≤ t ∧ t < 64 ∧ 0 ≤ v ∧ v < 64 ∧ ∃ i : Nat, s = i ∧ ∃ x, c[i]? = some (x, 0)) := by
  have lc := hJ.lc
  have l1 : (cnum c).length = n := by simp [cnum, lc]
  have l2 : (cref c).length = n := by simp [cref, lc]
  by_cases ht : t < 0 ∨ 64 ≤ t
  · left
    have hc : ∀ b, ckE t s v n b = 2 := fun b => if_pos ht
    refine ⟨2, by decide, fenter_slot (fslot_two g t s ht) (by decide), ?_⟩
    by_cases hs : s < 0 ∨ (n : Int) ≤ s
    · have := rfenter_out (t := t) (v := v) hJ.ref.eng s (by rw [l2]; exact hs)
      rwa [l2, hc] at this
    · obtain ⟨i, rfl⟩ : ∃ i : Nat, s = i := ⟨s.toNat, by omega⟩
      obtain ⟨p, hp⟩ : ∃ p, c[i]? = some p := ⟨_, List.getElem?_eq_getElem (by omega)⟩
      have := rfenter_err (t := t) (v := v) hJ.ref.eng (cref_at hp) (by rw [l2, hc]; decide)
      rwa [l2, hc] at this
  have hck : ∀ b, ckE t s v n b = if s < 0 ∨ (n : Int) ≤ s then 3 else if v < 0 ∨ 64 ≤ v then 2 else if b then 8 else 0 := fun b => if_neg ht
  by_cases hs : s < 0 ∨ (n : Int) ≤ s
  · left
    have hc : ∀ b, ckE t s v n b = 3 := fun b => (hck b).trans (if_pos hs)
    refine ⟨3, by decide, fenter_slot (fslot_three hJ.prog.eng t s (by omega) (by omega) (by rw [l1]; exact hs)) (by decide), ?_⟩
    have := rfenter_out (t := t) (v := v) hJ.ref.eng s (by rw [l2]; exact hs)
    rwa [l2, hc] at this
  have hck2 : ∀ b, ckE t s v n b = if v < 0 ∨ 64 ≤ v then 2 else if b then 8 else 0 := fun b => (hck b).trans (if_neg hs)
  obtain ⟨i, rfl⟩ : ∃ i : Nat, s = i := ⟨s.toNat, by omega⟩
  obtain ⟨⟨x, st⟩, hp⟩ : ∃ p, c[i]? = some p := ⟨_, List.getElem?_eq_getElem (by omega)⟩
  by_cases hv : v < 0 ∨ 64 ≤ v
  · left
    have hc : ∀ b, ckE t i v n b = 2 := fun b => (hck2 b).trans (if_pos hv)
    refine ⟨2, by decide, fenter_value hJ.prog.eng (by omega) (by omega) (by omega) (by rw [l1]; omega) hv, ?_⟩
    have := rfenter_err (t := t) (v := v) hJ.ref.eng (cref_at hp) (by rw [l2, hc]; decide)
    rwa [l2, hc] at this
  obtain ⟨x0, x1, x2, x3⟩ := hJ.cok i _ hp
  simp only at x0 x1 x2 x3
  by_cases h0 : st = 0
  · subst h0; exact .inr ⟨by omega, by omega, by omega, by omega, i, rfl, x, hp⟩
  · left
    have hne : (st != 0) = true := by simp [h0]
    have hc : ckE t i v n (st != 0) = 8 := by rw [hck2, if_neg hv, hne]; rfl
    refine ⟨8, by decide, fenter_busy hJ.prog.eng (by omega) (by omega) (by omega) (by omega) (cnum_at hp) x0 (cbeg_at hp) ?_, ?_⟩
    · by_cases h1 : st = 1
      · exact .inl (by simp [h1])
      · exact .inr (x3.1 (by omega))
    · have := rfenter_err (t := t) (v := v) hJ.ref.eng (cref_at hp) (by rw [l2, hc]; decide)
      rwa [l2, hc] at this
theorem get_snoc {α : Type} {l : List α} {o p : α} {i : Nat} (h : (l ++ [o])[i]? = some p) : (i = l.length ∧ p = o) ∨ (i ≠ l.length ∧ l[i]? = some p) := by
  by_cases hi : i < l.length
  · rw [List.getElem?_append_left hi] at h; exact .inr ⟨by omega, h⟩
  · rw [List.getElem?_append_right (by omega)] at h
    by_cases e : i = l.length
    · subst e; simp at h; exact .inl ⟨rfl, h.symm⟩
    · rw [List.getElem?_eq_none (by simp; omega)] at h; cases h
/-- Both have begun to enter. -/
theorem J.entered (hJ : J w wr g nb bb mb h sb rb F G base n c ws log ops K) {t x : Int} {i : Nat} (t0 : 0 ≤ t) (t1 : t < 64) (hx : c[i]? = some (x, 0)) {w1 w2 : World} {e1 e2 : Ending}
    (hp : FEnterTo wr g nb bb mb F base (cnum c) (cbeg c) ws log t i e1 w1) (hr : RFEnterTo w1 h sb rb G base ((cref c).set i (x, true, false)) ws log t i e2 w2) :
    J w w2 g nb bb mb h sb rb F G base n (c.set i (x, 1)) ws log (ops ++ [.en wr.heap.size w1.heap.size t i true]) K := by
  obtain ⟨-, p1, p2, p3, p4⟩ := hp
  obtain ⟨-, r1, r2, r3, r4⟩ := hr
  have hi : i < n := by have := lt_of_at hx; have := hJ.lc; omega
  obtain ⟨x0, x1, -, x3⟩ := hJ.cok i _ hx
  simp only at x0 x1 x3
  have live : ∀ (j : Nat) (p : OpD), ops[j]? = some p → p.slot ≠ some i := by
    intro j p hp hs
    cases p with
    | wa => cases hs
    | en a b t' i' l =>
      cases l with
      | false => cases hs
      | true =>
        simp only [OpD.slot, Option.some.injEq] at hs
        subst hs
        obtain ⟨-, -, -, k4⟩ := (hJ.objs j _ hp).2
        obtain ⟨z, hz⟩ := k4 rfl
        rw [hx] at hz; cases hz
  refine hJ.two ops.length (by rw [cnum_set, cbeg_set, set_eq (cnum_at hx)]; exact p1) p3 (fun k hk => .inl hk) (fun k hk _ => .inr (.inr (.inl hk))) (by rw [cref_set]; exact r1) r3 (fun k hk => .inl hk) (fun k hk _ => .inr (.inl hk)) K (by simp [hJ.lc]) rfl hJ.wpos hJ.llog ?_ (fun j p hp => ?_) (fun j k p q hp hq hjk => ?_) (fun j k p q s hp hq hjk hs => ?_)
  · intro j p hp
    rcases set_cases hp with ⟨-, e⟩ | ⟨-, e⟩
    · subst e; exact ⟨x0, x1, by simp, by constructor <;> (intro _; simp only at *; omega)⟩
    · exact hJ.cok j p e
  · rcases get_snoc hp with ⟨e1, e2⟩ | ⟨e1, e2⟩
    · subst e2
      exact .inr ⟨⟨r3.at p2 (fun e => by have := lt_of_block hJ.ref.eng.slots; omega), r2⟩, ⟨t0, t1, hi, fun _ => ⟨x, put_self hx _⟩⟩, .inr ⟨rfl, rfl, by omega, fun _ h => h, fun _ h => h⟩⟩
    · refine .inl ⟨e1, e2, ?_⟩
      have hok := (hJ.objs j p e2).2
      cases p with
      | wa => exact hok
      | en a b t' i' l =>
        obtain ⟨k1, k2, k3, k4⟩ := hok
        refine ⟨k1, k2, k3, fun hl => ?_⟩
        subst hl
        obtain ⟨z, hz⟩ := k4 rfl
        exact ⟨z, by rw [List.getElem?_set, if_neg (fun e => live j _ e2 (by rw [e]; rfl))]; exact hz⟩
  · have old : ∀ (j : Nat) (p : OpD), ops[j]? = some p → p.a < wr.heap.size ∧ p.b < wr.heap.size := fun j p hp => (hJ.objs j p hp).1.at_.lt
    rcases get_snoc hp with ⟨e1, e2⟩ | ⟨e1, e2⟩ <;> rcases get_snoc hq with ⟨e3, e4⟩ | ⟨e3, e4⟩
    · exact absurd (e1.trans e3.symm) hjk
    · subst e2; have := old k q e4; exact ⟨by show wr.heap.size ≠ q.a; omega, by show w1.heap.size ≠ q.b; omega⟩
    · subst e4; have := old j p e2; exact ⟨by show p.a ≠ wr.heap.size; omega, by show p.b ≠ w1.heap.size; omega⟩
    · exact hJ.apart j k p q e2 e4 hjk
  · rcases get_snoc hp with ⟨e1, e2⟩ | ⟨e1, e2⟩ <;> rcases get_snoc hq with ⟨e3, e4⟩ | ⟨e3, e4⟩
    · exact absurd (e1.trans e3.symm) hjk
    · subst e2; simp only [OpD.slot, Option.some.injEq] at hs; subst hs; exact live k q e4
    · subst e4; intro e; simp only [OpD.slot, Option.some.injEq] at e; subst e; exact live j p e2 hs
    · exact hJ.solo j k p q s e2 e4 hjk hs

theorem jwait_cases (_hJ : J w wr g nb bb mb h sb rb F G base n c ws log ops K) (t x : Int) :
    BothNo wr 44 49 #[.pointer (some ⟨g, 0, none⟩), .int .i64 t, .int .u64 x] #[.pointer (some ⟨h, 0, none⟩), .int .i64 t, .int .u64 x] (fun e => .tuple #[.pointer none, .int .i64 e]) ∨ (0 ≤ t ∧ t < 64 ∧ x ≠ 0) := by
  by_cases ht : t < 0 ∨ 64 ≤ t
  · exact .inl ⟨2, by decide, fwait_thread (fthread_no g t ht) (by decide), rfwait_err h (.inl ht)⟩
  by_cases hx : x = 0
  · subst hx; exact .inl ⟨2, by decide, fwait_zero g (by omega) (by omega), rfwait_err h (.inr rfl)⟩
  · exact .inr ⟨by omega, by omega, hx⟩
/-- Both have begun to wait. -/
theorem J.waits (hJ : J w wr g nb bb mb h sb rb F G base n c ws log ops K) (hn : 0 < n) {t : Int} (t0 : 0 ≤ t) (t1 : t < 64) {w1 w2 : World} {e1 e2 : Ending}
    (hp : FWaitTo wr g t e1 w1) (hr : RFWaitTo w1 h t e2 w2) :
    J w w2 g nb bb mb h sb rb F G base n c ws log (ops ++ [.wa wr.heap.size w1.heap.size t ⟨0, 0, 0⟩]) K := by
  obtain ⟨-, p2, p3, p4⟩ := hp
  obtain ⟨-, r2, r3, r4⟩ := hr
  refine hJ.two ops.length (hJ.prog.keep p3 (fun _ _ h => h) (fun h => h) (fun h => h) (fun h => h)) p3 (fun k hk => .inl hk) (fun k hk _ => hk.elim) ((hJ.ref.quiet p3).quiet r3) r3 (fun k hk => .inl hk) (fun k hk _ => hk.elim) K hJ.lc rfl hJ.wpos hJ.llog hJ.cok (fun j p hp => ?_) (fun j k p q hp hq hjk => ?_) (fun j k p q s hp hq hjk hs => ?_)
  · rcases get_snoc hp with ⟨e1, e2⟩ | ⟨e1, e2⟩
    · subst e2
      exact .inr ⟨⟨r3.at p2 (fun h => h), r2⟩, ⟨t0, t1, by simp, fun _ => hn, fun h => by simp at h⟩, .inr ⟨rfl, rfl, by omega, fun _ h => h, fun _ h => h⟩⟩
    · exact .inl ⟨e1, e2, (hJ.objs j p e2).2⟩
  · have old : ∀ (j : Nat) (p : OpD), ops[j]? = some p → p.a < wr.heap.size ∧ p.b < wr.heap.size := fun j p hp => (hJ.objs j p hp).1.at_.lt
    rcases get_snoc hp with ⟨e1, e2⟩ | ⟨e1, e2⟩ <;> rcases get_snoc hq with ⟨e3, e4⟩ | ⟨e3, e4⟩
    · exact absurd (e1.trans e3.symm) hjk
    · subst e2; have := old k q e4; exact ⟨by show wr.heap.size ≠ q.a; omega, by show w1.heap.size ≠ q.b; omega⟩
    · subst e4; have := old j p e2; exact ⟨by show p.a ≠ wr.heap.size; omega, by show p.b ≠ w1.heap.size; omega⟩
    · exact hJ.apart j k p q e2 e4 hjk
  · rcases get_snoc hp with ⟨e1, e2⟩ | ⟨e1, e2⟩ <;> rcases get_snoc hq with ⟨e3, e4⟩ | ⟨e3, e4⟩
    · exact absurd (e1.trans e3.symm) hjk
    · subst e2; cases hs
    · subst e4; intro e; cases e
    · exact hJ.solo j k p q s e2 e4 hjk hs

theorem jexit_cases (hJ : J w wr g nb bb mb h sb rb F G base n c ws log ops K) (t s : Int) :
    BothNo wr 42 48 #[.pointer (some ⟨g, 0, none⟩), .int .i64 t, .int .i64 s] #[.pointer (some ⟨h, 0, none⟩), .int .i64 t, .int .i64 s] (fun e => .tuple #[.int .u8 0, .int .i64 e]) ∨
    (0 ≤ t ∧ t < 64 ∧ ∃ i : Nat, s = i ∧ ∃ x, c[i]? = some (x, 2)) := by
  have lc := hJ.lc
  have l1 : (cnum c).length = n := by simp [cnum, lc]
  have l2 : (cref c).length = n := by simp [cref, lc]
  by_cases ht : t < 0 ∨ 64 ≤ t
  · exact .inl ⟨2, by decide, fexit_slot (fslot_two g t s ht) (by decide), rfexit_thread h t s ht⟩
  by_cases hs : s < 0 ∨ (n : Int) ≤ s
  · exact .inl ⟨3, by decide, fexit_slot (fslot_three hJ.prog.eng t s (by omega) (by omega) (by rw [l1]; exact hs)) (by decide), rfexit_slot hJ.ref.eng (by omega) (by omega) s (by rw [l2]; exact hs)⟩
  obtain ⟨i, rfl⟩ : ∃ i : Nat, s = i := ⟨s.toNat, by omega⟩
  obtain ⟨⟨x, st⟩, hp⟩ : ∃ p, c[i]? = some p := ⟨_, List.getElem?_eq_getElem (by omega)⟩
  obtain ⟨x0, x1, x2, x3⟩ := hJ.cok i _ hp
  simp only at x0 x1 x2 x3
  by_cases h2 : st = 2
  · subst h2; exact .inr ⟨by omega, by omega, i, rfl, x, hp⟩
  · have hd : (st == 2) = false := by simp [h2]
    have hr := cref_at hp
    simp only [hd] at hr
    exact .inl ⟨8, by decide, fexit_state hJ.prog.eng (by omega) (by omega) (cnum_at hp) x0 (by have : ¬ x % 2 = 1 := fun e => h2 (x3.2 e); omega), rfexit_state hJ.ref.eng (by omega) (by omega) hr⟩
/-- Both have left a section. -/
theorem jexit_ok (hJ : J w wr g nb bb mb h sb rb F G base n c ws log ops K) (hK : K ≤ 1000) (b0 : 0 ≤ base) (b1 : base ≤ 20) (hn : n ≤ 9) {t x : Int} {i : Nat} (t0 : 0 ≤ t) (t1 : t < 64) (hx : c[i]? = some (x, 2)) :
    ∃ P : World → Prop, (Calls Try.prog 42 #[.pointer (some ⟨g, 0, none⟩), .int .i64 t, .int .i64 i] wr fun e w1 => e = .returned (.tuple #[.int .u8 13, .int .i64 0]) ∧ P w1) ∧
      (∀ w1, P w1 → ∀ (k : Nat) (cs : Array Value) (ty : TypeId), wr.heap[k]? = some (.cells cs ty (0, 0)) → ¬ F k → ty ≠ 42 → ty ≠ 4 → ty ≠ 146 → ty ≠ 149 → w1.heap[k]? = some (.cells cs ty (0, 0))) ∧
      ∀ w1, P w1 → Calls Try.prog 48 #[.pointer (some ⟨h, 0, none⟩), .int .i64 t, .int .i64 i] w1 fun e w2 => e = .returned (.tuple #[.int .u8 13, .int .i64 0]) ∧ JTo w wr g nb bb mb h sb rb F G base n ops (K + 1) w2 := by
  have lw := hJ.lw
  have lc := hJ.lc
  have ll := hJ.llog
  have hi : i < n := by have := lt_of_at hx; omega
  obtain ⟨x0, x1, -, x3⟩ := hJ.cok i _ hx
  simp only at x0 x1 x3
  have hodd := x3.1 trivial
  obtain ⟨y, hy⟩ : ∃ y, ws[(base + i).toNat]? = some y := ⟨_, List.getElem?_eq_getElem (by omega)⟩
  have bnd1 : (cnum c).length < 1000000 := by simp [cnum, lc]; omega
  have bnd2 : (cref c).length < 1000000 := by simp [cref, lc]; omega
  have e1 : ∀ k, (F k ∨ k = nb ∨ k = bb) → k < wr.heap.size → F k ∨ k = nb ∨ k = bb ∨ ∃ o, ops[ops.length]? = some o ∧ k = o.a := fun k hk _ => by
    rcases hk with e | e | e
    · exact .inl e
    · exact .inr (.inl e)
    · exact .inr (.inr (.inl e))
  have e2 : ∀ k, (G k ∨ k = sb) → True → G k ∨ k = sb ∨ ∃ o, ops[ops.length]? = some o ∧ k = o.b := fun k hk _ => by
    rcases hk with e | e
    · exact .inl e
    · exact .inr (.inl e)
  have hb2 : (cbeg c)[i]? = some false := cbeg_at hx
  have hcb : cbeg (c.set i (x + 1, 0)) = cbeg c := by rw [cbeg_set]; exact set_eq hb2
  refine ⟨fun w1 => FSysTo wr g nb bb mb F base ((cnum c).set i (x + 1)) (cbeg c) (ws.set (base + i).toNat (x + 1)) (log ++ [⟨t, base + i, 2, y, x + 1, false⟩]) w1, fexit_ok hJ.prog x y t0 t1 (cnum_at hx) x0 (by omega) hodd b0 (by omega) bnd1 hy (by omega), ?_, ?_⟩
  · rintro w1 ⟨F', -, hk, -⟩ k cs ty hb hF a1 a2 a3 a4
    exact hk.at hb (hJ.out1 e1 hb hF a1 a2 a3 a4)
  · rintro w1 ⟨F', q1, hk, hf⟩
    have hr := hJ.refAt hk e1
    refine (rfexit_ok hr x y t0 t1 (cref_at hx) x0 (by omega) b0 (by omega) bnd2 hy (by omega)).mono ?_
    rintro e w2 ⟨h1, G', r1, hk2, hf2⟩
    refine ⟨h1, F', G', c.set i (x + 1, 0), ws.set (base + i).toNat (x + 1), log ++ [⟨t, base + i, 2, y, x + 1, false⟩], ops, ?_, rfl, rfl, fun k cs hkk h1 h2 => ⟨?_, ?_, ?_⟩⟩
    · refine hJ.two ops.length (by rw [cnum_set, hcb]; exact q1) hk hf e1 (by rw [cref_set]; exact r1) hk2 hf2 (fun k hk _ => e2 k hk trivial) (K + 1) (by simp [lc]) (by simp) (pos_set hJ.wpos (by omega)) (by simp; omega) (COk.put hJ.cok (by omega) (by omega) (by omega) (by constructor <;> (intro _; omega))) (fun j p hp => ?_) hJ.apart hJ.solo
      refine .inl ⟨by have := lt_of_at hp; omega, hp, ?_⟩
      have hok := (hJ.objs j p hp).2
      cases p with
      | wa => exact hok
      | en a b t' i' l =>
        obtain ⟨k1, k2, k3, k4⟩ := hok
        refine ⟨k1, k2, k3, fun hl => ?_⟩
        obtain ⟨z, hz⟩ := k4 hl
        exact ⟨z, by rw [List.getElem?_set, if_neg (fun e => by subst e; rw [hx] at hz; cases hz)]; exact hz⟩
    · exact hk2.at (hk.at hkk (hJ.out1 e1 hkk h1 (by decide) (by decide) (by decide) (by decide))) (hJ.out2 hk (fun k hk _ => e2 k hk trivial) hkk h2 (by decide) (by decide) (by decide))
    · exact fun e => (hf k e).elim h1 (fun e => by have := lt_of_block hkk; omega)
    · exact fun e => (hf2 k e).elim h2 (fun e => by have := lt_of_block hkk; have := hk.size; omega)
end
end Go.Proofs.Ytckopbjejjeknaa
