/- A rig over `gate`: what its state is to what is seen from above (plain). -/
import Derived.Test.YtldjlcdccnnogaaGreatGateSt
import Derived.Test.YtldjlcdccnnogaaGreatRgP
set_option linter.unusedVariables false
set_option linter.unusedSimpArgs false
namespace Go.Lf
def gcn (f : Nat → Bool) : Nat → Nat
  | 0 => 0
  | n + 1 => gcn f n + (if f n = true then 1 else 0)
theorem gcn_congr {f g : Nat → Bool} {n : Nat} (h : ∀ k, k < n → f k = g k) : gcn f n = gcn g n := by
  induction n with
  | zero => rfl
  | succ n ih => simp only [gcn, ih (fun k hk => h k (by omega)), h n (by omega)]
theorem gcn_turn {f g : Nat → Bool} {n k : Nat} (hk : k < n) (h : ∀ j, j ≠ k → g j = f j) : gcn g n + (if f k = true then 1 else 0) = gcn f n + (if g k = true then 1 else 0) := by
  induction n with
  | zero => omega
  | succ n ih =>
    simp only [gcn]
    by_cases e : k = n
    · subst e
      rw [gcn_congr (f := g) (g := f) (fun j hj => h j (by omega))]
      omega
    · rw [h n (fun e' => e e'.symm)]
      have := ih (by omega)
      omega
theorem gcn_le (f : Nat → Bool) (n : Nat) : gcn f n ≤ n := by
  induction n with
  | zero => simp [gcn]
  | succ n ih => simp only [gcn]; split <;> omega
theorem gcn_pos {f : Nat → Bool} {n k : Nat} (hk : k < n) (h : f k = true) : 1 ≤ gcn f n := by
  induction n with
  | zero => omega
  | succ n ih =>
    simp only [gcn]
    by_cases e : k = n
    · subst e; rw [if_pos h]; omega
    · have := ih (by omega); omega
theorem gcn_ex {f : Nat → Bool} {n : Nat} (h : gcn f n ≠ 0) : ∃ k, k < n ∧ f k = true := by
  induction n with
  | zero => exact absurd rfl h
  | succ n ih =>
    simp only [gcn] at h
    by_cases e : f n = true
    · exact ⟨n, by omega, e⟩
    · rw [if_neg e] at h
      obtain ⟨k, hk, hf⟩ := ih (by omega)
      exact ⟨k, by omega, hf⟩
def GOp.thr : GOp → Int
  | .en t _ _ _ _ => t
  | .wa t _ _ _ _ => t
/-- Whether slot k is counted in bucket b on side c. -/
def inAt (sl : List GSl) (b c k : Nat) : Bool := match sl[k]? with
  | some y => y.ph == 3 && y.b == b && y.sd == c
  | none => false
theorem inAt_of {sl : List GSl} {b c k : Nat} {y : GSl} (h : sl[k]? = some y) : inAt sl b c k = (y.ph == 3 && y.b == b && y.sd == c) := by unfold inAt; rw [h]
theorem inAt_ne {sl : List GSl} {b c j k : Nat} {y : GSl} (h : j ≠ k) : inAt (sl.set k y) b c j = inAt sl b c j := by
  unfold inAt; rw [List.getElem?_set, if_neg (fun e => h e.symm)]
theorem inAt_set {sl : List GSl} {b c k : Nat} {y z : GSl} (h : sl[k]? = some z) : inAt (sl.set k y) b c k = (y.ph == 3 && y.b == b && y.sd == c) := inAt_of (put_self h y)
/-- A wait, by the slots and what the threads do. -/
def GWk (n nb : Nat) (sl : List GSl) (T : Nat → TS) (M : Nat → Prop) (st side : Nat) (left : List Nat) : Prop :=
  ∀ j, j < n → M j → ∃ v y, T j = .inn v ∧ sl[j]? = some y ∧ y.ph = 3 ∧ y.b = v.toNat % nb ∧ v.toNat % nb ∈ left ∧ ∀ r, left = (v.toNat % nb) :: r → (3 ≤ st → y.sd = side % 2) ∧ st ≠ 5
/-- What thread k does, in the state. -/
def GTh (n nb : Nat) (S : GSt) (o : Nat) (x : RX) (k : Nat) : Prop := match x.T k with
  | .idle => ∃ y, S.sl[k]? = some y ∧ y.ph = 0
  | .en v => 0 ≤ v ∧ v < 64 ∧ ∃ c, S.ops[o]? = some (.en k k (v.toNat % nb) c false)
  | .inn v => 0 ≤ v ∧ v < 64 ∧ ∃ y, S.sl[k]? = some y ∧ y.ph = 3 ∧ y.b = v.toNat % nb
  | .wa set bg => (∃ y, S.sl[k]? = some y ∧ y.ph = 0) ∧ 0 < set ∧ set < 18446744073709551616 ∧ ∃ st side left f, S.ops[o]? = some (.wa k st side left f) ∧ st ≤ 5 ∧ (bg = false → st = 0 ∧ left = bkts set.toNat nb) ∧ (∀ b ∈ left, b ∈ bkts set.toNat nb) ∧ left.length ≤ (bkts set.toNat nb).length ∧ x.R k = 6 * left.length - st ∧
      GWk n nb S.sl x.T (if bg = true then x.M k else fun _ => False) st side left
structure GX (n nb : Nat) (S : GSt) (oi : Nat → Nat) (x : RX) : Prop where
  ok : S.ok 0 nb x.K
  cnt : ∀ b c, b < nb → c < 2 → S.ws[4 * b + 1 + c]? = some ((gcn (inAt S.sl b c) n : Nat) : Int)
  lat : ∀ (b : Nat) (y : Int), b < nb → S.ws[4 * b + 3]? = some y → y ≠ 0 → ∃ j set t st side rest f, j < n ∧ x.T j = .wa set true ∧ S.ops[oi j]? = some (.wa t st side (b :: rest) f) ∧ 1 ≤ st ∧ st ≤ 5
  th : ∀ k, k < n → GTh n nb S (oi k) x k
section
variable {n nb k j o : Nat} {S S' : GSt} {oi : Nat → Nat} {x x' : RX}
theorem GWk.other {sl sl' : List GSl} {T T' : Nat → TS} {M M' : Nat → Prop} {st side : Nat} {left : List Nat} (h : GWk n nb sl T M st side left) (hs : ∀ i, i ≠ k → sl'[i]? = sl[i]?) (hT : ∀ i, i ≠ k → T' i = T i) (hM : ∀ i, M' i → M i) (hMk : (∃ v, T k = .inn v) → ¬ M' k) : GWk n nb sl' T' M' st side left := by
  intro i hi hm
  have e : i ≠ k := by
    rintro rfl
    obtain ⟨v, y, hv, -⟩ := h i hi (hM i hm)
    exact hMk ⟨v, hv⟩ hm
  obtain ⟨v, y, a, b, c⟩ := h i hi (hM i hm)
  exact ⟨v, y, by rw [hT i e]; exact a, by rw [hs i e]; exact b, c⟩
theorem GTh.other (h : GTh n nb S o x j) (hj : j ≠ k) (hs : ∀ i, i ≠ k → S'.sl[i]? = S.sl[i]?) (ho : ∀ a, S.ops[o]? = some a → a.thr = j → S'.ops[o]? = some a) (hT : ∀ i, i ≠ k → x'.T i = x.T i) (hR : x'.R j = x.R j) (hM : ∀ i, x'.M j i → x.M j i) (hMk : (∃ v, x.T k = .inn v) → ¬ x'.M j k) : GTh n nb S' o x' j := by
  unfold GTh at h ⊢
  rw [hT j hj]
  split at h
  · rw [hs j hj]; exact h
  · obtain ⟨a, b, c, d⟩ := h
    exact ⟨a, b, c, ho _ d rfl⟩
  · rw [hs j hj]; exact h
  · rename_i set bg hh
    obtain ⟨a, b, c, st, side, left, f, d, e, g, g2, g3, r, m⟩ := h
    refine ⟨by rw [hs j hj]; exact a, b, c, st, side, left, f, ho _ d rfl, e, g, g2, g3, by rw [hR]; exact r, m.other (k := k) hs hT (fun i hi => ?_) (fun hv => ?_)⟩
    · cases bg with
      | true => exact hM i hi
      | false => exact hi
    · cases bg with
      | true => exact hMk hv
      | false => exact fun h => h
theorem gops_ho {a b : Nat} {o o' : GOp} (hk0 : S.ops[a]? = some o) (ht : o.thr = (k : Int)) (hj : j ≠ k) : ∀ p, S.ops[b]? = some p → p.thr = j → (S.ops.set a o')[b]? = some p := by
  intro p hp hq
  rw [List.getElem?_set, if_neg (fun e => ?_)]
  · exact hp
  · subst e
    rw [hk0] at hp
    cases hp
    omega
theorem gops_app {b : Nat} {o' p : GOp} (hp : S.ops[b]? = some p) : (S.ops ++ [o'])[b]? = some p := by
  rw [List.getElem?_append_left (List.getElem?_eq_some_iff.1 hp).1]; exact hp
theorem sl_ne {sl : List GSl} {y : GSl} : ∀ i, i ≠ k → (sl.set k y)[i]? = sl[i]? := fun i hi => by rw [List.getElem?_set, if_neg (fun e => hi e.symm)]
theorem cnt_same {sl : List GSl} {y z : GSl} (hz : sl[k]? = some z) (h1 : z.ph ≠ 3) (h2 : y.ph ≠ 3) (b c : Nat) : gcn (inAt (sl.set k y) b c) n = gcn (inAt sl b c) n := by
  refine gcn_congr (fun i _ => ?_)
  by_cases e : i = k
  · subst e
    rw [inAt_set hz, inAt_of hz, beq_false_of_ne h1, beq_false_of_ne h2]; rfl
  · exact inAt_ne e
theorem GX.op_thr (h : GX n nb S oi x) (hk : k < n) {a : GOp} (ha : S.ops[oi k]? = some a) (hl : (∃ v, x.T k = .en v) ∨ ∃ s b, x.T k = .wa s b) : a.thr = (k : Int) := by
  have ht := h.th k hk
  unfold GTh at ht
  rcases hl with ⟨v, hv⟩ | ⟨s, b, hv⟩
  · rw [hv] at ht
    obtain ⟨-, -, c, hc⟩ := ht
    rw [ha] at hc; cases hc; rfl
  · rw [hv] at ht
    obtain ⟨-, -, -, st, side, left, f, hc, -⟩ := ht
    rw [ha] at hc; cases hc; rfl
/-- Latches, where thread k has turned and holds none, nor gave one back. -/
theorem GX.lat_keep (h : GX n nb S oi x) (hk : k < n) {ops' : List GOp} {ws' : List Int} {oi' : Nat → Nat} {T' : Nat → TS} (hw : ∀ b, b < nb → ws'[4 * b + 3]? = S.ws[4 * b + 3]?) (ho : ∀ j, j ≠ k → j < n → ∀ a, S.ops[oi j]? = some a → a.thr = j → ops'[oi' j]? = some a) (hT : ∀ j, j ≠ k → T' j = x.T j)
    (hkk : ∀ set t st side b rest f, x.T k = .wa set true → S.ops[oi k]? = some (.wa t st side (b :: rest) f) → 1 ≤ st → st ≤ 5 → ∃ st' side' f', T' k = .wa set true ∧ ops'[oi' k]? = some (.wa t st' side' (b :: rest) f') ∧ 1 ≤ st' ∧ st' ≤ 5) :
    ∀ (b : Nat) (y : Int), b < nb → ws'[4 * b + 3]? = some y → y ≠ 0 → ∃ j set t st side rest f, j < n ∧ T' j = .wa set true ∧ ops'[oi' j]? = some (.wa t st side (b :: rest) f) ∧ 1 ≤ st ∧ st ≤ 5 := by
  intro b y hb hy h0
  rw [hw b hb] at hy
  obtain ⟨j, set, t, st, side, rest, f, hj, h1, h2, h3, h4⟩ := h.lat b y hb hy h0
  by_cases e : j = k
  · subst e
    obtain ⟨st', side', f', q1, q2, q3, q4⟩ := hkk set t st side b rest f h1 h2 h3 h4
    exact ⟨j, set, t, st', side', rest, f', hj, q1, q2, q3, q4⟩
  · exact ⟨j, set, t, st, side, rest, f, hj, by rw [hT j e]; exact h1, ho j e hj _ h2 (h.op_thr hj h2 (.inr ⟨_, _, h1⟩)), h3, h4⟩
theorem GX.enter (h : GX n nb S oi x) (hn : n ≤ 6) (hnb : nb ≤ 4) (hnb0 : 1 ≤ nb) (hk : k < n) {v : Int} (hT : x.T k = .idle) (v0 : 0 ≤ v) (v1 : v < 64) (b : Nat) :
    ∃ y, S.sl[k]? = some y ∧ y.ph = 0 ∧ GX n nb (S.begun k k (v.toNat % nb) y) (upd oi k S.ops.length) (x.enter k v b) := by
  have hc := h.th k hk
  unfold GTh at hc
  rw [hT] at hc
  obtain ⟨y, hy, hp⟩ := hc
  refine ⟨y, hy, hp, h.ok.begun (by omega) (by omega) (by omega) (Nat.mod_lt _ (by omega)) hy hp, fun b c hb hc => ?_, ?_, fun j hj => ?_⟩
  · show S.ws[_]? = some ((gcn (inAt (S.sl.set k _) b c) n : Nat) : Int)
    rw [cnt_same hy (by omega) (by simp)]
    exact h.cnt b c hb hc
  · refine h.lat_keep hk (fun _ _ => rfl) (fun j e hj a ha _ => ?_) (fun j e => upd_ne _ _ e) (fun set t st side b rest f h1 => by rw [hT] at h1; cases h1)
    rw [upd_ne _ _ e]; exact gops_app ha
  · by_cases e : j = k
    · subst e
      unfold GTh
      simp only [RX.enter, upd_self]
      exact ⟨v0, v1, none, by simp [GSt.begun]⟩
    · rw [upd_ne _ _ e]
      exact (h.th j hj).other e sl_ne (fun a ha _ => gops_app ha) (fun i hi => upd_ne _ _ hi) rfl (fun i hi => hi) (fun ⟨v, hv⟩ => by rw [hT] at hv; cases hv)
theorem GX.estep (h : GX n nb S oi x) (hn : n ≤ 6) (hk : k < n) {v : Int} (hT : x.T k = .en v) {pc : Int} {d : Bool} (hst : GStep 0 S (oi k) S' pc d) : GX n nb S' oi (x.estep k v d) ∧ pc ≠ 0 ∧ pc ≠ 1 := by
  have hok := gstep_ok h.ok hst
  have hc := h.th k hk
  unfold GTh at hc
  rw [hT] at hc
  obtain ⟨v0, v1, c, ho⟩ := hc
  have nT : ∀ u, x.T k ≠ .inn u := fun u hu => by rw [hT] at hu; cases hu
  have nW : ∀ set b, x.T k ≠ .wa set b := fun set b hu => by rw [hT] at hu; cases hu
  obtain ⟨-, -, -, hb, hc2, -, hsl⟩ := h.ok.ops _ _ ho
  obtain ⟨z, hz, z1, z2, z3, z4⟩ := hsl rfl
  cases hst with
  | @choose t s b0 x0 y0 h1 hy hx =>
    rw [ho] at h1
    simp only [Option.some.injEq, GOp.en.injEq, and_true] at h1
    obtain ⟨rfl, h2, rfl, rfl⟩ := h1
    have h2 : k = _ := h2
    subst h2
    have hph : z.ph = 1 := by rw [z2]; rfl
    refine ⟨⟨hok, fun b c hb hc => ?_, ?_, fun j hj => ?_⟩, by decide, by decide⟩
    · show S.ws[_]? = some ((gcn (inAt (S.sl.set k _) b c) n : Nat) : Int)
      rw [cnt_same hz (by omega) (by simp)]
      exact h.cnt b c hb hc
    · exact h.lat_keep hk (fun _ _ => rfl) (fun j e hj a ha ht => gops_ho ho rfl e a ha ht) (fun j e => upd_ne _ _ e) (fun set t st side b rest f h1 => absurd h1 (nW _ _))
    · by_cases e : j = k
      · subst e
        unfold GTh
        simp only [RX.estep, upd_self]
        exact ⟨v0, v1, _, put_self ho _⟩
      · exact (h.th j hj).other e sl_ne (gops_ho ho rfl e) (fun i hi => upd_ne _ _ hi) rfl (fun i hi => hi) (fun ⟨u, hu⟩ => absurd hu (nT u))
  | @count t s b0 c0 x0 y0 h1 hy hx =>
    rw [ho] at h1
    simp only [Option.some.injEq, GOp.en.injEq, and_true] at h1
    obtain ⟨rfl, h2, rfl, rfl⟩ := h1
    have h2 : k = _ := h2
    subst h2
    have hph : z.ph = 2 := by rw [z2]; rfl
    have hc0 := hc2 _ rfl
    rw [Nat.zero_add] at hx
    have hcx := h.cnt _ _ hb hc0
    rw [hcx] at hx
    have hx := Option.some.inj hx
    have hle := gcn_le (inAt S.sl (v.toNat % nb) c0) n
    have hw : IntKind.u64.wrap (x0 + 1) = x0 + 1 := by rw [IntKind.wrap_u64]; omega
    refine ⟨⟨hok, fun b c hb hc => ?_, ?_, fun j hj => ?_⟩, by decide, by decide⟩
    · simp only [Nat.zero_add]
      have ht := gcn_turn (f := inAt S.sl b c) (g := inAt (S.sl.set k ⟨3, v.toNat % nb, c0, oi k⟩) b c) hk (fun j e => inAt_ne e)
      rw [inAt_of hz, inAt_set hz, hph] at ht
      simp only [show ((2 : Nat) == 3) = false from rfl, Bool.false_and, Bool.false_eq_true, if_false, Nat.add_zero, beq_self_eq_true, Bool.true_and] at ht
      by_cases e : b = v.toNat % nb ∧ c = c0
      · obtain ⟨rfl, rfl⟩ := e
        simp only [beq_self_eq_true, Bool.true_and, if_true] at ht
        rw [put_self hcx, ht, hw, ← hx]
        rfl
      · have : ((v.toNat % nb == b) && (c0 == c)) = false := by
          cases hq : ((v.toNat % nb == b) && (c0 == c)) with
          | false => rfl
          | true => simp at hq; exact absurd ⟨hq.1.symm, hq.2.symm⟩ e
        rw [this] at ht
        simp only [Bool.false_eq_true, if_false, Nat.add_zero] at ht
        rw [ht, List.getElem?_set, if_neg (fun e2 => e (by omega))]
        exact h.cnt b c hb hc
    · refine h.lat_keep hk (fun b hb => ?_) (fun j e hj a ha ht => gops_ho ho rfl e a ha ht) (fun j e => upd_ne _ _ e) (fun set t st side b rest f h1 => absurd h1 (nW _ _))
      rw [List.getElem?_set, if_neg (by omega)]
    · by_cases e : j = k
      · subst e
        unfold GTh
        simp only [RX.estep, upd_self, if_true]
        exact ⟨v0, v1, _, put_self hz _, rfl, rfl⟩
      · exact (h.th j hj).other e sl_ne (gops_ho ho rfl e) (fun i hi => upd_ne _ _ hi) rfl (fun i hi => hi) (fun ⟨u, hu⟩ => absurd hu (nT u))
  | idle h1 => rw [ho] at h1; simp at h1
  | wait h1 => rw [ho] at h1; simp at h1
  | over h1 => rw [ho] at h1; simp at h1
theorem GX.exit (h : GX n nb S oi x) (hn : n ≤ 6) (hnb0 : 1 ≤ nb) (hk : k < n) {v : Int} (hT : x.T k = .inn v) : ∃ y z, S.sl[k]? = some y ∧ y.ph = 3 ∧ S.ws[0 + 4 * y.b + 1 + y.sd]? = some z ∧ GX n nb (S.left 0 k k y z) oi (x.exit k) := by
  have hc := h.th k hk
  unfold GTh at hc
  rw [hT] at hc
  obtain ⟨v0, v1, y, hy, hp, hb⟩ := hc
  obtain ⟨-, -, hsd, -⟩ := h.ok.sls k y hy
  have hbn : y.b < nb := by rw [hb]; exact Nat.mod_lt _ (by omega)
  have hcx := h.cnt _ _ hbn hsd
  have hle := gcn_le (inAt S.sl y.b y.sd) n
  have hpos : 1 ≤ gcn (inAt S.sl y.b y.sd) n := gcn_pos hk (by rw [inAt_of hy, hp]; simp)
  have hw : IntKind.u64.wrap (((gcn (inAt S.sl y.b y.sd) n : Nat) : Int) + 18446744073709551615) = ((gcn (inAt S.sl y.b y.sd) n - 1 : Nat) : Int) := by rw [IntKind.wrap_u64]; omega
  refine ⟨y, _, hy, hp, by rw [Nat.zero_add]; exact hcx, h.ok.left hy hp, fun b c hb hc => ?_, ?_, fun j hj => ?_⟩
  · unfold GSt.left
    simp only [Nat.zero_add]
    have ht := gcn_turn (f := inAt S.sl b c) (g := inAt (S.sl.set k ⟨0, y.b, y.sd, y.ow⟩) b c) hk (fun j e => inAt_ne e)
    rw [inAt_of hy, inAt_set hy, hp] at ht
    simp only [show ((0 : Nat) == 3) = false from rfl, Bool.false_and, Bool.false_eq_true, if_false, Nat.add_zero, beq_self_eq_true, Bool.true_and] at ht
    by_cases e : b = y.b ∧ c = y.sd
    · obtain ⟨rfl, rfl⟩ := e
      simp only [beq_self_eq_true, Bool.true_and, if_true] at ht
      rw [put_self hcx, hw]
      exact congrArg (fun m : Nat => some (m : Int)) (by omega)
    · have : ((y.b == b) && (y.sd == c)) = false := by
        cases hq : ((y.b == b) && (y.sd == c)) with
        | false => rfl
        | true => simp at hq; exact absurd ⟨hq.1.symm, hq.2.symm⟩ e
      rw [this] at ht
      simp only [Bool.false_eq_true, if_false, Nat.add_zero] at ht
      rw [ht, List.getElem?_set, if_neg (fun e2 => e (by omega))]
      exact h.cnt b c hb hc
  · refine h.lat_keep hk (fun b hb => ?_) (fun j e hj a ha ht => ha) (fun j e => upd_ne _ _ e) (fun set t st side b rest f h1 => by rw [hT] at h1; cases h1)
    unfold GSt.left
    simp only [Nat.zero_add]
    rw [List.getElem?_set, if_neg (by omega)]
  · by_cases e : j = k
    · subst e
      unfold GTh
      simp only [RX.exit, upd_self]
      exact ⟨_, put_self hy _, rfl⟩
    · exact (h.th j hj).other e sl_ne (fun a ha _ => ha) (fun i hi => upd_ne _ _ hi) rfl (fun i hi => hi.1) (fun _ hm => hm.2 rfl)
theorem gbkts_ne {set n : Nat} (s0 : set ≠ 0) (s1 : set < 18446744073709551616) (hn : 1 ≤ n) : bkts set n ≠ [] := by
  obtain ⟨v, hv⟩ : ∃ v, set.testBit v = true := by
    refine Classical.byContradiction fun h => s0 ?_
    apply Nat.eq_of_testBit_eq
    intro i
    rw [Nat.zero_testBit]
    cases hb : set.testBit i with
    | false => rfl
    | true => exact absurd ⟨i, hb⟩ h
  have hv64 : v < 64 := by
    refine Classical.byContradiction fun h => ?_
    rw [Nat.testBit_lt_two_pow (Nat.lt_of_lt_of_le s1 (Nat.pow_le_pow_right (n := 2) (by decide) (show 64 ≤ v by omega)))] at hv
    cases hv
  intro e
  have : v % n ∈ bkts set n := mem_bkts.2 ⟨Nat.mod_lt _ (by omega), inB_iff.2 ⟨v, hv64, rfl, hv⟩⟩
  rw [e] at this
  cases this
theorem GX.wait (h : GX n nb S oi x) (hn : n ≤ 6) (hnb0 : 1 ≤ nb) (hk : k < n) {set : Int} (hT : x.T k = .idle) (s0 : 0 < set) (s1 : set < 18446744073709551616) (b : Nat) :
    GX n nb (S.waits k (bkts set.toNat nb)) (upd oi k S.ops.length) (x.wait k set (6 * (bkts set.toNat nb).length) b) := by
  have hc := h.th k hk
  unfold GTh at hc
  rw [hT] at hc
  refine ⟨h.ok.waits (by omega) (by omega) (gbkts_ne (by omega) (by omega) hnb0) (fun b hb => (mem_bkts.1 hb).1), h.cnt, ?_, fun j hj => ?_⟩
  · refine h.lat_keep hk (fun _ _ => rfl) (fun j e hj a ha _ => ?_) (fun j e => upd_ne _ _ e) (fun set t st side b rest f h1 => by rw [hT] at h1; cases h1)
    rw [upd_ne _ _ e]; exact gops_app ha
  · by_cases e : j = k
    · subst e
      unfold GTh
      simp only [RX.wait, upd_self]
      exact ⟨hc, s0, s1, 0, 0, bkts set.toNat nb, 0, by simp [GSt.waits], by omega, fun _ => ⟨rfl, rfl⟩, fun _ h => h, Nat.le_refl _, rfl, fun i hi hm => hm.elim⟩
    · rw [upd_ne _ _ e]
      exact (h.th j hj).other e (fun _ _ => rfl) (fun a ha _ => gops_app ha) (fun i hi => upd_ne _ _ hi) (upd_ne _ _ e) (fun i hi => hi) (fun ⟨v, hv⟩ => by rw [hT] at hv; cases hv)
/-- What a step of a wait makes of it, in words of what is seen. -/
structure GWTo (n nb : Nat) (S : GSt) (T : Nat → TS) (M : Nat → Prop) (st side : Nat) (left : List Nat) (ws' : List Int) (st' side' : Nat) (left' : List Nat) : Prop where
  st5 : st' ≤ 5 ∨ st' = 6
  e6 : st' = 6 → left' = []
  sub : ∀ b ∈ left', b ∈ left
  len : left'.length ≤ left.length
  gw : GWk n nb S.sl T M st' side' left'
  cnt : ∀ b c, b < nb → c < 2 → ws'[4 * b + 1 + c]? = S.ws[4 * b + 1 + c]?
  lat : ∀ (b : Nat) (y : Int), b < nb → ws'[4 * b + 3]? = some y → y ≠ 0 → (ws'[4 * b + 3]? = S.ws[4 * b + 3]? ∧ ∀ rest, left = b :: rest → 1 ≤ st → 1 ≤ st' ∧ st' ≤ 5 ∧ left' = left) ∨ ∃ rest, left' = b :: rest ∧ 1 ≤ st' ∧ st' ≤ 5
theorem GX.inn0 (h : GX n nb S oi x) (hj : j < n) {v : Int} (hT : x.T j = .inn v) : 0 ≤ v ∧ v < 64 ∧ ∃ y, S.sl[j]? = some y ∧ y.ph = 3 ∧ y.b = v.toNat % nb := by
  have hc := h.th j hj
  unfold GTh at hc
  rw [hT] at hc
  exact hc
theorem GX.counted (h : GX n nb S oi x) {b c : Nat} (hb : b < nb) (hc : c < 2) {z : Int} (hz : S.ws[4 * b + 1 + c]? = some z) (h0 : z ≠ 0) : ∃ j v, j < n ∧ x.T j = .inn v ∧ v.toNat % nb = b := by
  rw [h.cnt b c hb hc] at hz
  have hz := Option.some.inj hz
  obtain ⟨j, hj, hi⟩ := gcn_ex (f := inAt S.sl b c) (n := n) (by omega)
  have ht := h.th j hj
  unfold inAt at hi
  unfold GTh at ht
  split at hi
  · rename_i y hy
    simp only [Bool.and_eq_true, beq_iff_eq] at hi
    obtain ⟨⟨i1, i2⟩, i3⟩ := hi
    split at ht
    · obtain ⟨y', hy', hp⟩ := ht; rw [hy] at hy'; cases hy'; omega
    · obtain ⟨-, -, c', hc'⟩ := ht
      obtain ⟨-, -, -, -, -, -, hsl⟩ := h.ok.ops _ _ hc'
      obtain ⟨z', hz', -, z2, -⟩ := hsl rfl
      rw [hy] at hz'; cases hz'
      rw [i1] at z2
      cases c' <;> simp [gph] at z2
    · rename_i v e
      obtain ⟨-, -, y', hy', hp, hb'⟩ := ht
      rw [hy] at hy'; cases hy'
      exact ⟨j, v, hj, e, by omega⟩
    · obtain ⟨⟨y', hy', hp⟩, -⟩ := ht; rw [hy] at hy'; cases hy'; omega
  · cases hi
theorem GX.none_at (h : GX n nb S oi x) {M : Nat → Prop} {st side : Nat} {b c : Nat} {rest : List Nat} (hw : GWk n nb S.sl x.T M st side (b :: rest)) (hb : b < nb) (hc : c < 2) (hz : S.ws[4 * b + 1 + c]? = some 0) {j : Nat} (hj : j < n) (hm : M j) {y : GSl} (hy : S.sl[j]? = some y) (hp : y.ph = 3) (hb' : y.b = b) : y.sd ≠ c := by
  intro e
  rw [h.cnt b c hb hc] at hz
  have hz := Option.some.inj hz
  have := gcn_pos (f := inAt S.sl b c) hj (by rw [inAt_of hy, hp, hb', e]; simp)
  omega
theorem GX.wturn (h : GX n nb S oi x) (hk : k < n) {set : Int} {bg : Bool} (hT : x.T k = .wa set bg) {M : Nat → Prop} {t : Int} {st side f st' side' f' : Nat} {left left' : List Nat} {ws' : List Int} {a : Acc} (ho : S.ops[oi k]? = some (.wa t st side left f)) (hbg : bg = false → st = 0) (hsd : side < 2) (hl : ∀ b ∈ left, b < nb) (hw : GWk n nb S.sl x.T M st side left) (hs : GWStep 0 t S.ws st side left f ws' a st' side' left' f') :
    GWTo n nb S x.T M st side left ws' st' side' left' ∧ (6 * left'.length - st' + 1 ≤ 6 * left.length - st ∨ (∃ j v, j < n ∧ x.T j = .inn v ∧ v.toNat % nb ∈ left) ∨ ∃ j s, j < n ∧ j ≠ k ∧ x.T j = .wa s true) := by
  have go : ∀ {st2 side2 : Nat} {b : Nat} {rest : List Nat}, left = b :: rest → (∀ j v y, j < n → M j → x.T j = .inn v → S.sl[j]? = some y → y.ph = 3 → y.b = v.toNat % nb → v.toNat % nb = b → (3 ≤ st → y.sd = side % 2) → (3 ≤ st2 → y.sd = side2 % 2) ∧ st2 ≠ 5) → GWk n nb S.sl x.T M st2 side2 left := by
    intro st2 side2 b rest hlf hg j hj hm
    obtain ⟨v, y, a1, a2, a3, a4, a5, a6⟩ := hw j hj hm
    refine ⟨v, y, a1, a2, a3, a4, a5, fun r hr => ?_⟩
    have : v.toNat % nb = b := by rw [hlf] at hr; exact (List.cons.inj hr).1.symm
    exact hg j v y hj hm a1 a2 a3 a4 this (a6 r hr).1
  cases hs with
  | @lock _ b _ rest hx =>
    simp only [Nat.zero_add] at hx ⊢
    refine ⟨⟨.inl (by omega), fun h => by omega, fun _ h => h, Nat.le_refl _, go rfl (fun j v y _ _ _ _ _ _ _ _ => ⟨fun h => by omega, by omega⟩), fun b' c hb hc => by rw [List.getElem?_set, if_neg (by omega)], fun b' y hb hy h0 => ?_⟩, .inl (by simp only [List.length_cons]; omega)⟩
    by_cases e : b' = b
    · subst e; exact .inr ⟨rest, rfl, by omega, by omega⟩
    · exact .inl ⟨by rw [List.getElem?_set, if_neg (by omega)], fun r hr => absurd (List.cons.inj hr).1.symm e⟩
  | @busy _ b _ rest y hx hne =>
    simp only [Nat.zero_add] at hx ⊢
    have hb := hl b (List.mem_cons_self ..)
    refine ⟨⟨.inl (by omega), fun h => by omega, fun _ h => h, Nat.le_refl _, hw, fun _ _ _ _ => rfl, fun b' y hb hy h0 => .inl ⟨rfl, fun _ _ h => by omega⟩⟩, .inr (.inr ?_)⟩
    obtain ⟨j, set', t', st2, side2, rest2, f2, hj, h1, h2, h3, h4⟩ := h.lat b y hb hx hne
    refine ⟨j, set', hj, fun e => ?_, h1⟩
    subst e
    rw [ho] at h2
    simp only [Option.some.injEq, GOp.wa.injEq] at h2
    omega
  | @look _ b _ rest y hx =>
    refine ⟨⟨.inl (by omega), fun h => by omega, fun _ h => h, Nat.le_refl _, go rfl (fun j v y _ _ _ _ _ _ _ _ => ⟨fun h => by omega, by omega⟩), fun _ _ _ _ => rfl, fun b' y hb hy h0 => .inl ⟨rfl, fun _ _ h => ⟨by omega, by omega, rfl⟩⟩⟩, .inl (by simp only [List.length_cons]; omega)⟩
  | @other _ b _ rest y hx =>
    simp only [Nat.zero_add] at hx
    have hb := hl b (List.mem_cons_self ..)
    by_cases e : y = 0
    · subst e
      simp only [if_true]
      refine ⟨⟨.inl (by omega), fun h => by omega, fun _ h => h, Nat.le_refl _, go rfl (fun j v y hj hm _ hy hp hb' hv _ => ⟨fun _ => ?_, by omega⟩), fun _ _ _ _ => rfl, fun b' y hb hy h0 => .inl ⟨rfl, fun _ _ h => ⟨by omega, by omega, rfl⟩⟩⟩, .inl (by simp only [List.length_cons]; omega)⟩
      have := h.none_at hw hb (Nat.mod_lt _ (by omega)) hx hj hm hy hp (by omega)
      obtain ⟨-, -, hsd', -⟩ := h.ok.sls j y hy
      omega
    · simp only [if_neg e]
      obtain ⟨j, v, hj, hv, hb'⟩ := h.counted hb (Nat.mod_lt _ (by omega)) hx e
      exact ⟨⟨.inl (by omega), fun h => by omega, fun _ h => h, Nat.le_refl _, hw, fun _ _ _ _ => rfl, fun b' y hb hy h0 => .inl ⟨rfl, fun _ _ h => ⟨by omega, by omega, rfl⟩⟩⟩, .inr (.inl ⟨j, v, hj, hv, by rw [hb']; exact List.mem_cons_self ..⟩)⟩
  | @flip _ b _ rest y hx =>
    simp only [Nat.zero_add] at hx ⊢
    refine ⟨⟨.inl (by omega), fun h => by omega, fun _ h => h, Nat.le_refl _, go rfl (fun j v y _ _ _ _ _ _ _ hq => ⟨fun _ => hq (by omega), by omega⟩), fun b' c hb hc => by rw [List.getElem?_set, if_neg (by omega)], fun b' y hb hy h0 => .inl ⟨by rw [List.getElem?_set, if_neg (by omega)], fun _ _ h => ⟨by omega, by omega, rfl⟩⟩⟩, .inl (by simp only [List.length_cons]; omega)⟩
  | @drain _ b _ rest y hx =>
    simp only [Nat.zero_add] at hx
    have hb := hl b (List.mem_cons_self ..)
    by_cases e : y = 0
    · subst e
      simp only [if_true]
      refine ⟨⟨.inl (by omega), fun h => by omega, fun _ h => h, Nat.le_refl _, go rfl (fun j v y hj hm _ hy hp hb' hv hq => ?_), fun _ _ _ _ => rfl, fun b' y hb hy h0 => .inl ⟨rfl, fun _ _ h => ⟨by omega, by omega, rfl⟩⟩⟩, .inl (by simp only [List.length_cons]; omega)⟩
      exact absurd (hq (by omega)) (h.none_at hw hb (Nat.mod_lt _ (by omega)) hx hj hm hy hp (by omega))
    · simp only [if_neg e]
      obtain ⟨j, v, hj, hv, hb'⟩ := h.counted hb (Nat.mod_lt _ (by omega)) hx e
      exact ⟨⟨.inl (by omega), fun h => by omega, fun _ h => h, Nat.le_refl _, hw, fun _ _ _ _ => rfl, fun b' y hb hy h0 => .inl ⟨rfl, fun _ _ h => ⟨by omega, by omega, rfl⟩⟩⟩, .inr (.inl ⟨j, v, hj, hv, by rw [hb']; exact List.mem_cons_self ..⟩)⟩
  | @unlock _ b _ _ hx =>
    simp only [Nat.zero_add] at hx ⊢
    have hg : GWk n nb S.sl x.T M (if left' = [] then 6 else 0) side left' := by
      intro j hj hm
      obtain ⟨v, y, a1, a2, a3, a4, a5, a6⟩ := hw j hj hm
      have hne : v.toNat % nb ≠ b := fun e => (a6 left' (by rw [e])).2 rfl
      have hin : v.toNat % nb ∈ left' := (List.mem_cons.1 a5).resolve_left hne
      have hr : left' ≠ [] := fun e => by rw [e] at hin; cases hin
      rw [if_neg hr]
      exact ⟨v, y, a1, a2, a3, a4, hin, fun r _ => ⟨fun h => by omega, by omega⟩⟩
    refine ⟨⟨?_, ?_, fun _ h => List.mem_cons_of_mem _ h, by simp, hg, fun b' c hb hc => by rw [List.getElem?_set, if_neg (by omega)], fun b' y hb hy h0 => ?_⟩, .inl ?_⟩
    · split <;> omega
    · intro h6
      split at h6
      · assumption
      · omega
    · by_cases e : b' = b
      · subst e
        rw [put_self hx] at hy
        exact absurd (Option.some.inj hy).symm h0
      · exact .inl ⟨by rw [List.getElem?_set, if_neg (by omega)], fun r hr => absurd (List.cons.inj hr).1.symm e⟩
    · simp only [List.length_cons]
      split <;> omega
theorem gwpc_ne {st : Nat} (h : st ≤ 5) : gwpc st ≠ 0 ∧ gwpc st ≠ 1 := by
  have : st = 0 ∨ st = 1 ∨ st = 2 ∨ st = 3 ∨ st = 4 ∨ st = 5 := by omega
  rcases this with rfl | rfl | rfl | rfl | rfl | rfl <;> exact ⟨by decide, by decide⟩
theorem GX.wstep (h : GX n nb S oi x) (hn : n ≤ 6) (hnb0 : 1 ≤ nb) (hk : k < n) {set : Int} {bg : Bool} (hT : x.T k = .wa set bg) {pc : Int} {d : Bool} (hst : GStep 0 S (oi k) S' pc d) :
    ∃ r, GX n nb S' oi (x.wstep k set bg d r) ∧ pc ≠ 0 ∧ pc ≠ 1 ∧ (d = true → ∀ j, j < n → ¬ x.must k set bg j) ∧ r ≤ 6 * (bkts set.toNat nb).length ∧
      (r + 1 ≤ x.R k ∨ (∃ j v, j < n ∧ x.T j = .inn v ∧ v.toNat % nb ∈ bkts set.toNat nb) ∨ ∃ j s, j < n ∧ j ≠ k ∧ x.T j = .wa s true) := by
  have hok := gstep_ok h.ok hst
  have hc := h.th k hk
  unfold GTh at hc
  rw [hT] at hc
  obtain ⟨hc, s0, s1, st, side, left, f, ho, h5, hbg, hsub, hlen, hR, hG⟩ := hc
  have nT : ∀ u, x.T k ≠ .inn u := fun u hu => by rw [hT] at hu; cases hu
  obtain ⟨-, -, -, hsd, hlb, hle, -⟩ := h.ok.ops _ _ ho
  have hW : GWk n nb S.sl x.T (fun j => x.must k set bg j) st side left := by
    cases bg with
    | true => exact hG
    | false =>
      obtain ⟨rfl, rfl⟩ := hbg rfl
      intro j hj ⟨v, hv, hh⟩
      obtain ⟨v0, v1, y, hy, hp, hb⟩ := h.inn0 hj hv
      refine ⟨v, y, hv, hy, hp, hb, mem_bkts.2 ⟨Nat.mod_lt _ (by omega), inB_iff.2 ⟨v.toNat, by omega, rfl, ?_⟩⟩, fun r _ => ⟨fun h => by omega, by omega⟩⟩
      unfold hasv at hh
      simp only [Bool.and_eq_true] at hh
      exact hh.2
  cases hst with
  | choose h1 => rw [ho] at h1; simp at h1
  | count h1 => rw [ho] at h1; simp at h1
  | idle h1 => rw [ho] at h1; simp at h1
  | over h1 => rw [ho] at h1; simp only [Option.some.injEq, GOp.wa.injEq] at h1; omega
  | @wait t st1 side1 f1 st' side' f' left1 left' ws' a h1 hs =>
    rw [ho] at h1
    simp only [Option.some.injEq, GOp.wa.injEq] at h1
    obtain ⟨rfl, rfl, rfl, rfl, rfl⟩ := h1
    obtain ⟨q, hp⟩ := h.wturn hk hT ho (fun h => (hbg h).1) hsd hlb hW hs
    obtain ⟨p0, p1⟩ := gwpc_ne h5
    have hlen' := q.len
    refine ⟨6 * left'.length - st', ⟨hok, fun b c hb hc => by show ws'[_]? = _; rw [q.cnt b c hb hc]; exact h.cnt b c hb hc, fun b y hb hy h0 => ?_, fun j hj => ?_⟩, p0, p1, fun hd j hj hm => ?_, by omega, ?_⟩
    · rcases q.lat b y hb hy h0 with ⟨l1, l2⟩ | ⟨rest, l1, l2, l3⟩
      · have hy' : S.ws[4 * b + 3]? = some y := by rw [← l1]; exact hy
        obtain ⟨j, set', t', st2, side2, rest2, f2, hj, m1, m2, m3, m4⟩ := h.lat b y hb hy' h0
        by_cases e : j = k
        · subst e
          rw [ho] at m2
          simp only [Option.some.injEq, GOp.wa.injEq] at m2
          obtain ⟨-, rfl, rfl, rfl, rfl⟩ := m2
          obtain ⟨n1, n2, rfl⟩ := l2 rest2 rfl m3
          refine ⟨j, set, _, _, _, _, _, hj, ?_, put_self ho _, n1, n2⟩
          show upd x.T j _ j = _
          rw [upd_self, show (st' == 6) = false from by simp; omega]; rfl
        · exact ⟨j, set', t', st2, side2, rest2, f2, hj, by show upd x.T k _ j = _; rw [upd_ne _ _ e]; exact m1, gops_ho ho rfl e _ m2 (h.op_thr hj m2 (.inr ⟨_, _, m1⟩)), m3, m4⟩
      · refine ⟨k, set, _, _, _, rest, _, hk, ?_, by rw [← l1]; exact put_self ho _, l2, l3⟩
        show upd x.T k _ k = _
        rw [upd_self, show (st' == 6) = false from by simp; omega]; rfl
    · by_cases e : j = k
      · subst e
        unfold GTh
        simp only [RX.wstep, upd_self]
        by_cases hd : st' = 6
        · rw [show (st' == 6) = true by simp [hd]]
          simp only [if_true]
          exact hc
        · rw [show (st' == 6) = false by simp [hd]]
          simp only [Bool.false_eq_true, if_false, if_true]
          have h5' := q.st5
          exact ⟨hc, s0, s1, st', side', left', f', put_self ho _, by omega, fun h => by simp at h, fun b hb => hsub b (q.sub b hb), by omega, rfl,
            q.gw.other (k := j) (fun _ _ => rfl) (fun i hi => upd_ne _ _ hi) (fun _ h => h) (fun ⟨u, hu⟩ => absurd hu (nT u))⟩
      · have hM : (x.wstep k set bg (st' == 6) (6 * left'.length - st')).M j = x.M j := upd_ne _ _ e
        exact (h.th j hj).other e (fun _ _ => rfl) (gops_ho ho rfl e) (fun i hi => upd_ne _ _ hi) (upd_ne _ _ e) (fun i hi => by rw [hM] at hi; exact hi) (fun ⟨u, hu⟩ => absurd hu (nT u))
    · have e6 := q.e6 (by simpa using hd)
      obtain ⟨v, y, -, -, -, -, hin, -⟩ := q.gw j hj hm
      rw [e6] at hin
      cases hin
    · rcases hp with hp | ⟨j, v, hj, hv, hi⟩ | hp
      · exact .inl (by rw [hR]; exact hp)
      · exact .inr (.inl ⟨j, v, hj, hv, hsub _ hi⟩)
      · exact .inr (.inr hp)
end
end Go.Lf
