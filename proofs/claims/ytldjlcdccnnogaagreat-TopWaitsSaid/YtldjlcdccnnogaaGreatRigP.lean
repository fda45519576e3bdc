/- What holds of a rig's events (plain). -/
import Derived.Test.YtldjlcdccnnogaaGreatRgP
set_option linter.unusedVariables false
set_option linter.unusedSimpArgs false
namespace Go.Lf
/-- What the events say of a thread fits what it does. -/
def TRel (e : EvS) : TS → Prop
  | .idle => e = .out
  | .en _ => e = .out
  | .inn v => ∃ q, e = .inn v q
  | .wa set bg => if bg = true then ∃ f, e = .wt set f else e = .out
/-- Events, and what the engine's threads do. -/
structure RgE (n : Nat) (l : List EvR) (st : Nat) (T : Nat → TS) (M : Nat → Nat → Prop) : Prop where
  good : EvGood l
  last : ∀ y, l.getLast? = some y → y.step < st
  rel : ∀ k : Nat, k < n → TRel (evT l k) (T k)
  far : ∀ t : Int, (∀ k : Nat, k < n → t ≠ k) → evT l t = .out
  old : ∀ t : Int, (∀ v q, evT l t = .inn v q → q < st) ∧ (∀ v q, evT l t = .wt v q → q < st)
  must : ∀ (i : Nat) (set f : Int), i < n → evT l i = .wt set f → ∀ (j : Nat) (v q : Int), j < n → evT l j = .inn v q → q < f → hasv set v = true → M i j
section
variable {n k : Nat} {l : List EvR} {st : Nat} {T T' : Nat → TS} {M M' : Nat → Nat → Prop}
theorem RgE.tick (h : RgE n l st T M) : RgE n l (st + 1) T M :=
  ⟨h.good, fun y hy => by have := h.last y hy; omega, h.rel, h.far, fun t => ⟨fun v q e => by have := (h.old t).1 v q e; omega, fun v q e => by have := (h.old t).2 v q e; omega⟩, h.must⟩
theorem RgE.beg (h : RgE n l st T M) (hne : ∀ j, j ≠ k → T' j = T j) (hk : T' k = T k ∨ (T k = .idle ∧ ((∃ v, T' k = .en v) ∨ ∃ set, T' k = .wa set false))) : RgE n l st T' M := by
  refine ⟨h.good, h.last, fun j hj => ?_, h.far, h.old, h.must⟩
  by_cases e : j = k
  · subst e
    have := h.rel j hj
    rcases hk with e | ⟨e1, ⟨v, e2⟩ | ⟨set, e2⟩⟩
    · rw [e]; exact this
    · rw [e1] at this; rw [e2]; exact this
    · rw [e1] at this; rw [e2]; exact this
  · rw [hne j e]; exact h.rel j hj
/-- An event more, of thread k, at the step at hand. -/
theorem RgE.snoc (h : RgE n l st T M) (hn : n ≤ 6) (hk : k < n) (hst : st < 1000000) {kd v : Int} {t' : TS} (v0 : 0 ≤ v) (v1 : v < 18446744073709551616) (ho : EvR.ok ⟨st, k, kd, v⟩ (evT l k)) (hg : EvR.grace ⟨st, k, kd, v⟩ l) (ht : TRel (EvR.to ⟨st, k, kd, v⟩) t')
    (hM : ∀ i j, i < n → j < n → i ≠ k → j ≠ k → M i j → M' i j) (hMk : ∀ set, kd = 3 → v = set → ∀ (j : Nat) (u q : Int), j < n → evT l j = .inn u q → hasv set u = true → M' k j) (hT : ∀ j, j ≠ k → T' j = T j) (hTk : T' k = t') : RgE n (l ++ [⟨st, k, kd, v⟩]) (st + 1) T' M' := by
  have hkk : ∀ j : Nat, ((k : Int) = (j : Int)) ↔ k = j := fun j => by omega
  refine ⟨.snoc h.good ⟨by show (0 : Int) ≤ (st : Int); omega, by show (st : Int) < 1000000; omega, by show (0 : Int) ≤ (k : Int); omega, by show (k : Int) < 64; omega, v0, v1⟩ (fun y hy => .inl (h.last y hy)) ho hg, fun y hy => ?_, fun j hj => ?_, fun t ht' => ?_, fun t => ?_, fun i set f hi hw j u q hj hin hlt hh => ?_⟩
  · rw [List.getLast?_concat] at hy
    cases hy
    show (st : Int) < ((st + 1 : Nat) : Int); omega
  · rw [evT_snoc]
    by_cases e : k = j
    · subst e; rw [if_pos rfl, hTk]; exact ht
    · rw [if_neg (fun e' => e ((hkk j).1 e')), hT j (fun e' => e e'.symm)]; exact h.rel j hj
  · rw [evT_snoc, if_neg (fun e => ht' k hk e.symm)]
    exact h.far t ht'
  · rw [evT_snoc]
    split
    · unfold EvR.to
      refine ⟨fun u q e => ?_, fun u q e => ?_⟩
      · split at e
        · cases e; show (st : Int) < ((st + 1 : Nat) : Int); omega
        · split at e <;> cases e
      · split at e
        · cases e
        · split at e
          · cases e; show (st : Int) < ((st + 1 : Nat) : Int); omega
          · cases e
    · exact ⟨fun v q e => by have := (h.old t).1 v q e; omega, fun v q e => by have := (h.old t).2 v q e; omega⟩
  · rw [evT_snoc] at hw hin
    by_cases ei : k = i
    · subst ei
      rw [if_pos rfl] at hw
      by_cases ej : k = j
      · subst ej
        rw [if_pos rfl] at hin
        rw [hw] at hin; cases hin
      · rw [if_neg (fun e' => ej ((hkk j).1 e'))] at hin
        unfold EvR.to at hw
        split at hw
        · cases hw
        · split at hw
          · rename_i h3
            cases hw
            exact hMk _ h3 rfl j u q hj hin hh
          · cases hw
    · rw [if_neg (fun e' => ei ((hkk i).1 e'))] at hw
      by_cases ej : k = j
      · subst ej
        rw [if_pos rfl] at hin
        unfold EvR.to at hin
        split at hin
        · cases hin
          have := (h.old i).2 set f hw
          simp only at hlt
          omega
        · split at hin <;> cases hin
      · rw [if_neg (fun e' => ej ((hkk j).1 e'))] at hin
        exact hM i j hi hj (fun e => ei e.symm) (fun e => ej e.symm) (h.must i set f hi hw j u q hj hin hlt hh)
theorem RgE.enter (h : RgE n l st T M) (hn : n ≤ 6) (hk : k < n) (hst : st < 1000000) {v : Int} (hT : T k = .en v) (v0 : 0 ≤ v) (v1 : v < 64) : RgE n (l ++ [⟨st, k, 1, v⟩]) (st + 1) (upd T k (.inn v)) M := by
  have hr := h.rel k hk
  rw [hT] at hr
  refine h.snoc hn hk hst v0 (by omega) (.inl ⟨rfl, hr, v1⟩) (fun e => by cases e) (t' := .inn v) ⟨st, rfl⟩ (fun i j _ _ _ _ h => h) (fun set e => by cases e) (fun j e => upd_ne _ _ e) (upd_self _ _ _)
theorem RgE.exit (h : RgE n l st T M) (hn : n ≤ 6) (hk : k < n) (hst : st < 1000000) {v : Int} (hT : T k = .inn v) (v0 : 0 ≤ v) (v1 : v < 64) : RgE n (l ++ [⟨st, k, 2, v⟩]) (st + 1) (upd T k .idle) (fun i j => M i j ∧ j ≠ k) := by
  have hr := h.rel k hk
  rw [hT] at hr
  obtain ⟨q, hq⟩ := hr
  refine h.snoc hn hk hst v0 (by omega) (.inr (.inl ⟨rfl, q, hq⟩)) (fun e => by cases e) (t' := .idle) rfl (fun i j _ _ _ hj h => ⟨h, hj⟩) (fun set e => by cases e) (fun j e => upd_ne _ _ e) (upd_self _ _ _)
/-- What a wait's step notes. -/
def wtEv (l : List EvR) (st : Nat) (k : Nat) (set : Int) (bg d : Bool) : List EvR :=
  (if bg = true then l else l ++ [⟨st, k, 3, set⟩]) ++ (if d = true then [⟨st, k, 4, set⟩] else [])
theorem RgE.wait (h : RgE n l st T M) (hn : n ≤ 6) (hk : k < n) (hst : st < 1000000) {set : Int} {bg d : Bool} (hT : T k = .wa set bg) (s0 : 0 < set) (s1 : set < 18446744073709551616) {Mk : Nat → Prop} (hMk : Mk = if bg = true then M k else fun j => ∃ v, T j = .inn v ∧ hasv set v = true) (hd : d = true → ∀ j, j < n → ¬ Mk j) :
    RgE n (wtEv l st k set bg d) (st + 1) (upd T k (if d = true then .idle else .wa set true)) (upd M k Mk) := by
  have hr := h.rel k hk
  rw [hT] at hr
  have graceAt : ∀ {l' : List EvR} {f : Int}, (∀ t : Int, t ≠ k → evT l' t = evT l t) → (∀ j : Nat, j < n → ∀ v q, evT l j = .inn v q → evT l' k = .wt set f → q < f → hasv set v = true → Mk j) → (evT l' k = .wt set f) → d = true → EvR.grace ⟨st, k, 4, set⟩ l' := by
    intro l' f hsame hm hw hdd _ t v q f' hin hw' hlt
    simp only at hw'
    have e := hw'
    rw [hw] at e
    cases e
    cases hh : hasv set v with
    | false => rfl
    | true =>
      exfalso
      have htk : t ≠ k := fun e => by rw [e, hw] at hin; cases hin
      rw [hsame t htk] at hin
      by_cases ht : ∃ j : Nat, j < n ∧ t = j
      · obtain ⟨j, hj, rfl⟩ := ht
        exact hd hdd j hj (hm j hj v q hin hw hlt hh)
      · rw [h.far t (fun j hj e => ht ⟨j, hj, e⟩)] at hin
        cases hin
  cases bg with
  | true =>
    simp only [if_true] at hr hMk
    subst hMk
    obtain ⟨f, hf⟩ := hr
    have eM : upd M k (M k) = M := by
      funext i
      by_cases e : i = k
      · subst e; exact upd_self _ _ _
      · exact upd_ne _ _ e
    rw [eM]
    cases d with
    | false =>
      have e1 : wtEv l st k set true false = l := by simp [wtEv]
      have e2 : upd T k (TS.wa set true) = T := by
        funext i
        by_cases e : i = k
        · subst e; rw [upd_self, hT]
        · exact upd_ne _ _ e
      simp only [Bool.false_eq_true, if_false]
      rw [e1, e2]
      exact h.tick
    | true =>
      have e1 : wtEv l st k set true true = l ++ [⟨st, k, 4, set⟩] := by simp [wtEv]
      rw [e1]
      refine h.snoc hn hk hst (by omega) s1 (.inr (.inr (.inr ⟨rfl, f, hf⟩))) (graceAt (fun _ _ => rfl) (fun j hj v q hin hw hlt hh => h.must k set f hk hw j v q hj hin hlt hh) hf rfl) (t' := .idle) rfl (fun i j _ _ _ _ h => h) (fun set e => by cases e) (fun j e => upd_ne _ _ e) (by rw [upd_self]; rfl)
  | false =>
    simp only [Bool.false_eq_true, if_false] at hr hMk
    have hMj : ∀ (j : Nat) (u q : Int), j < n → evT l j = .inn u q → hasv set u = true → Mk j := by
      intro j u q hj hin hh
      rw [hMk]
      have := h.rel j hj
      cases hTj : T j with
      | idle => rw [hTj] at this; have this : evT l j = .out := this; rw [this] at hin; cases hin
      | en v => rw [hTj] at this; have this : evT l j = .out := this; rw [this] at hin; cases hin
      | inn v =>
        rw [hTj] at this
        obtain ⟨q', hq⟩ := this
        rw [hq] at hin
        cases hin
        exact ⟨u, hTj, hh⟩
      | wa s b =>
        rw [hTj] at this
        cases b with
        | true => obtain ⟨f, hf⟩ := (show ∃ f, evT l j = .wt s f from this); rw [hf] at hin; cases hin
        | false => have this : evT l j = .out := this; rw [this] at hin; cases hin
    have ok3 : EvR.ok ⟨st, k, 3, set⟩ (evT l k) := .inr (.inr (.inl ⟨rfl, hr, by show set ≠ 0; omega⟩))
    have h3 := h.snoc (k := k) (kd := 3) (v := set) (t' := .wa set true) (T' := upd T k (.wa set true)) (M' := upd M k Mk) hn hk hst (by omega) s1 ok3 (fun e => by cases e) ⟨st, rfl⟩ (fun i j _ _ hi _ hm => by rw [upd_ne _ _ hi]; exact hm) (fun s _ e j u q hj hin hh => by rw [upd_self]; subst e; exact hMj j u q hj hin hh) (fun j e => upd_ne _ _ e) (upd_self _ _ _)
    cases d with
    | false =>
      have e1 : wtEv l st k set false false = l ++ [⟨st, k, 3, set⟩] := by simp [wtEv]
      rw [e1]
      simpa using h3
    | true =>
      have e1 : wtEv l st k set false true = l ++ [⟨st, k, 3, set⟩] ++ [⟨st, k, 4, set⟩] := by simp [wtEv]
      rw [e1]
      simp only [if_true]
      have hw : evT (l ++ [⟨st, k, 3, set⟩]) k = .wt set st := by rw [evT_snoc, if_pos rfl]; rfl
      have hsame : ∀ t : Int, t ≠ k → evT (l ++ [⟨st, k, 3, set⟩]) t = evT l t := fun t ht => by rw [evT_snoc, if_neg (fun e => ht e.symm)]
      have hg4 : EvGood (l ++ [⟨st, k, 3, set⟩] ++ [⟨st, k, 4, set⟩]) := by
        refine .snoc h3.good ⟨by show (0 : Int) ≤ (st : Int); omega, by show (st : Int) < 1000000; omega, by show (0 : Int) ≤ (k : Int); omega, by show (k : Int) < 64; omega, by show 0 ≤ set; omega, s1⟩ (fun y hy => ?_) (.inr (.inr (.inr ⟨rfl, st, hw⟩))) (graceAt hsame (fun j hj v q hin _ _ hh => hMj j v q hj hin hh) hw rfl)
        rw [List.getLast?_concat] at hy
        cases hy
        exact .inr ⟨rfl, rfl, rfl, rfl⟩
      have evk : ∀ t : Int, evT (l ++ [⟨st, k, 3, set⟩] ++ [⟨st, k, 4, set⟩]) t = if t = k then .out else evT l t := fun t => by
        rw [evT_snoc]
        by_cases e : t = k
        · subst e; rw [if_pos rfl, if_pos rfl]; rfl
        · rw [if_neg (fun e' => e e'.symm), if_neg e, hsame t e]
      have hjk : ∀ j : Nat, ((j : Int) = (k : Int)) ↔ j = k := fun j => by omega
      refine ⟨hg4, fun y hy => ?_, fun j hj => ?_, fun t ht => ?_, fun t => ?_, fun i s f hi hw' j u q hj hin hlt hh => ?_⟩
      · rw [List.getLast?_concat] at hy
        cases hy
        show (st : Int) < ((st + 1 : Nat) : Int); omega
      · rw [evk]
        by_cases e : j = k
        · subst e; rw [if_pos rfl, upd_self]; rfl
        · rw [if_neg (fun e' => e ((hjk j).1 e')), upd_ne _ _ e]; exact h.rel j hj
      · rw [evk, if_neg (fun e => ht k hk e)]; exact h.far t ht
      · refine ⟨fun v q e => ?_, fun v q e => ?_⟩
        · rw [evk] at e
          split at e
          · cases e
          · have := (h.old t).1 v q e; omega
        · rw [evk] at e
          split at e
          · cases e
          · have := (h.old t).2 v q e; omega
      · rw [evk] at hw' hin
        split at hw'
        · cases hw'
        · rename_i ei
          split at hin
          · cases hin
          · rw [upd_ne _ _ (fun e => ei ((hjk i).2 e))]
            exact h.must i s f hi hw' j u q hj hin hlt hh
end
end Go.Lf
