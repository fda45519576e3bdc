/- GateSteps: the state of a run of both engines, as data. -/
import Derived.Test.YtldjlcdccnnogaaGreatBase
import Derived.Test.YtldjlcdccnnogaaGreatBktPlain
set_option linter.unusedVariables false
set_option linter.unusedSimpArgs false
namespace Go.Lf
/-- An operation: entering (thread, slot, bucket, side once chosen, whether it is over), or a wait (state, side, buckets left, failures of its lock). -/
inductive GOp where
  | en (t : Int) (s b : Nat) (c : Option Nat) (dn : Bool)
  | wa (t : Int) (st side : Nat) (left : List Nat) (f : Nat)
/-- A slot: 0 idle, 1 begun, 2 its side chosen, 3 entered; bucket, side, and which operation's it is. -/
structure GSl where
  ph : Nat
  b : Nat
  sd : Nat
  ow : Nat
structure GSt where
  sl : List GSl
  ws : List Int
  log : List Acc
  ops : List GOp
def GOp.kind : GOp → Bool
  | .en .. => false
  | .wa .. => true
/-- Whether a wait has the latch of bucket b. -/
def GOp.holds : GOp → Nat → Bool
  | .wa _ st _ (b' :: _) _, b => decide (1 ≤ st ∧ st ≤ 5) && (b' == b)
  | _, _ => false
def gph (c : Option Nat) (dn : Bool) : Nat := if dn then 3 else match c with | none => 1 | some _ => 2
/-- An operation fits the slots. -/
def GOp.ok (n i K : Nat) (sl : List GSl) : GOp → Prop
  | .en t s b c dn => 0 ≤ t ∧ t < 64 ∧ s < 64 ∧ b < n ∧ (∀ x, c = some x → x < 2) ∧ (c = none → dn = false) ∧ (dn = false → ∃ x, sl[s]? = some x ∧ x.ow = i ∧ x.ph = gph c dn ∧ x.b = b ∧ ∀ y, c = some y → x.sd = y)
  | .wa t st side left f => 0 ≤ t ∧ t < 64 ∧ st ≤ 6 ∧ side < 2 ∧ (∀ b ∈ left, b < n) ∧ (left = [] ↔ st = 6) ∧ f ≤ K
/-- A slot fits its operation. -/
def GSl.ok (n s : Nat) (ops : List GOp) (x : GSl) : Prop := x.ph ≤ 3 ∧ x.b < 16 ∧ x.sd < 2 ∧ (x.ph ≠ 0 → x.b < n ∧ ∃ t c dn, ops[x.ow]? = some (.en t s x.b c dn) ∧ gph c dn = x.ph ∧ (1 < x.ph → c = some x.sd))
/-- A wait that has a latch is the only one, and the word says its thread. -/
def LatOk (B : Nat) (ws : List Int) (ops : List GOp) : Prop := ∀ (i : Nat) (o : GOp) (b : Nat), ops[i]? = some o → o.holds b = true → ∃ t st side left f, o = .wa t st side left f ∧ ws[B + 4 * b + 3]? = some (t + 1) ∧ ∀ (j : Nat) (p : GOp), ops[j]? = some p → p.holds b = true → j = i
structure GSt.ok (S : GSt) (B n K : Nat) : Prop where
  ls : S.sl.length = 64
  lw : B + 4 * n ≤ S.ws.length
  wok : ∀ x ∈ S.ws, 0 ≤ x ∧ x < 18446744073709551616
  gate : ∀ b, b < n → ∃ g : Nat, g < 2 ∧ S.ws[B + 4 * b]? = some (g : Int)
  lat : LatOk B S.ws S.ops
  llog : S.log.length ≤ K
  ops : ∀ (i : Nat) (o : GOp), S.ops[i]? = some o → o.ok n i K S.sl
  sls : ∀ (s : Nat) (x : GSl), S.sl[s]? = some x → x.ok n s S.ops
/-- A step of a wait: words, its state (state, side, left, failures), what it leaves, and the access. -/
inductive GWStep (B : Nat) (t : Int) (ws : List Int) : Nat → Nat → List Nat → Nat → List Int → Acc → Nat → Nat → List Nat → Nat → Prop where
  | lock {side b f : Nat} {rest : List Nat} (h : ws[B + 4 * b + 3]? = some 0) : GWStep B t ws 0 side (b :: rest) f (ws.set (B + 4 * b + 3) (t + 1)) ⟨t, (B : Int) + 4 * b + 3, 4, 0, t + 1, true⟩ 1 side (b :: rest) f
  | busy {side b f : Nat} {rest : List Nat} {x : Int} (h : ws[B + 4 * b + 3]? = some x) (hx : x ≠ 0) : GWStep B t ws 0 side (b :: rest) f ws ⟨t, (B : Int) + 4 * b + 3, 4, x, x, false⟩ 0 side (b :: rest) (f + 1)
  | look {side b f : Nat} {rest : List Nat} {x : Nat} (h : ws[B + 4 * b]? = some (x : Int)) : GWStep B t ws 1 side (b :: rest) f ws ⟨t, (B : Int) + 4 * b, 1, x, x, false⟩ 2 x (b :: rest) f
  | other {side b f : Nat} {rest : List Nat} {x : Int} (h : ws[B + 4 * b + 1 + (side + 1) % 2]? = some x) : GWStep B t ws 2 side (b :: rest) f ws ⟨t, (B : Int) + 4 * b + 1 + ((side + 1) % 2 : Nat), 1, x, x, false⟩ (if x = 0 then 3 else 2) side (b :: rest) f
  | flip {side b f : Nat} {rest : List Nat} {x : Int} (h : ws[B + 4 * b]? = some x) : GWStep B t ws 3 side (b :: rest) f (ws.set (B + 4 * b) ((1 - side % 2 : Nat) : Int)) ⟨t, (B : Int) + 4 * b, 2, x, ((1 - side % 2 : Nat) : Int), false⟩ 4 side (b :: rest) f
  | drain {side b f : Nat} {rest : List Nat} {x : Int} (h : ws[B + 4 * b + 1 + side % 2]? = some x) : GWStep B t ws 4 side (b :: rest) f ws ⟨t, (B : Int) + 4 * b + 1 + (side % 2 : Nat), 1, x, x, false⟩ (if x = 0 then 5 else 4) side (b :: rest) f
  | unlock {side b f : Nat} {rest : List Nat} (h : ws[B + 4 * b + 3]? = some (t + 1)) : GWStep B t ws 5 side (b :: rest) f (ws.set (B + 4 * b + 3) 0) ⟨t, (B : Int) + 4 * b + 3, 2, t + 1, 0, false⟩ (if rest = [] then 6 else 0) side rest (if rest = [] then f else 0)
/-- What a wait does next. -/
def gwpc : Nat → Int
  | 0 => 2
  | 1 => 15
  | 2 => 19
  | 3 => 20
  | 4 => 19
  | 5 => 3
  | _ => 0
/-- Operation i makes a step. -/
inductive GStep (B : Nat) (S : GSt) (i : Nat) : GSt → Int → Bool → Prop where
  | choose {t : Int} {s b x : Nat} {y : GSl} (h : S.ops[i]? = some (.en t s b none false)) (hy : S.sl[s]? = some y) (hx : S.ws[B + 4 * b]? = some (x : Int)) : GStep B S i ⟨S.sl.set s ⟨2, b, x, i⟩, S.ws, S.log ++ [⟨t, (B : Int) + 4 * b, 1, x, x, false⟩], S.ops.set i (.en t s b (some x) false)⟩ 15 false
  | count {t : Int} {s b c : Nat} {x : Int} {y : GSl} (h : S.ops[i]? = some (.en t s b (some c) false)) (hy : S.sl[s]? = some y) (hx : S.ws[B + 4 * b + 1 + c]? = some x) : GStep B S i ⟨S.sl.set s ⟨3, b, c, i⟩, S.ws.set (B + 4 * b + 1 + c) (IntKind.u64.wrap (x + 1)), S.log ++ [⟨t, (B : Int) + 4 * b + 1 + c, 3, x, IntKind.u64.wrap (x + 1), false⟩], S.ops.set i (.en t s b (some c) true)⟩ 16 true
  | idle {t : Int} {s b : Nat} {c : Option Nat} (h : S.ops[i]? = some (.en t s b c true)) : GStep B S i S 0 false
  | wait {t : Int} {st side f st' side' f' : Nat} {left left' : List Nat} {ws' : List Int} {a : Acc} (h : S.ops[i]? = some (.wa t st side left f)) (hs : GWStep B t S.ws st side left f ws' a st' side' left' f') : GStep B S i ⟨S.sl, ws', S.log ++ [a], S.ops.set i (.wa t st' side' left' f')⟩ (gwpc st) (st' == 6)
  | over {t : Int} {side f : Nat} {left : List Nat} (h : S.ops[i]? = some (.wa t 6 side left f)) : GStep B S i S 0 false
def GSt.begun (S : GSt) (t : Int) (s b : Nat) (x : GSl) : GSt := ⟨S.sl.set s ⟨1, b, x.sd, S.ops.length⟩, S.ws, S.log, S.ops ++ [.en t s b none false]⟩
def GSt.left (S : GSt) (B : Nat) (t : Int) (s : Nat) (x : GSl) (y : Int) : GSt := ⟨S.sl.set s ⟨0, x.b, x.sd, x.ow⟩, S.ws.set (B + 4 * x.b + 1 + x.sd) (IntKind.u64.wrap (y + 18446744073709551615)), S.log ++ [⟨t, (B : Int) + 4 * x.b + 1 + x.sd, 3, y, IntKind.u64.wrap (y + 18446744073709551615), false⟩], S.ops⟩
def GSt.waits (S : GSt) (t : Int) (l : List Nat) : GSt := ⟨S.sl, S.ws, S.log, S.ops ++ [.wa t 0 0 l 0]⟩
theorem GOp.ok.mono {n i K K' : Nat} {sl : List GSl} {o : GOp} (h : o.ok n i K sl) (hK : K ≤ K') : o.ok n i K' sl := by
  cases o with
  | en => exact h
  | wa t st side left f => obtain ⟨a, b, c, d, e, g, j⟩ := h; exact ⟨a, b, c, d, e, g, by omega⟩
theorem GSt.ok.mono {S : GSt} {B n K K' : Nat} (h : S.ok B n K) (hK : K ≤ K') : S.ok B n K' :=
  ⟨h.ls, h.lw, h.wok, h.gate, h.lat, by have := h.llog; omega, fun i o ho => (h.ops i o ho).mono hK, h.sls⟩
theorem u64_range (x : Int) : 0 ≤ IntKind.u64.wrap x ∧ IntKind.u64.wrap x < 18446744073709551616 := by rw [IntKind.wrap_u64]; omega
theorem wok_set {ws : List Int} (h : ∀ x ∈ ws, 0 ≤ x ∧ x < 18446744073709551616) {i : Nat} {v : Int} (hv : 0 ≤ v ∧ v < 18446744073709551616) : ∀ x ∈ ws.set i v, 0 ≤ x ∧ x < 18446744073709551616 := fun x hx => by
  rcases List.mem_or_eq_of_mem_set hx with e | e
  · exact h x e
  · rw [e]; exact hv
section
variable {S : GSt} {B n K : Nat}
/-- The latches, where an operation has turned without touching one. -/
theorem lat_same {ws ws' : List Int} {ops : List GOp} {i : Nat} {o o' : GOp} (h : LatOk B ws ops)
    (ho : ops[i]? = some o) (hh : ∀ b, o'.holds b = o.holds b) (ht : ∀ t st side left f, o = .wa t st side left f → ∃ st' side' left' f', o' = .wa t st' side' left' f') (hw : ∀ b : Nat, ws'[B + 4 * b + 3]? = ws[B + 4 * b + 3]?) :
    LatOk B ws' (ops.set i o') := by
  have back : ∀ (k : Nat) (q : GOp) (b : Nat), (ops.set i o')[k]? = some q → q.holds b = true → ∃ q', ops[k]? = some q' ∧ q'.holds b = true := by
    intro k q b hq hb
    rcases set_cases hq with ⟨e1, e2⟩ | ⟨e1, e2⟩
    · subst e1; subst e2; exact ⟨o, ho, by rw [← hh]; exact hb⟩
    · exact ⟨q, e2, hb⟩
  intro j p b hp hb
  obtain ⟨p', hp', hb'⟩ := back j p b hp hb
  obtain ⟨t, st, side, left, f, h1, h2, h3⟩ := h j p' b hp' hb'
  have uni : ∀ (k : Nat) (q : GOp), (ops.set i o')[k]? = some q → q.holds b = true → k = j := fun k q hq hqb => by
    obtain ⟨q', hq', hqb'⟩ := back k q b hq hqb
    exact h3 k q' hq' hqb'
  rcases set_cases hp with ⟨e1, e2⟩ | ⟨e1, e2⟩
  · subst e1; subst e2
    rw [ho] at hp'; obtain rfl := Option.some.inj hp'
    obtain ⟨st', side', left', f', h4⟩ := ht t st side left f h1
    exact ⟨t, st', side', left', f', h4, by rw [hw]; exact h2, uni⟩
  · rw [e2] at hp'; obtain rfl := Option.some.inj hp'
    exact ⟨t, st, side, left, f, h1, by rw [hw]; exact h2, uni⟩
theorem gate_set {ws : List Int} (h : ∀ b, b < n → ∃ g : Nat, g < 2 ∧ ws[B + 4 * b]? = some (g : Int)) {a : Nat} {v : Int} (hv : (∀ b : Nat, a ≠ B + 4 * b) ∨ ∃ g : Nat, g < 2 ∧ v = (g : Int)) : ∀ b, b < n → ∃ g : Nat, g < 2 ∧ (ws.set a v)[B + 4 * b]? = some (g : Int) := by
  intro b hb
  obtain ⟨g, hg, hx⟩ := h b hb
  by_cases e : a = B + 4 * b
  · rcases hv with hv | ⟨g', h1, h2⟩
    · exact absurd e (hv b)
    · exact ⟨g', h1, by rw [e, put_self hx, h2]⟩
  · exact ⟨g, hg, by rw [List.getElem?_set, if_neg e]; exact hx⟩
/-- Slots and operations, where slot s and operation i have turned together. -/
theorem ops_turn {sl : List GSl} {ops : List GOp} (hops : ∀ (i : Nat) (o : GOp), ops[i]? = some o → o.ok n i K sl) {i s : Nat} {o' : GOp} {y x : GSl} (hy : sl[s]? = some y) (hyo : y.ph = 0 ∨ y.ow = i ∨ y.ph = 3) (ho' : o'.ok n i (K + 1) (sl.set s x)) :
    ∀ (j : Nat) (p : GOp), (ops.set i o')[j]? = some p → p.ok n j (K + 1) (sl.set s x) := by
  intro j p hp
  rcases set_cases hp with ⟨e1, e2⟩ | ⟨e1, e2⟩
  · subst e1; subst e2; exact ho'
  · have h := (hops j p e2).mono (show K ≤ K + 1 by omega)
    cases p with
    | wa => exact h
    | en t' s' b' c' dn' =>
      obtain ⟨a1, a2, a3, a4, a5, a6, a7⟩ := h
      refine ⟨a1, a2, a3, a4, a5, a6, fun hd => ?_⟩
      obtain ⟨z, hz, z1, z2, z3, z4⟩ := a7 hd
      refine ⟨z, ?_, z1, z2, z3, z4⟩
      rw [List.getElem?_set, if_neg (fun e => ?_)]
      · exact hz
      · subst e
        rw [hy] at hz
        obtain rfl := Option.some.inj hz
        rw [hd] at z2
        rcases hyo with e | e | e
        · rw [e] at z2; cases c' <;> simp [gph] at z2
        · exact e1 (z1.symm.trans e)
        · rw [e] at z2; cases c' <;> simp [gph] at z2
theorem sls_turn {sl : List GSl} {ops : List GOp} (hsl : ∀ (s : Nat) (x : GSl), sl[s]? = some x → x.ok n s ops) {i s : Nat} {o o' : GOp} {x : GSl} (ho : ops[i]? = some o) (hos : ∀ t s' b c dn, o = .en t s' b c dn → s' = s) (hx : x.ok n s (ops.set i o')) : ∀ (s' : Nat) (z : GSl), (sl.set s x)[s']? = some z → z.ok n s' (ops.set i o') := by
  intro s' z hz
  rcases set_cases hz with ⟨e1, e2⟩ | ⟨e1, e2⟩
  · subst e1; subst e2; exact hx
  · obtain ⟨a1, a2, a3, a4⟩ := hsl s' z e2
    refine ⟨a1, a2, a3, fun hp => ?_⟩
    obtain ⟨b1, t, c, dn, b2, b3, b4⟩ := a4 hp
    refine ⟨b1, t, c, dn, ?_, b3, b4⟩
    rw [List.getElem?_set, if_neg (fun e => ?_)]
    · exact b2
    · subst e
      rw [ho] at b2
      exact e1 (hos _ _ _ _ _ (Option.some.inj b2))
theorem gwstep_ex (h : S.ok B n K) {i : Nat} {t : Int} {st side f : Nat} {left : List Nat} (ho : S.ops[i]? = some (.wa t st side left f)) (hst : st ≠ 6) :
    ∃ ws' a st' side' left' f', GWStep B t S.ws st side left f ws' a st' side' left' f' := by
  obtain ⟨t0, t1, h6, hs, hl, hle, hf⟩ := h.ops i _ ho
  have lw := h.lw
  have ne : left ≠ [] := fun e => hst (hle.1 e)
  obtain ⟨b, rest, rfl⟩ := List.exists_cons_of_ne_nil ne
  have hb := hl b (List.mem_cons_self ..)
  have get : ∀ a, a < S.ws.length → ∃ x, S.ws[a]? = some x := fun a ha => ⟨_, List.getElem?_eq_getElem ha⟩
  have : st = 0 ∨ st = 1 ∨ st = 2 ∨ st = 3 ∨ st = 4 ∨ st = 5 := by omega
  rcases this with rfl | rfl | rfl | rfl | rfl | rfl
  · obtain ⟨x, hx⟩ := get (B + 4 * b + 3) (by omega)
    by_cases e : x = 0
    · subst e; exact ⟨_, _, _, _, _, _, .lock hx⟩
    · exact ⟨_, _, _, _, _, _, .busy hx e⟩
  · obtain ⟨g, -, hx⟩ := h.gate b hb
    exact ⟨_, _, _, _, _, _, .look hx⟩
  · obtain ⟨x, hx⟩ := get (B + 4 * b + 1 + (side + 1) % 2) (by omega)
    exact ⟨_, _, _, _, _, _, .other hx⟩
  · obtain ⟨x, hx⟩ := get (B + 4 * b) (by omega)
    exact ⟨_, _, _, _, _, _, .flip hx⟩
  · obtain ⟨x, hx⟩ := get (B + 4 * b + 1 + side % 2) (by omega)
    exact ⟨_, _, _, _, _, _, .drain hx⟩
  · obtain ⟨t', st', side', left', f', e, hx, -⟩ := h.lat i _ b ho (by simp [GOp.holds])
    simp only [GOp.wa.injEq] at e
    obtain ⟨rfl, -⟩ := e
    exact ⟨_, _, _, _, _, _, .unlock hx⟩
theorem holds_wa {t : Int} {st side f : Nat} {b : Nat} {rest : List Nat} (c : Nat) : GOp.holds (.wa t st side (b :: rest) f) c = (decide (1 ≤ st ∧ st ≤ 5) && (b == c)) := rfl
theorem GSt.ok.wait (h : S.ok B n K) {i : Nat} {t : Int} {st side f st' side' f' : Nat} {left left' : List Nat} {ws' : List Int} {a : Acc} (ho : S.ops[i]? = some (.wa t st side left f)) (hw : GWStep B t S.ws st side left f ws' a st' side' left' f') :
    GSt.ok ⟨S.sl, ws', S.log ++ [a], S.ops.set i (.wa t st' side' left' f')⟩ B n (K + 1) := by
  obtain ⟨t0, t1, h6, hs, hl, hle, hf⟩ := h.ops i _ ho
  have ll := h.llog
  have mk : ws'.length = S.ws.length → (∀ x ∈ ws', 0 ≤ x ∧ x < 18446744073709551616) → (∀ b, b < n → ∃ g : Nat, g < 2 ∧ ws'[B + 4 * b]? = some (g : Int)) →
      LatOk B ws' (S.ops.set i (.wa t st' side' left' f')) →
      (GOp.wa t st' side' left' f').ok n i (K + 1) S.sl → GSt.ok ⟨S.sl, ws', S.log ++ [a], S.ops.set i (.wa t st' side' left' f')⟩ B n (K + 1) := fun a1 a2 a3 a4 a5 =>
    ⟨h.ls, by have := h.lw; show B + 4 * n ≤ ws'.length; omega, a2, a3, a4, by simp; omega, fun j p hp => by
      rcases set_cases hp with ⟨e1, e2⟩ | ⟨e1, e2⟩
      · subst e1; subst e2; exact a5
      · exact (h.ops j p e2).mono (by omega), fun s x hx => by
      obtain ⟨b1, b2, b3, b4⟩ := h.sls s x hx
      refine ⟨b1, b2, b3, fun hp => ?_⟩
      obtain ⟨c1, t', c, dn, c2, c3, c4⟩ := b4 hp
      refine ⟨c1, t', c, dn, ?_, c3, c4⟩
      show (S.ops.set i _)[x.ow]? = _
      rw [List.getElem?_set, if_neg (fun e => ?_)]
      · exact c2
      · rw [← e, ho] at c2; cases c2⟩
  have far : ∀ {a : Nat} {v : Int}, (∀ b : Nat, a ≠ B + 4 * b + 3) → ∀ b : Nat, (S.ws.set a v)[B + 4 * b + 3]? = S.ws[B + 4 * b + 3]? := fun hne b => by rw [List.getElem?_set, if_neg (hne b)]
  have same : (∀ c, GOp.holds (.wa t st' side' left' f') c = GOp.holds (.wa t st side left f) c) → (∀ b : Nat, ws'[B + 4 * b + 3]? = S.ws[B + 4 * b + 3]?) → _ := fun e1 e2 => lat_same h.lat ho (o' := .wa t st' side' left' f') e1 (fun _ _ _ _ _ e => by simp only [GOp.wa.injEq] at e; obtain ⟨rfl, -⟩ := e; exact ⟨_, _, _, _, rfl⟩) e2
  cases hw with
  | @lock _ b _ rest hx =>
    have hb := hl b (List.mem_cons_self ..)
    refine mk (by simp) (wok_set h.wok (by omega)) (gate_set h.gate (.inl fun c => by omega)) (fun j p c hp hh => ?_) ⟨t0, t1, by omega, hs, hl, by simp, by omega⟩
    have no : ∀ (k : Nat) (q : GOp), S.ops[k]? = some q → q.holds b = false := fun k q hq => by
      cases hqb : q.holds b with
      | false => rfl
      | true =>
        obtain ⟨t', _, _, _, _, e1, e2, -⟩ := h.lat k q b hq hqb
        rw [hx] at e2
        have := Option.some.inj e2
        have := (h.ops k q hq)
        rw [e1] at this
        have := this.1
        omega
    by_cases hc : c = b
    · subst hc
      have uni : ∀ (k : Nat) (q : GOp), (S.ops.set i (.wa t 1 side (c :: rest) f))[k]? = some q → q.holds c = true → k = i := fun k q hq hqc => by
        rcases set_cases hq with ⟨e1, e2⟩ | ⟨e1, e2⟩
        · exact e1
        · rw [no k q e2] at hqc; cases hqc
      obtain rfl := uni j p hp hh
      rcases set_cases hp with ⟨e1, e2⟩ | ⟨e1, e2⟩
      · subst e2; exact ⟨t, _, _, _, _, rfl, put_self hx _, uni⟩
      · exact absurd rfl e1
    · have back : ∀ (k : Nat) (q : GOp), (S.ops.set i (.wa t 1 side (b :: rest) f))[k]? = some q → q.holds c = true → k ≠ i ∧ S.ops[k]? = some q := fun k q hq hqc => by
        rcases set_cases hq with ⟨e1, e2⟩ | ⟨e1, e2⟩
        · subst e2
          simp only [GOp.holds, Bool.and_eq_true, beq_iff_eq] at hqc
          exact absurd hqc.2.symm hc
        · exact ⟨e1, e2⟩
      obtain ⟨ji, hp'⟩ := back j p hp hh
      obtain ⟨t', st', side', left', f', e1, e2, e3⟩ := h.lat j p c hp' hh
      exact ⟨t', st', side', left', f', e1, by rw [List.getElem?_set, if_neg (by omega)]; exact e2, fun k q hq hqc => e3 k q (back k q hq hqc).2 hqc⟩
  | @busy _ b _ rest x hx hne => exact mk rfl h.wok h.gate (same (fun c => rfl) (fun _ => rfl)) ⟨t0, t1, by omega, hs, hl, by simp, by omega⟩
  | @look _ b _ rest x hx =>
    have hb := hl b (List.mem_cons_self ..)
    obtain ⟨g, hg, hx2⟩ := h.gate b hb
    rw [hx] at hx2
    exact mk rfl h.wok h.gate (same (fun c => rfl) (fun _ => rfl)) ⟨t0, t1, by omega, by have := Option.some.inj hx2; omega, hl, by simp, by omega⟩
  | @other _ b _ rest x hx => exact mk rfl h.wok h.gate (same (fun c => by split <;> rfl) (fun _ => rfl)) ⟨t0, t1, by split <;> omega, hs, hl, by constructor <;> (intro e; first | cases e | (split at e <;> omega)), by omega⟩
  | @flip _ b _ rest x hx => exact mk (by simp) (wok_set h.wok (by omega)) (gate_set h.gate (.inr ⟨1 - side % 2, by omega, rfl⟩)) (same (fun c => rfl) (far fun c => by omega)) ⟨t0, t1, by omega, hs, hl, by simp, by omega⟩
  | @drain _ b _ rest x hx => exact mk rfl h.wok h.gate (same (fun c => by split <;> rfl) (fun _ => rfl)) ⟨t0, t1, by split <;> omega, hs, hl, by constructor <;> (intro e; first | cases e | (split at e <;> omega)), by omega⟩
  | @unlock _ b _ _ hx =>
    refine mk (by simp) (wok_set h.wok (by omega)) (gate_set h.gate (.inl fun c => by omega)) (fun j p c hp hh => ?_) ⟨t0, t1, by split <;> omega, hs, fun b hb => hl b (List.mem_cons_of_mem _ hb), by by_cases e : left' = [] <;> simp [e], by split <;> omega⟩
    have nh : ∀ c, GOp.holds (.wa t (if left' = [] then 6 else 0) side left' (if left' = [] then f else 0)) c = false := fun c => by
      cases left' with
      | nil => rfl
      | cons x l => rfl
    have back : ∀ (k : Nat) (q : GOp), (S.ops.set i (.wa t (if left' = [] then 6 else 0) side left' (if left' = [] then f else 0)))[k]? = some q → q.holds c = true → k ≠ i ∧ S.ops[k]? = some q := fun k q hq hqc => by
      rcases set_cases hq with ⟨e1, e2⟩ | ⟨e1, e2⟩
      · subst e2; rw [nh] at hqc; cases hqc
      · exact ⟨e1, e2⟩
    obtain ⟨ji, hp'⟩ := back j p hp hh
    obtain ⟨t', st', side', left', f', e1, e2, e3⟩ := h.lat j p c hp' hh
    have hcb : c ≠ b := fun e => by
      subst e
      obtain ⟨_, _, _, _, _, _, _, e4⟩ := h.lat i _ c ho (by simp [GOp.holds])
      exact ji (e4 j p hp' hh)
    exact ⟨t', st', side', left', f', e1, by rw [List.getElem?_set, if_neg (by omega)]; exact e2, fun k q hq hqc => e3 k q (back k q hq hqc).2 hqc⟩
theorem gstep_ok (h : S.ok B n K) {i : Nat} {S' : GSt} {pc : Int} {d : Bool} (hst : GStep B S i S' pc d) : S'.ok B n (K + 1) := by
  have lw := h.lw
  have ll := h.llog
  cases hst with
  | over ho => exact h.mono (by omega)
  | wait ho hw => exact h.wait ho hw
  | idle ho => exact h.mono (by omega)
  | @choose t s b x y ho hy hx =>
    obtain ⟨t0, t1, s1, b1, hc, hd, hl⟩ := h.ops i _ ho
    obtain ⟨y', hy', y1, y2, y3, y4⟩ := hl rfl
    rw [hy] at hy'; obtain rfl := Option.some.inj hy'
    obtain ⟨z1, z2, z3, z4⟩ := h.sls s y hy
    obtain ⟨g, hg, hx'⟩ := h.gate b b1
    have hx2 : x < 2 := by rw [hx] at hx'; have := Option.some.inj hx'; omega
    exact ⟨by simp [h.ls], lw, h.wok, h.gate, lat_same h.lat ho (fun _ => rfl) (fun _ _ _ _ _ e => by cases e) (fun _ => rfl), by simp; omega, ops_turn h.ops hy (.inr (.inl y1)) ⟨t0, t1, s1, b1, fun x e => by cases e; exact hx2, fun e => (by cases e), fun _ => ⟨_, put_self hy _, rfl, rfl, rfl, fun y e => by cases e; rfl⟩⟩, sls_turn h.sls ho (fun _ _ _ _ _ e => by simp only [GOp.en.injEq] at e; exact e.2.1.symm) ⟨by simp, by simp only; omega, hx2, fun _ => ⟨b1, t, _, _, put_self ho _, rfl, fun _ => rfl⟩⟩⟩
  | @count t s b c x y ho hy hx =>
    obtain ⟨t0, t1, s1, b1, hc, hd, hl⟩ := h.ops i _ ho
    obtain ⟨y', hy', y1, y2, y3, y4⟩ := hl rfl
    rw [hy] at hy'; obtain rfl := Option.some.inj hy'
    obtain ⟨z1, z2, z3, z4⟩ := h.sls s y hy
    have hc2 := hc c rfl
    exact ⟨by simp [h.ls], by simp [lw], wok_set h.wok (u64_range _), gate_set h.gate (.inl fun j => by omega), lat_same h.lat ho (fun _ => rfl) (fun _ _ _ _ _ e => by cases e) (fun j => by rw [List.getElem?_set, if_neg (by omega)]), by simp; omega, ops_turn h.ops hy (.inr (.inl y1)) ⟨t0, t1, s1, b1, fun x e => by cases e; exact hc2, fun e => (by cases e), fun e => (by cases e)⟩, sls_turn h.sls ho (fun _ _ _ _ _ e => by simp only [GOp.en.injEq] at e; exact e.2.1.symm) ⟨by simp, by simp only; omega, hc2, fun _ => ⟨b1, t, _, _, put_self ho _, rfl, fun _ => rfl⟩⟩⟩
/-- An operation makes a step. -/
theorem gstep_ex (h : S.ok B n K) {i : Nat} {o : GOp} (ho : S.ops[i]? = some o) : ∃ S' pc d, GStep B S i S' pc d := by
  have hok := h.ops i o ho
  have lw := h.lw
  cases o with
  | wa t st side left f =>
    by_cases e : st = 6
    · subst e; exact ⟨_, _, _, .over ho⟩
    · obtain ⟨ws', a, st', side', left', f', hw⟩ := gwstep_ex h ho e
      exact ⟨_, _, _, .wait ho hw⟩
  | en t s b c dn =>
    obtain ⟨t0, t1, s1, b1, hc, hd, hl⟩ := hok
    cases dn with
    | true => exact ⟨_, _, _, .idle ho⟩
    | false =>
      obtain ⟨y, hy, y1, y2, y3, y4⟩ := hl rfl
      cases c with
      | none =>
        obtain ⟨g, hg, hx⟩ := h.gate b b1
        exact ⟨_, _, _, .choose ho hy hx⟩
      | some c =>
        have hc2 := hc c rfl
        obtain ⟨x, hx⟩ : ∃ x, S.ws[B + 4 * b + 1 + c]? = some x := ⟨_, List.getElem?_eq_getElem (by omega)⟩
        exact ⟨_, _, _, .count ho hy hx⟩
/-- An operation is new: the latches are as they were. -/
theorem lat_new {ws : List Int} {ops : List GOp} {o : GOp} (h : LatOk B ws ops) (hn : ∀ b, o.holds b = false) :
    LatOk B ws (ops ++ [o]) := by
  have back : ∀ (k : Nat) (q : GOp) (b : Nat), (ops ++ [o])[k]? = some q → q.holds b = true → ops[k]? = some q := fun k q b hq hqb => by
    rcases get_snoc hq with ⟨e1, e2⟩ | ⟨e1, e2⟩
    · subst e2; rw [hn] at hqb; cases hqb
    · exact e2
  intro i p b hp hb
  obtain ⟨t, st, side, left, f, e1, e2, e3⟩ := h i p b (back i p b hp hb) hb
  exact ⟨t, st, side, left, f, e1, e2, fun j q hq hqb => e3 j q (back j q b hq hqb) hqb⟩
theorem GSt.ok.begun (h : S.ok B n K) (hn : n ≤ 16) {t : Int} {s b : Nat} {x : GSl} (t0 : 0 ≤ t) (t1 : t < 64) (hb : b < n) (hx : S.sl[s]? = some x) (hp : x.ph = 0) : (S.begun t s b x).ok B n (K + 1) := by
  obtain ⟨z1, z2, z3, z4⟩ := h.sls s x hx
  have hs : s < 64 := by have := (List.getElem?_eq_some_iff.1 hx).1; have := h.ls; omega
  refine ⟨by simp [GSt.begun, h.ls], h.lw, h.wok, h.gate, lat_new h.lat (fun _ => rfl), by have := h.llog; show S.log.length ≤ K + 1; omega, fun i o ho => ?_, fun s' y hy => ?_⟩
  · rcases get_snoc ho with ⟨e1, e2⟩ | ⟨e1, e2⟩
    · subst e1; subst e2
      exact ⟨t0, t1, hs, hb, fun x e => (by cases e), fun _ => rfl, fun _ => ⟨_, put_self hx _, rfl, rfl, rfl, fun y e => by cases e⟩⟩
    · have := ops_turn (o' := o) (i := i) h.ops hx (.inl hp) (x := ⟨1, b, x.sd, S.ops.length⟩) ?_ i o (put_self e2 _)
      · exact this
      · have h2 := (h.ops i o e2).mono (show K ≤ K + 1 by omega)
        cases o with
        | wa => exact h2
        | en t' s' b' c' dn' =>
          obtain ⟨a1, a2, a3, a4, a5, a6, a7⟩ := h2
          refine ⟨a1, a2, a3, a4, a5, a6, fun hd => ?_⟩
          obtain ⟨z, hz, z1, z2, z3, z4⟩ := a7 hd
          refine ⟨z, ?_, z1, z2, z3, z4⟩
          rw [List.getElem?_set, if_neg (fun e => ?_)]
          · exact hz
          · subst e
            rw [hx] at hz
            obtain rfl := Option.some.inj hz
            rw [hd, hp] at z2
            cases c' <;> simp [gph] at z2
  · rcases set_cases hy with ⟨e1, e2⟩ | ⟨e1, e2⟩
    · subst e1; subst e2
      exact ⟨by simp, by simp only; omega, z3, fun _ => ⟨hb, t, none, false, by simp [GSt.begun], rfl, fun h => by simp at h⟩⟩
    · obtain ⟨a1, a2, a3, a4⟩ := h.sls s' y e2
      refine ⟨a1, a2, a3, fun hp => ?_⟩
      obtain ⟨b1, t', c, dn, b2, b3, b4⟩ := a4 hp
      exact ⟨b1, t', c, dn, by show (S.ops ++ _)[y.ow]? = _; rw [List.getElem?_append_left (List.getElem?_eq_some_iff.1 b2).1]; exact b2, b3, b4⟩
theorem GSt.ok.left (h : S.ok B n K) {t : Int} {s : Nat} {x : GSl} {y : Int} (hx : S.sl[s]? = some x) (hp : x.ph = 3) : (S.left B t s x y).ok B n (K + 1) := by
  obtain ⟨z1, z2, z3, z4⟩ := h.sls s x hx
  refine ⟨by simp [GSt.left, h.ls], by simp [GSt.left, h.lw], wok_set h.wok (u64_range _), gate_set h.gate (.inl fun j => by omega), fun i o b ho hb => ?_, by have := h.llog; simp [GSt.left]; omega, fun i o ho => ?_, fun s' y' hy => ?_⟩
  · obtain ⟨t', st', side', left', f', e1, e2, e3⟩ := h.lat i o b ho hb
    exact ⟨t', st', side', left', f', e1, by show (S.ws.set _ _)[_]? = _; rw [List.getElem?_set, if_neg (by omega)]; exact e2, e3⟩
  · have h2 := (h.ops i o ho).mono (show K ≤ K + 1 by omega)
    cases o with
    | wa => exact h2
    | en t' s' b' c' dn' =>
      obtain ⟨a1, a2, a3, a4, a5, a6, a7⟩ := h2
      refine ⟨a1, a2, a3, a4, a5, a6, fun hd => ?_⟩
      obtain ⟨z, hz, q1, q2, q3, q4⟩ := a7 hd
      refine ⟨z, ?_, q1, q2, q3, q4⟩
      show (S.sl.set s _)[s']? = _
      rw [List.getElem?_set, if_neg (fun e => ?_)]
      · exact hz
      · subst e
        rw [hx] at hz
        obtain rfl := Option.some.inj hz
        rw [hd, hp] at q2
        cases c' <;> simp [gph] at q2
  · rcases set_cases hy with ⟨e1, e2⟩ | ⟨e1, e2⟩
    · subst e2; exact ⟨by simp, z2, z3, fun h => absurd rfl h⟩
    · exact h.sls s' y' e2
theorem GSt.ok.waits (h : S.ok B n K) {t : Int} {l : List Nat} (t0 : 0 ≤ t) (t1 : t < 64) (hl : l ≠ []) (hb : ∀ b ∈ l, b < n) : (S.waits t l).ok B n (K + 1) := by
  refine ⟨h.ls, h.lw, h.wok, h.gate, lat_new h.lat (fun b => by cases l <;> rfl), by have := h.llog; show S.log.length ≤ K + 1; omega, fun i o ho => ?_, fun s' y hy => ?_⟩
  · rcases get_snoc ho with ⟨e1, e2⟩ | ⟨e1, e2⟩
    · subst e2; exact ⟨t0, t1, by omega, by omega, hb, ⟨fun e => absurd e hl, fun e => (by cases e)⟩, by omega⟩
    · exact (h.ops i o e2).mono (by omega)
  · obtain ⟨a1, a2, a3, a4⟩ := h.sls s' y hy
    refine ⟨a1, a2, a3, fun hp => ?_⟩
    obtain ⟨b1, t', c, dn, b2, b3, b4⟩ := a4 hp
    exact ⟨b1, t', c, dn, by show (S.ops ++ _)[y.ow]? = _; rw [List.getElem?_append_left (List.getElem?_eq_some_iff.1 b2).1]; exact b2, b3, b4⟩
end
end Go.Lf
