/- each behind prcu's face. -/
import Derived.Test.YtldjlcdccnnogaaGreatPrc
import Derived.Test.YtldjlcdccnnogaaGreatMgE
set_option linter.unusedVariables false
set_option linter.unusedSimpArgs false
namespace Go.Proofs.YtldjlcdccnnogaaGreat
open Go.RowKit Go.Lf
def prHO_each (g n : Nat) : Obj := .cells #[heldV_each g, .int .u8 2, .int .i64 n] 142 (0, 0)
def prEO_each (b : Nat) : Obj := .cells #[enV_each b] 171 (0, 0)
def prWO_each (b : Nat) : Obj := .cells #[waV_each b] 172 (0, 0)
def EJr (p g n : Nat) (s : (ESt × List Nat) × List (Nat × Obj)) (x : RX) : Prop :=
  ∃ oi, EX n s.1.1 oi x ∧ s.1.2.length = s.1.1.ops.length ∧ (p, prHO_each g n) ∈ s.2 ∧ BoxJ n s.2 (fun k => s.1.2[oi k]?) prEO_each prWO_each x
def PrEL (p g sb cb mb n : Nat) : Lies RX := ((ELies g sb cb mb ((0 : Nat) : Int)).consts).rel (EJr p g n)
section
variable {p g sb cb mb n : Nat} {w : World} {A : Nat → Prop} {x : RX}
theorem bl_app {l : List Nat} {i b c : Nat} (h : l[i]? = some b) : (l ++ [c])[i]? = some b := by
  rw [List.getElem?_append_left (List.getElem?_eq_some_iff.1 h).1]; exact h
theorem pre_engine (h : (PrEL p g sb cb mb n).lie w A x) : Calls Tryz.prog 61 #[pb p] w fun e w' => e = .returned (.int .u8 2) ∧ Keep Nil w w' := by
  obtain ⟨⟨⟨S, bl⟩, cs⟩, ⟨A0, hE, hcs, hA⟩, oi, hx, hl, hp, hb⟩ := h
  refine (prkind_ok (n := n) (hcs _ hp).1).mono ?_
  rintro e w' ⟨rfl, rfl⟩
  exact ⟨rfl, Keep.refl _ _⟩
theorem pre_enter (hn : n ≤ 6) (k : Nat) (v : Int) (h : (PrEL p g sb cb mb n).lie w A x) (hK : x.K ≤ 900) (hk : k < n) (hT : x.T k = .idle) (v0 : 0 ≤ v) (v1 : v < 64) :
    Calls Tryz.prog 60 #[pb p, .int .i64 k, .int .i64 k, .int .i64 v] w fun e w' => ∃ b, e = .returned (.tuple #[pb b, .int .i64 0]) ∧ (PrEL p g sb cb mb n).To w A (x.enter k v b) w' := by
  obtain ⟨⟨⟨S, bl⟩, cs⟩, ⟨A0, hE, hcs, hA⟩, oi, hx, hl, hp, hb⟩ := h
  have hc := hx.th k hk
  unfold ETh at hc
  rw [hT] at hc
  simp only at hc hl hp hb hx
  obtain ⟨x0, x1, -, x3⟩ := hx.ok.cok k _ hc
  simp only at x0 x1 x3
  have hev : S.qn k % 2 = 0 := by
    have : ¬ S.qn k % 2 = 1 := fun e => by have := x3.2 e; omega
    omega
  refine (pren_each (g := g) (hcs _ hp).1 k v hk (by omega) (Q := fun eb w1 => (ELies g sb cb mb ((0 : Nat) : Int)).To w A0 (S.begun k k v (S.qn k), bl ++ [eb]) w1) ?_).mono ?_
  · intro w1 k1
    obtain ⟨F, hP⟩ := (ELies g sb cb mb ((0 : Nat) : Int)).keep hE k1 (fun _ _ h => h)
    change EPAt _ _ _ _ _ _ _ S bl _ at hP
    refine (eenter_ok hP.sys v (by omega) (by omega) v0 v1 (S.qn k) (esl_at hc) x0 hev).mono ?_
    rintro e w' ⟨rfl, q1, q2, q3, q4⟩
    exact ⟨_, rfl, Lies.To.pre k1 (hP.new (c' := S.c.set k (S.qn k, 1)) (by rw [esl_set]; exact q1) q2 q3)⟩
  · rintro e w' ⟨eb, w1, ht, rfl, hbx, k2⟩
    refine ⟨_, rfl, Lies.rel_to (Lies.consts_new hE hcs hA ht rfl hbx k2) ⟨upd oi k S.ops.length, hx.enter hn hk hT v0 v1 _, by simp [ESt.begun, hl], List.mem_append_left _ hp, ?_⟩⟩
    refine hb.turn (k := k) (fun i hi => upd_ne _ _ hi) (fun i hi => upd_ne _ _ hi) (fun i hi b hb' => ?_) (fun c hc => List.mem_append_left _ hc) (fun u hu => ⟨eb, ?_, ?_⟩) (fun set bg hu => ?_)
    · simp only [upd_ne _ _ hi]; exact bl_app hb'
    · simp only [upd_self]; rw [← hl]; simp
    · simp only [RX.enter, upd_self]; exact List.mem_append_right _ (List.mem_singleton.2 rfl)
    · simp only [RX.enter, upd_self] at hu; cases hu
theorem pre_exit (hn : n ≤ 6) (k : Nat) (v : Int) (h : (PrEL p g sb cb mb n).lie w A x) (hK : x.K ≤ 900) (hk : k < n) (hT : x.T k = .inn v) :
    Calls Tryz.prog 39 #[pb p, .int .i64 k, .int .i64 k] w fun e w' => ∃ pc e0, e = .returned (.tuple #[.int .u8 pc, .int .i64 e0]) ∧ pc ≠ 0 ∧ pc ≠ 1 ∧ (PrEL p g sb cb mb n).To w A (x.exit k) w' := by
  obtain ⟨⟨⟨S, bl⟩, cs⟩, ⟨A0, hE, hcs, hA⟩, oi, hx, hl, hp, hb⟩ := h
  simp only at hl hp hb hx
  obtain ⟨y, hc, hy, hx'⟩ := hx.exit hn hk hT
  obtain ⟨x0, x1, -, x3⟩ := hx.ok.cok k _ hc
  simp only at x0 x1 x3
  have ll := hx.ok.llog
  have lc := hx.ok.lc
  refine (prx_each (g := g) (hcs _ hp).1 k hk (by omega) (pc := 13) (Q := fun w1 => (ELies g sb cb mb ((0 : Nat) : Int)).To w A0 (S.left 0 k k (S.qn k) y, bl) w1) ?_).mono ?_
  · intro w1 k1
    obtain ⟨F, hP⟩ := (ELies g sb cb mb ((0 : Nat) : Int)).keep hE k1 (fun _ _ h => h)
    change EPAt _ _ _ _ _ _ _ S bl _ at hP
    have l1 : (esl S.c).length = n := by simp [esl, lc]
    have hes : (esl S.c)[k]? = some (S.qn k, false) := esl_at hc
    refine (eexit_ok hP.sys (S.qn k) y _ (t := (k : Int)) (by omega) (by omega) hes x0 (by omega) (x3.1 trivial) (by omega) (by omega) (by omega) (by rw [show (((0 : Nat) : Int) + 2 * (k : Int)).toNat = 2 * k by omega]; exact hy) (by omega)).mono ?_
    rintro e w' ⟨rfl, F', q1, q2, q3⟩
    exact ⟨rfl, Lies.To.pre k1 (hP.none (c' := S.c.set k (S.qn k + 1, 0)) (by rw [esl_set]; exact q1) q2 q3)⟩
  · rintro e w' ⟨rfl, ht⟩
    refine ⟨_, _, rfl, by decide, by decide, Lies.rel_to (Lies.consts_turn hE hcs hA ht) ⟨oi, hx', hl, hp, ?_⟩⟩
    exact hb.turn (k := k) (fun i hi => upd_ne _ _ hi) (fun i hi => rfl) (fun i hi b hb' => hb') (fun c hc => hc) (fun u hu => by simp only [RX.exit, upd_self] at hu; cases hu) (fun set bg hu => by simp only [RX.exit, upd_self] at hu; cases hu)
theorem pre_wait (hn : n ≤ 6) (k : Nat) (set : Int) (h : (PrEL p g sb cb mb n).lie w A x) (hK : x.K ≤ 900) (hk : k < n) (hT : x.T k = .idle) (s0 : 0 < set) (s1 : set < 18446744073709551616) :
    Calls Tryz.prog 62 #[pb p, .int .i64 k, .int .u64 set] w fun e w' => ∃ b, ∃ r ≤ 3 * n, e = .returned (.tuple #[pb b, .int .i64 0]) ∧ (PrEL p g sb cb mb n).To w A (x.wait k set r b) w' := by
  obtain ⟨⟨⟨S, bl⟩, cs⟩, ⟨A0, hE, hcs, hA⟩, oi, hx, hl, hp, hb⟩ := h
  simp only at hl hp hb hx
  obtain ⟨sn, rfl⟩ : ∃ sn : Nat, set = sn := ⟨set.toNat, by omega⟩
  refine (prwa_each (g := g) (hcs _ hp).1 k sn (Q := fun eb w1 => (ELies g sb cb mb ((0 : Nat) : Int)).To w A0 (S.waits k sn, bl ++ [eb]) w1) ?_).mono ?_
  · intro w1 k1
    obtain ⟨F, hP⟩ := (ELies g sb cb mb ((0 : Nat) : Int)).keep hE k1 (fun _ _ h => h)
    change EPAt _ _ _ _ _ _ _ S bl _ at hP
    refine (ewait_ok (g := g) (t := (k : Int)) (by omega) (by omega) (show (sn : Int) ≠ 0 by omega)).mono ?_
    rintro e w' ⟨rfl, q2, q3, q4⟩
    exact ⟨_, rfl, Lies.To.pre k1 (hP.new (o := .wa k sn ⟨0, 0, 0⟩) (c' := S.c) (hP.sys.quiet q3) q2 (q3.mono fun _ _ h => h.elim))⟩
  · rintro e w' ⟨eb, w1, ht, rfl, hbx, k2⟩
    refine ⟨_, 3 * n, Nat.le_refl _, rfl, Lies.rel_to (Lies.consts_new hE hcs hA ht rfl hbx k2) ⟨upd oi k S.ops.length, hx.wait hn hk hT s0 s1 _, by simp [ESt.waits, hl], List.mem_append_left _ hp, ?_⟩⟩
    refine hb.turn (k := k) (fun i hi => upd_ne _ _ hi) (fun i hi => upd_ne _ _ hi) (fun i hi b hb' => ?_) (fun c hc => List.mem_append_left _ hc) (fun u hu => ?_) (fun set bg hu => ⟨eb, ?_, ?_⟩)
    · simp only [upd_ne _ _ hi]; exact bl_app hb'
    · simp only [RX.wait, upd_self] at hu; cases hu
    · simp only [upd_self]; rw [← hl]; simp
    · simp only [RX.wait, upd_self]; exact List.mem_append_right _ (List.mem_singleton.2 rfl)
theorem pre_enext (k : Nat) (v : Int) (h : (PrEL p g sb cb mb n).lie w A x) (hk : k < n) (hT : x.T k = .en v) :
    Calls Tryz.prog 34 #[pb (x.bx k)] w fun e w' => ∃ pc, e = .returned (.int .u8 pc) ∧ pc ≠ 0 ∧ Keep Nil w w' := by
  obtain ⟨⟨⟨S, bl⟩, cs⟩, ⟨A0, ⟨F, hP⟩, hcs, hA⟩, oi, hx, hl, hp, hb⟩ := h
  simp only at hl hp hb hx
  change EPAt _ _ _ _ _ _ _ S bl _ at hP
  have hc := hx.th k hk
  unfold ETh at hc
  rw [hT] at hc
  simp only at hc
  obtain ⟨v0, v1, hc, i, hi, ho, -⟩ := hc
  obtain ⟨b, hb1, hb2⟩ := hb.en k v hk hT
  refine (prn_each (hcs _ hb2).1 (pc := EOp.pc (.en k k v i)) (epnext hP hb1 ho (hx.ok.ops _ _ ho))).mono ?_
  rintro e w' ⟨rfl, hk⟩
  refine ⟨_, rfl, ?_, hk⟩
  have : i = 0 ∨ i = 1 := by omega
  rcases this with rfl | rfl <;> simp [EOp.pc, epc]
theorem pre_wnext (k : Nat) (set : Int) (bg : Bool) (h : (PrEL p g sb cb mb n).lie w A x) (hk : k < n) (hT : x.T k = .wa set bg) :
    Calls Tryz.prog 35 #[pb (x.bx k)] w fun e w' => ∃ pc, e = .returned (.int .u8 pc) ∧ pc ≠ 0 ∧ Keep Nil w w' := by
  obtain ⟨⟨⟨S, bl⟩, cs⟩, ⟨A0, ⟨F, hP⟩, hcs, hA⟩, oi, hx, hl, hp, hb⟩ := h
  simp only at hl hp hb hx
  change EPAt _ _ _ _ _ _ _ S bl _ at hP
  have hc := hx.th k hk
  unfold ETh at hc
  rw [hT] at hc
  simp only at hc
  obtain ⟨hc, s0, s1, s, ho, h3, -⟩ := hc
  obtain ⟨b, hb1, hb2⟩ := hb.wa k set bg hk hT
  refine (prwn_each (hcs _ hb2).1 (pc := EOp.pc (.wa k set.toNat s)) (epnext hP hb1 ho (hx.ok.ops _ _ ho))).mono ?_
  rintro e w' ⟨rfl, hk⟩
  refine ⟨_, rfl, ?_, hk⟩
  have : s.st = 0 ∨ s.st = 1 ∨ s.st = 2 := by omega
  rcases this with e | e | e <;> simp [EOp.pc, ewpc, e]
theorem pre_estep (hn : n ≤ 6) (k : Nat) (v : Int) (h : (PrEL p g sb cb mb n).lie w A x) (hK : x.K ≤ 900) (hk : k < n) (hT : x.T k = .en v) :
    Calls Tryz.prog 36 #[pb (x.bx k)] w fun e w' => ∃ pc d, e = .returned (.tuple #[.int .u8 pc, .bool d]) ∧ pc ≠ 0 ∧ pc ≠ 1 ∧ (PrEL p g sb cb mb n).To w A (x.estep k v d) w' := by
  obtain ⟨⟨⟨S, bl⟩, cs⟩, ⟨A0, hE, hcs, hA⟩, oi, hx, hl, hp, hb⟩ := h
  simp only at hl hp hb hx
  have hc := hx.th k hk
  unfold ETh at hc
  rw [hT] at hc
  simp only at hc
  obtain ⟨v0, v1, hc, i, hi, ho, -⟩ := hc
  obtain ⟨b, hb1, hb2⟩ := hb.en k v hk hT
  obtain ⟨S', pc, d, hst, hok⟩ := estep_ex hx.ok ho
  obtain ⟨hx', p0, p1⟩ := hx.estep hn hk hT hst hok
  have hlen : S'.ops.length = S.ops.length := by cases hst <;> simp
  refine (prs_each (hcs _ hb2).1 (pc := pc) (d := d) (Q := fun w1 => (ELies g sb cb mb ((0 : Nat) : Int)).To w A0 (S', bl) w1) ?_).mono ?_
  · obtain ⟨F, hP⟩ := hE
    exact epstep hP hx.ok (by omega) (by omega) (by omega) hb1 ho hst
  · rintro e w' ⟨rfl, ht⟩
    refine ⟨_, _, rfl, p0, p1, Lies.rel_to (Lies.consts_turn hE hcs hA ht) ⟨oi, hx', by simp only; omega, hp, ?_⟩⟩
    refine hb.turn (k := k) (fun i hi => upd_ne _ _ hi) (fun i hi => rfl) (fun i hi b hb' => hb') (fun c hc => hc) (fun u hu => ⟨b, hb1, hb2⟩) (fun set bg hu => ?_)
    simp only [RX.estep, upd_self] at hu
    split at hu <;> cases hu
theorem pre_wstep (hn : n ≤ 6) (k : Nat) (set : Int) (bg : Bool) (h : (PrEL p g sb cb mb n).lie w A x) (hK : x.K ≤ 900) (hk : k < n) (hT : x.T k = .wa set bg) :
    Calls Tryz.prog 38 #[pb (x.bx k)] w fun e w' => ∃ pc d r, e = .returned (.tuple #[.int .u8 pc, .bool d]) ∧ pc ≠ 0 ∧ pc ≠ 1 ∧ (PrEL p g sb cb mb n).To w A (x.wstep k set bg d r) w' ∧
      (d = true → ∀ j, j < n → ¬ x.must k set bg j) ∧ r ≤ 3 * n ∧
      (r + 1 ≤ x.R k ∨ (∃ j v, j < n ∧ x.T j = .inn v ∧ hasv set v = true) ∨ ∃ j s, j < n ∧ j ≠ k ∧ x.T j = .wa s true) := by
  obtain ⟨⟨⟨S, bl⟩, cs⟩, ⟨A0, hE, hcs, hA⟩, oi, hx, hl, hp, hb⟩ := h
  simp only at hl hp hb hx
  have hc := hx.th k hk
  unfold ETh at hc
  rw [hT] at hc
  simp only at hc
  obtain ⟨hc, s0, s1, s, ho, h3, -⟩ := hc
  obtain ⟨b, hb1, hb2⟩ := hb.wa k set bg hk hT
  obtain ⟨S', pc, d, hst, hok⟩ := estep_ex hx.ok ho
  obtain ⟨r, hx', p0, p1, hd, hr, hr2⟩ := hx.wstep hn hk hT hst hok
  have hlen : S'.ops.length = S.ops.length := by cases hst <;> simp
  refine (prws_each (hcs _ hb2).1 (pc := pc) (d := d) (Q := fun w1 => (ELies g sb cb mb ((0 : Nat) : Int)).To w A0 (S', bl) w1) ?_).mono ?_
  · obtain ⟨F, hP⟩ := hE
    exact epstep hP hx.ok (by omega) (by omega) (by omega) hb1 ho hst
  · rintro e w' ⟨rfl, ht⟩
    refine ⟨_, _, r, rfl, p0, p1, Lies.rel_to (Lies.consts_turn hE hcs hA ht) ⟨oi, hx', by simp only; omega, hp, ?_⟩, hd, hr, hr2.elim .inl (fun h => .inr (.inl h))⟩
    refine hb.turn (k := k) (fun i hi => upd_ne _ _ hi) (fun i hi => rfl) (fun i hi b hb' => hb') (fun c hc => hc) (fun u hu => ?_) (fun set bg hu => ⟨b, hb1, hb2⟩)
    simp only [RX.wstep, upd_self] at hu
    split at hu <;> cases hu
/-- each as a rig's engine. -/
def prE (p g sb cb mb n : Nat) (hn : n ≤ 6) : PrW n where
  P := PrEL p g sb cb mb n
  p := p
  kind := 2
  conc := hasv
  bnd := fun _ => 3 * n
  k0 := .inr (.inl rfl)
  engine := pre_engine
  enter := pre_enter hn
  exit := pre_exit hn
  wait := pre_wait hn
  enext := pre_enext
  wnext := pre_wnext
  estep := pre_estep hn
  wstep := pre_wstep hn
end
end Go.Proofs.YtldjlcdccnnogaaGreat
