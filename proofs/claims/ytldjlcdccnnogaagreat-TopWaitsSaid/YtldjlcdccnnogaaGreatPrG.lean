/- gate behind prcu's face. -/
import Derived.Test.YtldjlcdccnnogaaGreatPrc
import Derived.Test.YtldjlcdccnnogaaGreatRgG
import Derived.Test.YtldjlcdccnnogaaGreatMgD
set_option linter.unusedVariables false
set_option linter.unusedSimpArgs false
namespace Go.Proofs.YtldjlcdccnnogaaGreat
open Go.RowKit Go.Lf
def prHO_gate (g n : Nat) : Obj := .cells #[heldV_gate g, .int .u8 3, .int .i64 n] 142 (0, 0)
def prEO_gate (b : Nat) : Obj := .cells #[enV_gate b] 171 (0, 0)
def prWO_gate (b : Nat) : Obj := .cells #[waV_gate b] 172 (0, 0)
def gtb (bo : List (GOp × GPB)) (i : Nat) : Option Nat := (bo[i]?).map fun q => q.2.a
def GJr (p g n nb : Nat) (s : (GSt × List (GOp × GPB)) × List (Nat × Obj)) (x : RX) : Prop :=
  ∃ oi, GX n nb s.1.1 oi x ∧ s.1.1.ops = s.1.2.map Prod.fst ∧ (p, prHO_gate g n) ∈ s.2 ∧ BoxJ n s.2 (fun k => gtb s.1.2 (oi k)) prEO_gate prWO_gate x
def PrGL (p g r mb n nb : Nat) : Lies RX := ((GLies g r mb 0 nb).consts).rel (GJr p g n nb)
section
variable {p g r mb n nb : Nat} {w : World} {A : Nat → Prop} {x : RX}
theorem gtb_app {l : List (GOp × GPB)} {i b : Nat} {c : GOp × GPB} (h : gtb l i = some b) : gtb (l ++ [c]) i = some b := by
  unfold gtb at h ⊢
  cases hl : l[i]? with
  | none => rw [hl] at h; cases h
  | some q => rw [List.getElem?_append_left (List.getElem?_eq_some_iff.1 hl).1, ← h, hl]
theorem gtb_last {l : List (GOp × GPB)} {c : GOp × GPB} : gtb (l ++ [c]) l.length = some c.2.a := by simp [gtb]
theorem gtb_map {l l' : List (GOp × GPB)} (h : l'.map (fun o => o.2.a) = l.map (fun o => o.2.a)) (i : Nat) : gtb l' i = gtb l i := by
  have := congrArg (fun m => m[i]?) h
  simpa [gtb] using this
theorem gtb_at {S : GSt} {l : List (GOp × GPB)} (hl : S.ops = l.map Prod.fst) {i b : Nat} {o : GOp} (h : gtb l i = some b) (ho : S.ops[i]? = some o) : ∃ q : GPB, l[i]? = some (o, q) ∧ q.a = b := by
  unfold gtb at h
  cases hq : l[i]? with
  | none => rw [hq] at h; cases h
  | some q =>
    rw [hq] at h
    rw [hl, List.getElem?_map, hq] at ho
    obtain ⟨o', q⟩ := q
    cases ho
    exact ⟨q, rfl, Option.some.inj h⟩
theorem prg_engine (h : (PrGL p g r mb n nb).lie w A x) : Calls Tryz.prog 61 #[pb p] w fun e w' => e = .returned (.int .u8 3) ∧ Keep Nil w w' := by
  obtain ⟨⟨⟨S, bo⟩, cs⟩, ⟨A0, hE, hcs, hA⟩, oi, hx, hl, hp, hb⟩ := h
  refine (prkind_ok (n := n) (hcs _ hp).1).mono ?_
  rintro e w' ⟨rfl, rfl⟩
  exact ⟨rfl, Keep.refl _ _⟩
theorem prg_enter (hn : n ≤ 6) (hnb : nb ≤ 4) (hnb0 : 1 ≤ nb) (k : Nat) (v : Int) (h : (PrGL p g r mb n nb).lie w A x) (hK : x.K ≤ 900) (hk : k < n) (hT : x.T k = .idle) (v0 : 0 ≤ v) (v1 : v < 64) :
    Calls Tryz.prog 60 #[pb p, .int .i64 k, .int .i64 k, .int .i64 v] w fun e w' => ∃ b, e = .returned (.tuple #[pb b, .int .i64 0]) ∧ (PrGL p g r mb n nb).To w A (x.enter k v b) w' := by
  obtain ⟨⟨⟨S, bo⟩, cs⟩, ⟨A0, hE, hcs, hA⟩, oi, hx, hl, hp, hb⟩ := h
  simp only at hl hp hb hx
  obtain ⟨y, hy, hp0, -⟩ := hx.enter hn hnb hnb0 hk hT v0 v1 0
  obtain ⟨vn, rfl⟩ : ∃ vn : Nat, v = vn := ⟨v.toNat, by omega⟩
  refine (pren_gate (g := g) (hcs _ hp).1 k vn hk (by omega) (Q := fun eb w1 => ∃ q : GPB, q.a = eb ∧ (GLies g r mb 0 nb).To w A0 (S.begun k k (vn % nb) y, bo ++ [(.en k k (vn % nb) none false, q)]) w1) ?_).mono ?_
  · intro w1 k1
    obtain ⟨F, ml, hP⟩ := (GLies g r mb 0 nb).keep hE k1 (fun _ _ h => h)
    refine (gpenter_ok hP hx.ok (by omega) hnb0 (by omega) (t := (k : Int)) (by omega) (by omega) (v := vn) (by omega) hy hp0).mono ?_
    rintro e w' ⟨q, rfl, ht⟩
    exact ⟨_, rfl, q, rfl, Lies.To.pre k1 ht⟩
  · rintro e w' ⟨eb, w1, ⟨q, rfl, ht⟩, rfl, hbx, k2⟩
    obtain ⟨y', hy', -, hx'⟩ := hx.enter hn hnb hnb0 hk hT v0 v1 w1.heap.size
    rw [hy] at hy'; cases hy'
    have lb : S.ops.length = bo.length := by rw [hl]; simp
    refine ⟨_, rfl, Lies.rel_to (Lies.consts_new hE hcs hA ht rfl hbx k2) ⟨upd oi k S.ops.length, hx', by simp [GSt.begun, hl], List.mem_append_left _ hp, ?_⟩⟩
    refine hb.turn (k := k) (fun i hi => upd_ne _ _ hi) (fun i hi => upd_ne _ _ hi) (fun i hi b hb' => ?_) (fun c hc => List.mem_append_left _ hc) (fun u hu => ⟨q.a, ?_, ?_⟩) (fun set bg hu => ?_)
    · simp only [upd_ne _ _ hi]; exact gtb_app hb'
    · simp only [upd_self, lb]; exact gtb_last
    · simp only [RX.enter, upd_self]; exact List.mem_append_right _ (List.mem_singleton.2 rfl)
    · simp only [RX.enter, upd_self] at hu; cases hu
theorem prg_exit (hn : n ≤ 6) (hnb : nb ≤ 4) (hnb0 : 1 ≤ nb) (k : Nat) (v : Int) (h : (PrGL p g r mb n nb).lie w A x) (hK : x.K ≤ 900) (hk : k < n) (hT : x.T k = .inn v) :
    Calls Tryz.prog 39 #[pb p, .int .i64 k, .int .i64 k] w fun e w' => ∃ pc e0, e = .returned (.tuple #[.int .u8 pc, .int .i64 e0]) ∧ pc ≠ 0 ∧ pc ≠ 1 ∧ (PrGL p g r mb n nb).To w A (x.exit k) w' := by
  obtain ⟨⟨⟨S, bo⟩, cs⟩, ⟨A0, hE, hcs, hA⟩, oi, hx, hl, hp, hb⟩ := h
  simp only at hl hp hb hx
  obtain ⟨y, z, hy, hp3, hz, hx'⟩ := hx.exit hn hnb0 hk hT
  refine (prx_gate (g := g) (hcs _ hp).1 k hk (by omega) (pc := 16) (Q := fun w1 => (GLies g r mb 0 nb).To w A0 (S.left 0 k k y z, bo) w1) ?_).mono ?_
  · intro w1 k1
    obtain ⟨F, ml, hP⟩ := (GLies g r mb 0 nb).keep hE k1 (fun _ _ h => h)
    refine (gpexit_ok hP hx.ok (by omega) (by omega) (by omega) (t := (k : Int)) (by omega) (by omega) hy hp3 hz).mono ?_
    rintro e w' ⟨rfl, ht⟩
    exact ⟨rfl, Lies.To.pre k1 ht⟩
  · rintro e w' ⟨rfl, ht⟩
    refine ⟨_, _, rfl, by decide, by decide, Lies.rel_to (Lies.consts_turn hE hcs hA ht) ⟨oi, hx', hl, hp, ?_⟩⟩
    exact hb.turn (k := k) (fun i hi => upd_ne _ _ hi) (fun i hi => rfl) (fun i hi b hb' => hb') (fun c hc => hc) (fun u hu => by simp only [RX.exit, upd_self] at hu; cases hu) (fun set bg hu => by simp only [RX.exit, upd_self] at hu; cases hu)
theorem prg_wait (hn : n ≤ 6) (hnb : nb ≤ 4) (hnb0 : 1 ≤ nb) (k : Nat) (set : Int) (h : (PrGL p g r mb n nb).lie w A x) (hK : x.K ≤ 900) (hk : k < n) (hT : x.T k = .idle) (s0 : 0 < set) (s1 : set < 18446744073709551616) :
    Calls Tryz.prog 62 #[pb p, .int .i64 k, .int .u64 set] w fun e w' => ∃ b, ∃ q ≤ 6 * (bkts set.toNat nb).length, e = .returned (.tuple #[pb b, .int .i64 0]) ∧ (PrGL p g r mb n nb).To w A (x.wait k set q b) w' := by
  obtain ⟨⟨⟨S, bo⟩, cs⟩, ⟨A0, hE, hcs, hA⟩, oi, hx, hl, hp, hb⟩ := h
  simp only at hl hp hb hx
  obtain ⟨sn, rfl⟩ : ∃ sn : Nat, set = sn := ⟨set.toNat, by omega⟩
  refine (prwa_gate (g := g) (hcs _ hp).1 k sn (Q := fun eb w1 => ∃ q : GPB, q.a = eb ∧ (GLies g r mb 0 nb).To w A0 (S.waits k (bkts sn nb), bo ++ [(.wa k 0 0 (bkts sn nb) 0, q)]) w1) ?_).mono ?_
  · intro w1 k1
    obtain ⟨F, ml, hP⟩ := (GLies g r mb 0 nb).keep hE k1 (fun _ _ h => h)
    refine (gpwait_ok hP hx.ok (by omega) hnb0 (by omega) (t := (k : Int)) (set := sn) (by omega) (by omega) (by omega) (by omega)).mono ?_
    rintro e w' ⟨q, rfl, ht⟩
    exact ⟨_, rfl, q, rfl, Lies.To.pre k1 ht⟩
  · rintro e w' ⟨eb, w1, ⟨q, rfl, ht⟩, rfl, hbx, k2⟩
    have lb : S.ops.length = bo.length := by rw [hl]; simp
    refine ⟨_, 6 * (bkts sn nb).length, Nat.le_refl _, rfl, Lies.rel_to (Lies.consts_new hE hcs hA ht rfl hbx k2) ⟨upd oi k S.ops.length, hx.wait hn hnb0 hk hT s0 s1 _, by simp [GSt.waits, hl], List.mem_append_left _ hp, ?_⟩⟩
    refine hb.turn (k := k) (fun i hi => upd_ne _ _ hi) (fun i hi => upd_ne _ _ hi) (fun i hi b hb' => ?_) (fun c hc => List.mem_append_left _ hc) (fun u hu => ?_) (fun set bg hu => ⟨q.a, ?_, ?_⟩)
    · simp only [upd_ne _ _ hi]; exact gtb_app hb'
    · simp only [RX.wait, upd_self] at hu; cases hu
    · simp only [upd_self, lb]; exact gtb_last
    · simp only [RX.wait, upd_self]; exact List.mem_append_right _ (List.mem_singleton.2 rfl)
theorem prg_enext (k : Nat) (v : Int) (h : (PrGL p g r mb n nb).lie w A x) (hk : k < n) (hT : x.T k = .en v) :
    Calls Tryz.prog 34 #[pb (x.bx k)] w fun e w' => ∃ pc, e = .returned (.int .u8 pc) ∧ pc ≠ 0 ∧ Keep Nil w w' := by
  obtain ⟨⟨⟨S, bo⟩, cs⟩, ⟨A0, ⟨F, ml, hP⟩, hcs, hA⟩, oi, hx, hl, hp, hb⟩ := h
  simp only at hl hp hb hx
  have hc := hx.th k hk
  unfold GTh at hc
  rw [hT] at hc
  obtain ⟨v0, v1, c, ho⟩ := hc
  obtain ⟨b, hb1, hb2⟩ := hb.en k v hk hT
  obtain ⟨q, hq, rfl⟩ := gtb_at hl hb1 ho
  refine (prn_gate (hcs _ hb2).1 (pc := GOp.pc (.en k k (v.toNat % nb) c false)) ((gpnext hP hq).mono ?_)).mono ?_
  · rintro e w' ⟨rfl, rfl⟩
    exact ⟨rfl, Keep.refl _ _⟩
  rintro e w' ⟨rfl, hk⟩
  refine ⟨_, rfl, ?_, hk⟩
  cases c <;> simp [GOp.pc]
theorem prg_wnext (k : Nat) (set : Int) (bg : Bool) (h : (PrGL p g r mb n nb).lie w A x) (hk : k < n) (hT : x.T k = .wa set bg) :
    Calls Tryz.prog 35 #[pb (x.bx k)] w fun e w' => ∃ pc, e = .returned (.int .u8 pc) ∧ pc ≠ 0 ∧ Keep Nil w w' := by
  obtain ⟨⟨⟨S, bo⟩, cs⟩, ⟨A0, ⟨F, ml, hP⟩, hcs, hA⟩, oi, hx, hl, hp, hb⟩ := h
  simp only at hl hp hb hx
  have hc := hx.th k hk
  unfold GTh at hc
  rw [hT] at hc
  obtain ⟨hc, s0, s1, st, side, left, f, ho, h5, -⟩ := hc
  obtain ⟨b, hb1, hb2⟩ := hb.wa k set bg hk hT
  obtain ⟨q, hq, rfl⟩ := gtb_at hl hb1 ho
  refine (prwn_gate (hcs _ hb2).1 (pc := GOp.pc (.wa k st side left f)) ((gpnext hP hq).mono ?_)).mono ?_
  · rintro e w' ⟨rfl, rfl⟩
    exact ⟨rfl, Keep.refl _ _⟩
  rintro e w' ⟨rfl, hk⟩
  exact ⟨_, rfl, (gwpc_ne h5).1, hk⟩
theorem prg_estep (hn : n ≤ 6) (hnb : nb ≤ 4) (k : Nat) (v : Int) (h : (PrGL p g r mb n nb).lie w A x) (hK : x.K ≤ 900) (hk : k < n) (hT : x.T k = .en v) :
    Calls Tryz.prog 36 #[pb (x.bx k)] w fun e w' => ∃ pc d, e = .returned (.tuple #[.int .u8 pc, .bool d]) ∧ pc ≠ 0 ∧ pc ≠ 1 ∧ (PrGL p g r mb n nb).To w A (x.estep k v d) w' := by
  obtain ⟨⟨⟨S, bo⟩, cs⟩, ⟨A0, hE, hcs, hA⟩, oi, hx, hl, hp, hb⟩ := h
  simp only at hl hp hb hx
  have hc := hx.th k hk
  unfold GTh at hc
  rw [hT] at hc
  obtain ⟨v0, v1, c, ho⟩ := hc
  obtain ⟨b, hb1, hb2⟩ := hb.en k v hk hT
  obtain ⟨q, hq, rfl⟩ := gtb_at hl hb1 ho
  obtain ⟨S', pc, d, hst⟩ := gstep_ex hx.ok ho
  obtain ⟨hx', p0, p1⟩ := hx.estep hn hk hT hst
  refine (prs_gate (hcs _ hb2).1 (pc := pc) (d := d) (Q := fun w1 => ∃ bo', bo'.map (fun o => o.2.a) = bo.map (fun o => o.2.a) ∧ (GLies g r mb 0 nb).To w A0 (S', bo') w1) ?_).mono ?_
  · obtain ⟨F, ml, hP⟩ := hE
    refine (gpstep_any hP hx.ok (by omega) (by omega) (by omega) hq hst).mono ?_
    rintro e w' ⟨bo', ⟨rfl, h1⟩, h2⟩
    exact ⟨rfl, bo', h1, h2⟩
  · rintro e w' ⟨rfl, bo', hm, ht⟩
    obtain ⟨A', ⟨F', ml', hP'⟩, -⟩ := id ht
    refine ⟨_, _, rfl, p0, p1, Lies.rel_to (Lies.consts_turn hE hcs hA ht) ⟨oi, hx', hP'.ops, hp, ?_⟩⟩
    refine hb.turn (k := k) (fun i hi => upd_ne _ _ hi) (fun i hi => rfl) (fun i hi b hb' => (gtb_map hm _).trans hb') (fun c hc => hc) (fun u hu => ⟨_, (gtb_map hm _).trans hb1, hb2⟩) (fun set bg hu => ?_)
    simp only [RX.estep, upd_self] at hu
    split at hu <;> cases hu
theorem prg_wstep (hn : n ≤ 6) (hnb : nb ≤ 4) (hnb0 : 1 ≤ nb) (k : Nat) (set : Int) (bg : Bool) (h : (PrGL p g r mb n nb).lie w A x) (hK : x.K ≤ 900) (hk : k < n) (hT : x.T k = .wa set bg) :
    Calls Tryz.prog 38 #[pb (x.bx k)] w fun e w' => ∃ pc d q, e = .returned (.tuple #[.int .u8 pc, .bool d]) ∧ pc ≠ 0 ∧ pc ≠ 1 ∧ (PrGL p g r mb n nb).To w A (x.wstep k set bg d q) w' ∧
      (d = true → ∀ j, j < n → ¬ x.must k set bg j) ∧ q ≤ 6 * (bkts set.toNat nb).length ∧
      (q + 1 ≤ x.R k ∨ (∃ j v, j < n ∧ x.T j = .inn v ∧ decide (v.toNat % nb ∈ bkts set.toNat nb) = true) ∨ ∃ j s, j < n ∧ j ≠ k ∧ x.T j = .wa s true) := by
  obtain ⟨⟨⟨S, bo⟩, cs⟩, ⟨A0, hE, hcs, hA⟩, oi, hx, hl, hp, hb⟩ := h
  simp only at hl hp hb hx
  have hc := hx.th k hk
  unfold GTh at hc
  rw [hT] at hc
  obtain ⟨hc, s0, s1, st, side, left, f, ho, h5, -⟩ := hc
  obtain ⟨b, hb1, hb2⟩ := hb.wa k set bg hk hT
  obtain ⟨q, hq, rfl⟩ := gtb_at hl hb1 ho
  obtain ⟨S', pc, d, hst⟩ := gstep_ex hx.ok ho
  obtain ⟨r', hx', p0, p1, hd, hr, hr2⟩ := hx.wstep hn hnb0 hk hT hst
  refine (prws_gate (hcs _ hb2).1 (pc := pc) (d := d) (Q := fun w1 => ∃ bo', bo'.map (fun o => o.2.a) = bo.map (fun o => o.2.a) ∧ (GLies g r mb 0 nb).To w A0 (S', bo') w1) ?_).mono ?_
  · obtain ⟨F, ml, hP⟩ := hE
    refine (gpstep_any hP hx.ok (by omega) (by omega) (by omega) hq hst).mono ?_
    rintro e w' ⟨bo', ⟨rfl, h1⟩, h2⟩
    exact ⟨rfl, bo', h1, h2⟩
  · rintro e w' ⟨rfl, bo', hm, ht⟩
    obtain ⟨A', ⟨F', ml', hP'⟩, -⟩ := id ht
    refine ⟨_, _, r', rfl, p0, p1, Lies.rel_to (Lies.consts_turn hE hcs hA ht) ⟨oi, hx', hP'.ops, hp, ?_⟩, hd, hr, hr2.elim .inl (fun h => h.elim (fun ⟨j, v, h1, h2, h3⟩ => .inr (.inl ⟨j, v, h1, h2, decide_eq_true h3⟩)) (fun h => .inr (.inr h)))⟩
    refine hb.turn (k := k) (fun i hi => upd_ne _ _ hi) (fun i hi => rfl) (fun i hi b hb' => (gtb_map hm _).trans hb') (fun c hc => hc) (fun u hu => ?_) (fun set bg hu => ⟨_, (gtb_map hm _).trans hb1, hb2⟩)
    simp only [RX.wstep, upd_self] at hu
    split at hu <;> cases hu
/-- gate as a rig's engine. -/
def prG (p g r mb n nb : Nat) (hn : n ≤ 6) (hnb : nb ≤ 4) (hnb0 : 1 ≤ nb) : PrW n where
  P := PrGL p g r mb n nb
  p := p
  kind := 3
  conc := fun set v => decide (v.toNat % nb ∈ bkts set.toNat nb)
  bnd := fun set => 6 * (bkts set.toNat nb).length
  k0 := .inr (.inr rfl)
  engine := prg_engine
  enter := prg_enter hn hnb hnb0
  exit := prg_exit hn hnb hnb0
  wait := prg_wait hn hnb hnb0
  enext := prg_enext
  wnext := prg_wnext
  estep := prg_estep hn hnb
  wstep := prg_wstep hn hnb hnb0
end
end Go.Proofs.YtldjlcdccnnogaaGreat
