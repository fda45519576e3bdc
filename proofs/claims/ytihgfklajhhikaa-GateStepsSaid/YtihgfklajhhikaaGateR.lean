/- GateSteps: the reference's side. -/
import Derived.Test.YtihgfklajhhikaaGateP
import Derived.Test.YtihgfklajhhikaaRefGate
set_option linter.unusedVariables false
set_option linter.unusedSimpArgs false
namespace Go.Lf
open Go.RowKit
structure GRB where
  a : Nat
  v : Value
theorem r_set (sl : List GSl) (s : Nat) (x : GSl) : (sl.set s x).map GSl.r = (sl.map GSl.r).set s x.r := List.map_set
theorem r_at {sl : List GSl} {s : Nat} {x : GSl} (h : sl[s]? = some x) : (sl.map GSl.r)[s]? = some x.r := by simp [h]
end Go.Lf
namespace Go.Proofs.Ytihgfklajhhikaa
open Go.RowKit Go.Lf
def genpc (c : Option Nat) (dn : Bool) : Int := if dn then 0 else match c with | none => 15 | some _ => 16
def grat (h : Nat) (w : World) (o : GOp × GRB) : Prop := match o.1 with
  | .en t s b c dn => RGEntAt w o.2.a h t s (genpc c dn)
  | .wa t st side left f => (∃ tu, RGWaitAt w o.2.a h t o.2.v side tu (gwpc st) ∧ rtu st tu) ∧ RLv w o.2.v left ∧ ∀ k, o.2.v.ownBlock = some k → k ≠ o.2.a ∧ k < w.heap.size
def grhas (o : GOp × GRB) (k : Nat) : Prop := match o.1 with
  | .en .. => k = o.2.a
  | .wa .. => k = o.2.a ∨ o.2.v.ownBlock = some k
def GRO (h : Nat) : ObLies (GOp × GRB) where
  at_ := grat h
  has := grhas
  keep := by
    rintro w w' ⟨o, p⟩ S ho hk hn
    cases o with
    | en t s b c dn => exact hk.at ho (hn _ rfl)
    | wa t st side left f =>
      obtain ⟨⟨tu, h1, h2⟩, h3, h4⟩ := (show _ ∧ _ ∧ _ from ho)
      have := hk.size
      exact ⟨⟨tu, hk.at h1 (hn _ (.inl rfl)), h2⟩, h3.keep hk (fun k e => hn k (.inr e)), fun k e => ⟨(h4 k e).1, by have := (h4 k e).2; omega⟩⟩
  lt := by
    rintro w ⟨o, p⟩ k ho hh
    cases o with
    | en t s b c dn =>
      obtain rfl : k = p.a := hh
      exact lt_of_block ho
    | wa t st side left f =>
      obtain ⟨⟨tu, h1, h2⟩, h3, h4⟩ := (show _ ∧ _ ∧ _ from ho)
      rcases hh with e | e
      · subst e; exact lt_of_block h1
      · exact (h4 k e).2
def GRS (h rb B n : Nat) : Lies (List GSl × List Int × List Acc) where
  lie w A s := ∃ G, RGSys w h rb G (B : Int) n (s.1.map GSl.r) s.2.1 s.2.2 ∧ ∀ k, A k ↔ G k ∨ k = h
  keep := fun ⟨G, h1, h2⟩ hk hn => ⟨G, ⟨h1.mem.keep hk (fun k hG => hn k ((h2 k).2 (.inl hG))), h1.eng.keep hk (hn _ ((h2 _).2 (.inr rfl))), h1.fh⟩, h2⟩
  lt := fun ⟨G, h1, h2⟩ k hA => by
    rcases (h2 k).1 hA with e | e
    · exact h1.mem.lt k e
    · rw [e]; exact lt_of_block h1.eng.head
structure GRAt (h rb B n : Nat) (w : World) (A : Nat → Prop) (S : GSt) (bo : List (GOp × GRB)) (F : Nat → Prop) : Prop where
  ob : ObjsB (GRS h rb B n) (GRO h) w A (S.sl, S.ws, S.log) bo F
  ops : S.ops = bo.map Prod.fst
def GRLies (h rb B n : Nat) : Lies (GSt × List (GOp × GRB)) where
  lie w A x := ∃ F, GRAt h rb B n w A x.1 x.2 F
  keep := fun ⟨F, h⟩ hk hn => ⟨F, h.ob.keep hk hn, h.ops⟩
  lt := fun ⟨_, h⟩ k hA => h.ob.lt k hA
section
variable {w w' : World} {h rb B n K : Nat} {F A : Nat → Prop} {S S' : GSt} {bo : List (GOp × GRB)}
theorem GRAt.sys (hh : GRAt h rb B n w A S bo F) : ∃ G, RGSys w h rb G (B : Int) n (S.sl.map GSl.r) S.ws S.log ∧ ∀ k, F k ↔ G k ∨ k = h := hh.ob.sys
/-- The system behind a call. -/
theorem rgs_mk {G G' : Nat → Prop} {sl' : List GSl} {ws' : List Int} {log' : List Acc} (hF : ∀ k, F k ↔ G k ∨ k = h) (hs' : RGSys w' h rb G' (B : Int) n (sl'.map GSl.r) ws' log') (hf : Foot w G G') :
    (GRS h rb B n).lie w' (fun k => G' k ∨ k = h) (sl', ws', log') ∧ Foot w F (fun k => G' k ∨ k = h) :=
  ⟨⟨G', hs', fun _ => Iff.rfl⟩, fun k hk => hk.elim (fun e => (hf k e).elim (fun e => .inl ((hF k).2 (.inl e))) .inr) (fun e => .inl ((hF k).2 (.inr e)))⟩
theorem GRAt.one (hh : GRAt h rb B n w A S bo F) {G G' : Nat → Prop} (hF : ∀ k, F k ↔ G k ∨ k = h) (lh : h < w.heap.size) {i : Nat} {o o' : GOp} {p p' : GRB} (hp : bo[i]? = some (o, p)) (hs' : RGSys w' h rb G' (B : Int) n (S'.sl.map GSl.r) S'.ws S'.log) (ho' : grat h w' (o', p')) (hk : Keep (fun k => F k ∨ grhas (o, p) k) w w') (hf : Foot w G G')
    (hn : ∀ k, grhas (o', p') k → ¬ G' k ∧ (grhas (o, p) k ∨ w.heap.size ≤ k)) (hops : S'.ops = S.ops.set i o') : (GRLies h rb B n).To w A (S', bo.set i (o', p')) w' := by
  have hFn : ∀ k, grhas (o, p) k → ¬ F k := (hh.ob.objs i _ hp).2
  obtain ⟨h1, h2⟩ := rgs_mk hF hs' hf
  have nF : ∀ k, grhas (o', p') k → ¬ (G' k ∨ k = h) := fun k hk' e => by
    rcases e with e | e
    · exact (hn k hk').1 e
    · rcases (hn k hk').2 with e' | e'
      · exact hFn k e' ((hF k).2 (.inr e))
      · omega
  obtain ⟨A', a1, a2, a3⟩ := hh.ob.one (s' := (S'.sl, S'.ws, S'.log)) (o' := (o', p')) hp h1 ho' hk h2 (fun k hk' => ⟨nF k hk', (hn k hk').2⟩)
  exact ⟨A', ⟨_, a1, by rw [hops, hh.ops, map_fst_set]⟩, a2, a3⟩
theorem GRAt.same (hh : GRAt h rb B n w A S bo F) (hk : Keep Nil w w') : (GRLies h rb B n).To w A (S, bo) w' := by
  obtain ⟨A', h1, h2, h3⟩ := hh.ob.same hk
  exact ⟨A', ⟨F, h1, hh.ops⟩, h2, h3⟩
def GOp.rstep : GOp → FuncId
  | .en .. => 104
  | .wa .. => 107
def GOp.rnext : GOp → FuncId
  | .en .. => 103
  | .wa .. => 105
theorem grnext (hh : GRAt h rb B n w A S bo F) {i : Nat} {o : GOp} {p : GRB} (hp : bo[i]? = some (o, p)) :
    Calls Try.prog (GOp.rnext o) #[rptr p.a] w fun e w' => e = .returned (.int .u8 (GOp.pc o)) ∧ w = w' := by
  have ho := (hh.ob.objs i _ hp).1
  cases o with
  | en t s b c dn => exact rgent_next ho
  | wa t st side left f =>
    obtain ⟨⟨tu, h1, h2⟩, -⟩ := (show _ ∧ _ ∧ _ from ho)
    exact rgwnext h1
theorem map_ra_set {bo : List (GOp × GRB)} {i : Nat} {o o' : GOp} {p p' : GRB} (hp : bo[i]? = some (o, p)) (ha : p'.a = p.a) : (bo.set i (o', p')).map (fun o => o.2.a) = bo.map (fun o => o.2.a) := by
  rw [List.map_set]
  exact set_eq (by simp [hp, ha])
/-- A wait has turned, and its slice is as it was. -/
theorem GRAt.wone (hh : GRAt h rb B n w A S bo F) {G : Nat → Prop} (hs : RGSys w h rb G (B : Int) n (S.sl.map GSl.r) S.ws S.log) (hF : ∀ k, F k ↔ G k ∨ k = h) {i : Nat} {t : Int} {st side f st' side' f' : Nat} {left left' : List Nat} {p : GRB} (hp : bo[i]? = some (.wa t st side left f, p)) {ws' : List Int} {log' : List Acc} {lv' : Value} {tu' : Bool}
    (hq : RGWStTo w h rb G (B : Int) n (S.sl.map GSl.r) ws' log' p.a t lv' side' tu' (gwpc st') w') (htu : rtu st' tu') (hlv : RLv w lv' left') (how : ∀ k, lv'.ownBlock = some k → p.v.ownBlock = some k) :
    (GRLies h rb B n).To w A (⟨S.sl, ws', log', S.ops.set i (.wa t st' side' left' f')⟩, bo.set i (.wa t st' side' left' f', ⟨p.a, lv'⟩)) w' := by
  obtain ⟨hat, hFn⟩ := hh.ob.objs i _ hp
  obtain ⟨⟨tu, h1, h2⟩, h3, h4⟩ := (show _ ∧ _ ∧ _ from hat)
  obtain ⟨G', q1, q2, q3, q4, q5⟩ := hq
  have nF : ∀ k, grhas (.wa t st side left f, p) k → ¬ F k := hFn
  have hz := q3.size
  have nG : ∀ k, grhas (.wa t st side left f, p) k → k < w.heap.size → ¬ G' k := fun k hk hl e => (q4 k e).elim (fun e => nF k hk ((hF k).2 (.inl e))) (fun e => by omega)
  refine hh.one (S' := ⟨S.sl, ws', log', S.ops.set i (.wa t st' side' left' f')⟩) hF (lt_of_block hs.eng.head) hp q1 ⟨⟨tu', q2, htu⟩, hlv.keep q3 (fun k hk e => ?_), fun k hk => ⟨(h4 k (how k hk)).1, by have := (h4 k (how k hk)).2; omega⟩⟩ (q3.mono fun k _ e => e.elim (fun e => .inl ((hF k).2 (.inl e))) (fun e => .inr (.inl e))) q4 (fun k hk => ?_) rfl
  · have hk' := how k hk
    rcases e with e | e
    · exact nF k (.inr hk') ((hF k).2 (.inl e))
    · exact (h4 k hk').1 e
  · rcases hk with e | e
    · exact ⟨by rw [show k = p.a from e]; exact q5, .inl (.inl e)⟩
    · exact ⟨nG k (.inr (how k e)) (h4 k (how k e)).2, .inl (.inr (how k e))⟩
theorem grstep_any (hh : GRAt h rb B n w A S bo F) (hok : S.ok B n K) (hB : B ≤ 20) (hn : n ≤ 9) (hK : K ≤ 10000) {i : Nat} {o : GOp} {p : GRB} (hp : bo[i]? = some (o, p)) {pc : Int} {d : Bool} (hst : Go.Lf.GStep B S i S' pc d) :
    Calls Try.prog (GOp.rstep o) #[rptr p.a] w fun e w' => ∃ bo', (e = .returned (.tuple #[.int .u8 pc, .bool d]) ∧ bo'.map (fun o => o.2.a) = bo.map (fun o => o.2.a)) ∧ (GRLies h rb B n).To w A (S', bo') w' := by
  have ll := hok.llog
  have lw := hok.lw
  have hoi : S.ops[i]? = some o := by rw [hh.ops]; simp [hp]
  obtain ⟨hat, hF0⟩ := hh.ob.objs i _ hp
  have hFn : ∀ k, grhas (o, p) k → ¬ F k := hF0
  have hoo := hok.ops i o hoi
  obtain ⟨G, hs, hF⟩ := hh.sys
  have hG : ∀ k, grhas (o, p) k → ¬ G k := fun k hk e => hFn k hk ((hF k).2 (.inl e))
  have lh := lt_of_block hs.eng.head
  cases hst with
  | @choose t s b x y h1 hy hx =>
    rw [hoi] at h1; obtain rfl := Option.some.inj h1
    obtain ⟨t0, t1, s1, b1, hc, -, hl⟩ := hoo
    obtain ⟨y', hy', y1, y2, y3, -⟩ := hl rfl
    rw [hy] at hy'; obtain rfl := Option.some.inj hy'
    subst y3
    refine (rgent_gate hs (show RGEntAt w p.a h t s 15 from hat) (hG _ rfl) (r_at hy) x t0 t1 (show y.b < 1000 by omega) (by omega) (by omega) (by rw [show ((B : Int) + 4 * ((y.r.b : Nat) : Int)).toNat = B + 4 * y.b by show ((B : Int) + 4 * (y.b : Int)).toNat = _; omega]; exact hx) (by omega)).mono ?_
    rintro e w' ⟨rfl, G', q1, q2, q3, q4, q5⟩
    refine ⟨_, ⟨rfl, map_ra_set (p' := p) hp rfl⟩, hh.one hF lh hp ?_ (show grat h w' (.en t s y.b (some x) false, p) from q2) (q3.mono fun k _ e => ?_) q4 (fun k hk => ⟨by rw [show k = p.a from hk]; exact q5, .inl hk⟩) rfl⟩
    · show RGSys w' h rb G' (B : Int) n ((S.sl.set s ⟨2, y.b, x, i⟩).map GSl.r) S.ws _
      rw [r_set]
      have : (⟨2, y.b, x, i⟩ : GSl).r = ⟨y.r.bg, y.r.th, y.r.b, x⟩ := by simp [GSl.r, y2, gph]
      rw [this]; exact q1
    · rcases e with e | e | e
      · exact .inl ((hF k).2 (.inl e))
      · exact .inl ((hF k).2 (.inr e))
      · exact .inr e
  | @count t s b c x y h1 hy hx =>
    rw [hoi] at h1; obtain rfl := Option.some.inj h1
    obtain ⟨t0, t1, s1, b1, hc, -, hl⟩ := hoo
    obtain ⟨y', hy', y1, y2, y3, y4⟩ := hl rfl
    rw [hy] at hy'; obtain rfl := Option.some.inj hy'
    subst y3
    obtain rfl := y4 c rfl
    have hc2 := hc y.sd rfl
    refine (rgent_count hs (show RGEntAt w p.a h t s 16 from hat) (hG _ rfl) (r_at hy) x t0 t1 (show y.b < 1000 by omega) hc2 (by omega) (by omega) (by rw [show ((B : Int) + 4 * ((y.r.b : Nat) : Int) + 1 + ((y.r.sd : Nat) : Int)).toNat = B + 4 * y.b + 1 + y.sd by show ((B : Int) + 4 * (y.b : Int) + 1 + (y.sd : Int)).toNat = _; omega]; exact hx) (by omega)).mono ?_
    rintro e w' ⟨rfl, G', q1, q2, q3, q4, q5⟩
    refine ⟨_, ⟨rfl, map_ra_set (p' := p) hp rfl⟩, hh.one hF lh hp ?_ (show grat h w' (.en t s y.b (some y.sd) true, p) from q2) (q3.mono fun k _ e => ?_) q4 (fun k hk => ⟨by rw [show k = p.a from hk]; exact q5, .inl hk⟩) rfl⟩
    · show RGSys w' h rb G' (B : Int) n ((S.sl.set s ⟨3, y.b, y.sd, i⟩).map GSl.r) (S.ws.set (B + 4 * y.b + 1 + y.sd) _) _
      rw [r_set]
      have : (⟨3, y.b, y.sd, i⟩ : GSl).r = ⟨y.r.bg, true, y.r.b, y.r.sd⟩ := by simp [GSl.r, y2, gph]
      rw [this, show B + 4 * y.b + 1 + y.sd = ((B : Int) + 4 * (y.r.b : Int) + 1 + (y.r.sd : Int)).toNat by show _ = ((B : Int) + 4 * (y.b : Int) + 1 + (y.sd : Int)).toNat; omega]
      exact q1
    · rcases e with e | e | e
      · exact .inl ((hF k).2 (.inl e))
      · exact .inl ((hF k).2 (.inr e))
      · exact .inr e
  | @idle t s b c h1 =>
    rw [hoi] at h1; obtain rfl := Option.some.inj h1
    refine (rgent_idle (show RGEntAt w p.a h t s 0 from hat)).mono ?_
    rintro e w' ⟨rfl, rfl⟩
    exact ⟨bo, ⟨rfl, rfl⟩, hh.same (Keep.refl _ _)⟩
  | @over t side f left h1 =>
    rw [hoi] at h1; obtain rfl := Option.some.inj h1
    obtain ⟨⟨tu, h1, -⟩, -⟩ := (show _ ∧ _ ∧ _ from hat)
    refine (rgwstep_over h1).mono ?_
    rintro e w' ⟨rfl, rfl⟩
    exact ⟨bo, ⟨rfl, rfl⟩, hh.same (Keep.refl _ _)⟩
  | @wait t st side f st' side' f' left left' ws' a h1 hw =>
    rw [hoi] at h1; obtain rfl := Option.some.inj h1
    obtain ⟨t0, t1, h6, hsd, hl, hle, hf⟩ := hoo
    obtain ⟨⟨tu, hwt, htu⟩, hlv, hown⟩ := (show _ ∧ _ ∧ _ from hat)
    obtain ⟨b, rest, rfl⟩ : ∃ b rest, left = b :: rest := by cases hw <;> exact ⟨_, _, rfl⟩
    have hbn := hl b (List.mem_cons_self ..)
    have hgp := hG p.a (.inl rfl)
    have e0 : ((B : Int) + 4 * (b : Int)).toNat = B + 4 * b := by omega
    have e3 : ((B : Int) + 4 * (b : Int) + 3).toNat = B + 4 * b + 3 := by omega
    cases hw with
    | @lock _ _ _ _ hx =>
      refine (rgw_lock hs hwt hgp hlv hsd (by omega) t0 t1 (by omega) (by omega) (by rw [e3]; exact hx) (by omega)).mono ?_
      rintro e w' ⟨rfl, hq⟩
      rw [e3] at hq
      exact ⟨_, ⟨rfl, map_ra_set (p' := ⟨p.a, p.v⟩) hp rfl⟩, hh.wone hs hF hp hq ⟨fun _ => rfl, fun h => by omega⟩ hlv (fun _ h => h)⟩
    | @busy _ _ _ _ x hx hne =>
      refine (rgw_busy hs hwt hgp hlv hsd (by omega) t0 t1 (by omega) (by omega) x (by rw [e3]; exact hx) hne (by omega)).mono ?_
      rintro e w' ⟨rfl, hq⟩
      exact ⟨_, ⟨rfl, map_ra_set (p' := ⟨p.a, p.v⟩) hp rfl⟩, hh.wone hs hF hp hq htu hlv (fun _ h => h)⟩
    | @look _ _ _ _ _ hx =>
      refine (rgw_look hs hwt hgp hlv hsd (by omega) t0 t1 (by omega) (by omega) side' (by rw [e0]; exact hx) (by omega)).mono ?_
      rintro e w' ⟨rfl, hq⟩
      exact ⟨_, ⟨rfl, map_ra_set (p' := ⟨p.a, p.v⟩) hp rfl⟩, hh.wone hs hF hp hq ⟨fun _ => htu.1 (by omega), fun h => by omega⟩ hlv (fun _ h => h)⟩
    | @other _ _ _ _ x hx =>
      obtain rfl := htu.1 (by omega)
      have ea : (B : Int) + 4 * (b : Int) + 1 + (1 - (side : Int)) = (B : Int) + 4 * b + 1 + ((side + 1) % 2 : Nat) := by omega
      have et : ((B : Int) + 4 * (b : Int) + 1 + (1 - (side : Int))).toNat = B + 4 * b + 1 + (side + 1) % 2 := by omega
      by_cases hz : x = 0
      · have hc := rgw_other_yes hs hwt hgp hlv hsd (by omega) t0 t1 (by omega) (by omega) x (by rw [et]; exact hx) hz (by omega)
        rw [ea] at hc
        simp only [if_pos hz]
        refine hc.mono ?_
        rintro e w' ⟨rfl, hq⟩
        exact ⟨_, ⟨rfl, map_ra_set (p' := ⟨p.a, p.v⟩) hp rfl⟩, hh.wone hs hF hp hq ⟨fun _ => rfl, fun h => by omega⟩ hlv (fun _ h => h)⟩
      · have hc := rgw_other_no hs hwt hgp hlv hsd (by omega) t0 t1 (by omega) (by omega) x (by rw [et]; exact hx) hz (by omega)
        rw [ea] at hc
        simp only [if_neg hz]
        refine hc.mono ?_
        rintro e w' ⟨rfl, hq⟩
        exact ⟨_, ⟨rfl, map_ra_set (p' := ⟨p.a, p.v⟩) hp rfl⟩, hh.wone hs hF hp hq ⟨fun _ => rfl, fun h => by omega⟩ hlv (fun _ h => h)⟩
    | @flip _ _ _ _ x hx =>
      obtain rfl := htu.1 (by omega)
      have ev : (1 - (side : Int)) = ((1 - side % 2 : Nat) : Int) := by omega
      have hc := rgw_flip hs hwt hgp hlv hsd (by omega) t0 t1 (by omega) (by omega) x (by rw [e0]; exact hx) (by omega)
      rw [ev, e0] at hc
      refine hc.mono ?_
      rintro e w' ⟨rfl, hq⟩
      exact ⟨_, ⟨rfl, map_ra_set (p' := ⟨p.a, p.v⟩) hp rfl⟩, hh.wone hs hF hp hq ⟨fun h => by omega, fun _ => rfl⟩ hlv (fun _ h => h)⟩
    | @drain _ _ _ _ x hx =>
      obtain rfl := htu.2 (by omega)
      have ea : (B : Int) + 4 * (b : Int) + 1 + (side : Int) = (B : Int) + 4 * b + 1 + (side % 2 : Nat) := by omega
      have et : ((B : Int) + 4 * (b : Int) + 1 + (side : Int)).toNat = B + 4 * b + 1 + side % 2 := by omega
      by_cases hz : x = 0
      · have hc := rgw_drain_yes hs hwt hgp hlv hsd (by omega) t0 t1 (by omega) (by omega) x (by rw [et]; exact hx) hz (by omega)
        rw [ea] at hc
        simp only [if_pos hz]
        refine hc.mono ?_
        rintro e w' ⟨rfl, hq⟩
        exact ⟨_, ⟨rfl, map_ra_set (p' := ⟨p.a, p.v⟩) hp rfl⟩, hh.wone hs hF hp hq ⟨fun h => by omega, fun _ => rfl⟩ hlv (fun _ h => h)⟩
      · have hc := rgw_drain_no hs hwt hgp hlv hsd (by omega) t0 t1 (by omega) (by omega) x (by rw [et]; exact hx) hz (by omega)
        rw [ea] at hc
        simp only [if_neg hz]
        refine hc.mono ?_
        rintro e w' ⟨rfl, hq⟩
        exact ⟨_, ⟨rfl, map_ra_set (p' := ⟨p.a, p.v⟩) hp rfl⟩, hh.wone hs hF hp hq ⟨fun h => by omega, fun _ => rfl⟩ hlv (fun _ h => h)⟩
    | @unlock _ _ _ _ hx =>
      have hc := rgw_unlock hs hwt hgp hlv hsd (by omega) t0 t1 (by omega) (by omega) (by rw [e3]; exact hx) (by omega)
      rw [e3] at hc
      refine hc.mono ?_
      rintro e w' ⟨rfl, lv', hq, h1, h2⟩
      refine ⟨_, ⟨?_, map_ra_set (p' := ⟨p.a, lv'⟩) hp rfl⟩, hh.wone hs hF hp (st' := if left' = [] then 6 else 0) (tu' := tu) ?_ ⟨fun h => ?_, fun h => ?_⟩ h1 h2⟩
      · rw [show gwpc 5 = 3 from rfl]
        by_cases e : left' = [] <;> simp [e]
      · by_cases e : left' = []
        · rw [if_pos e] at hq ⊢; exact hq
        · rw [if_neg e] at hq ⊢; exact hq
      · split at h <;> omega
      · split at h <;> omega

/-! Beginnings and exits. -/
theorem grenter_ok (hh : GRAt h rb B n w A S bo F) (hok : S.ok B n K) (hn0 : 1 ≤ n) (hn : n ≤ 9) {t : Int} {s v : Nat} {x : GSl} (t0 : 0 ≤ t) (t1 : t < 64) (hv : v < 64) (hx : S.sl[s]? = some x) (hp : x.ph = 0) :
    Calls Try.prog 59 #[rptr h, .int .i64 t, .int .i64 s, .int .i64 v] w fun e w' => ∃ p, e = .returned (.tuple #[rptr p.a, .int .i64 0]) ∧ (GRLies h rb B n).To w A (S.begun t s (v % n) x, bo ++ [(.en t s (v % n) none false, p)]) w' := by
  obtain ⟨G, hs, hF⟩ := hh.sys
  have hs64 : s < 64 := by have := (List.getElem?_eq_some_iff.1 hx).1; have := hok.ls; omega
  have hr : x.r = ⟨false, false, x.b, x.sd⟩ := by simp [GSl.r, hp]
  have hxr := r_at hx
  rw [hr] at hxr
  refine (rgenter_ok hs.eng t v hxr (by unfold gckE; rw [if_neg (by omega), if_neg (by omega), if_neg (by omega)]; rfl) hn0 (by omega) hv).mono ?_
  rintro e w' ⟨eb, rfl, q1, q2, q3, q4⟩
  have nG : ¬ G eb := fun e => by have := hs.mem.lt _ e; omega
  have nh : eb ≠ h := by have := lt_of_block hs.eng.head; omega
  have hs' : RGSys w' h rb G (B : Int) n ((S.begun t s (v % n) x).sl.map GSl.r) S.ws S.log := ⟨hs.mem.keep q3 (fun k hk e => hs.fh (e ▸ hk)), by
    show RGEngAt _ _ _ _ _ ((S.sl.set s ⟨1, v % n, x.sd, S.ops.length⟩).map GSl.r)
    rw [r_set]; exact q1, hs.fh⟩
  obtain ⟨h1, h2⟩ := rgs_mk (w := w) (F := F) hF hs' (fun k hk => .inl hk)
  obtain ⟨A', a1, a2, a3⟩ := hh.ob.new (s' := ((S.begun t s (v % n) x).sl, S.ws, S.log)) (o := (.en t s (v % n) none false, ⟨eb, .nilFunc⟩)) h1 q2 (q3.mono fun k _ e => (hF k).2 (.inr e)) h2 (fun k hk => by
    obtain rfl : k = eb := hk
    exact ⟨fun e => e.elim nG nh, q4⟩)
  exact ⟨⟨eb, .nilFunc⟩, rfl, A', ⟨_, a1, by show S.ops ++ _ = _; rw [hh.ops]; simp⟩, a2, a3⟩
theorem grwait_ok (hh : GRAt h rb B n w A S bo F) (hn0 : 1 ≤ n) (hn : n ≤ 9) {t : Int} {set : Nat} (t0 : 0 ≤ t) (t1 : t < 64) (s0 : set ≠ 0) (s1 : set < 18446744073709551616) (hne : bkts set n ≠ []) :
    Calls Try.prog 61 #[rptr h, .int .i64 t, .int .u64 set] w fun e w' => ∃ p, e = .returned (.tuple #[rptr p.a, .int .i64 0]) ∧ (GRLies h rb B n).To w A (S.waits t (bkts set n), bo ++ [(.wa t 0 0 (bkts set n) 0, p)]) w' := by
  obtain ⟨G, hs, hF⟩ := hh.sys
  refine (rgwait_ok hs.eng t set t0 t1 s0 s1 hn0 (by omega) hne).mono ?_
  rintro e w' ⟨wb, lv, rfl, q1, q2, q3, q4, q5⟩
  have hz := lt_of_block hs.eng.head
  have hw := lt_of_block q1
  have hs' : RGSys w' h rb G (B : Int) n (S.sl.map GSl.r) S.ws S.log := hs.quiet q3
  obtain ⟨h1, h2⟩ := rgs_mk (w := w) (F := F) hF hs' (fun k hk => .inl hk)
  obtain ⟨A', a1, a2, a3⟩ := hh.ob.new (s' := (S.sl, S.ws, S.log)) (o := (.wa t 0 0 (bkts set n) 0, ⟨wb, lv⟩)) h1 ⟨⟨false, q1, fun _ => rfl, fun h => by omega⟩, q2, fun k hk => ⟨by have := (q5 k hk).2; show k ≠ wb; omega, by have := (q5 k hk).2; omega⟩⟩ (q3.mono fun k _ e => e.elim) h2 (fun k hk => by
    have hge : w.heap.size ≤ k := by
      rcases hk with e | e
      · rw [show k = wb from e]; exact q4
      · exact (q5 k e).1
    exact ⟨fun e => e.elim (fun e => by have := hs.mem.lt _ e; omega) (fun e => by omega), hge⟩)
  exact ⟨⟨wb, lv⟩, rfl, A', ⟨_, a1, by show S.ops ++ _ = _; rw [hh.ops]; simp⟩, a2, a3⟩
theorem grexit_ok (hh : GRAt h rb B n w A S bo F) (hok : S.ok B n K) (hB : B ≤ 20) (hn : n ≤ 9) (hK : K ≤ 10000) {t : Int} {s : Nat} {x : GSl} {y : Int} (t0 : 0 ≤ t) (t1 : t < 64) (hx : S.sl[s]? = some x) (hp : x.ph = 3) (hy : S.ws[B + 4 * x.b + 1 + x.sd]? = some y) :
    Calls Try.prog 60 #[rptr h, .int .i64 t, .int .i64 s] w fun e w' => e = .returned (.tuple #[.int .u8 16, .int .i64 0]) ∧ (GRLies h rb B n).To w A (S.left B t s x y, bo) w' := by
  obtain ⟨G, hs, hF⟩ := hh.sys
  have ll := hok.llog
  obtain ⟨z1, z2, z3, z4⟩ := hok.sls s x hx
  have hr : x.r = ⟨true, true, x.b, x.sd⟩ := by simp [GSl.r, hp]
  have hxr := r_at hx
  rw [hr] at hxr
  have et : ((B : Int) + 4 * (x.b : Int) + 1 + (x.sd : Int)).toNat = B + 4 * x.b + 1 + x.sd := by omega
  have hc := rgexit_ok hs hxr rfl y t0 t1 (by show x.b < 1000; omega) z3 (by omega) (by omega) (by show S.ws[((B : Int) + 4 * (x.b : Int) + 1 + (x.sd : Int)).toNat]? = _; rw [et]; exact hy) (by omega)
  simp only [et] at hc
  refine hc.mono ?_
  rintro e w' ⟨rfl, G', q1, q2, q3⟩
  have hs' : RGSys w' h rb G' (B : Int) n ((S.left B t s x y).sl.map GSl.r) (S.left B t s x y).ws (S.left B t s x y).log := by
    show RGSys w' h rb G' (B : Int) n ((S.sl.set s ⟨0, x.b, x.sd, x.ow⟩).map GSl.r) _ _
    rw [r_set]; exact q1
  obtain ⟨h1, h2⟩ := rgs_mk (w := w) (F := F) hF hs' q3
  obtain ⟨A', a1, a2, a3⟩ := hh.ob.none (s' := ((S.left B t s x y).sl, (S.left B t s x y).ws, (S.left B t s x y).log)) h1 (q2.mono fun k _ e => (hF k).2 e) h2
  exact ⟨rfl, A', ⟨_, a1, hh.ops⟩, a2, a3⟩
theorem gropen (hh : GRAt h rb B n w A S bo F) : Calls Try.prog 64 #[rptr h] w (NumsTo w (ropenTo (gIn S) 64)) := by
  obtain ⟨G, hs, hF⟩ := hh.sys
  refine rgopen_ok hs.eng _ (fun k x hx => ?_)
  simp only [List.getElem?_map, Option.map_eq_some_iff] at hx
  obtain ⟨y, hy, rfl⟩ := hx
  unfold gIn
  rw [hy]; rfl
end
end Go.Proofs.Ytihgfklajhhikaa
