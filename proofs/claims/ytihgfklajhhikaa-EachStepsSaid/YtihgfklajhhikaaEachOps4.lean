/- each: the steps of a wait: contracts. -/
import Derived.Test.YtihgfklajhhikaaEachOps3
namespace Go.Proofs.Ytihgfklajhhikaa
open Go.RowKit Go.Lf
section
variable {w : World} {g sb cb mb : Nat} {F : Nat → Prop} {base : Int} {sl : List (Int × Bool)} {ws : List Int} {log : List Acc} {wb : Nat} {t : Int} {s : EWS}

theorem emark_set {set : Int} (hL : EWaitAt w wb g t set s) (hG : EEngAt w g sb cb mb base sl) (k : Nat) : EWaitAt (w.setCell ⟨wb, 5, none⟩ (.int .i64 k)) wb g t set ⟨s.pos, k, s.seen⟩ ∧ EEngAt (w.setCell ⟨wb, 5, none⟩ (.int .i64 k)) g sb cb mb base sl ∧ Keep (fun k => k = wb) w (w.setCell ⟨wb, 5, none⟩ (.int .i64 k)) := by
  have kW : Keep (fun k => k = wb) w (w.setCell ⟨wb, 5, none⟩ (.int .i64 k)) := Keep.setCell (Keep.refl (fun k => k = wb) w) (.inl rfl) _
  have e1 : wb ≠ g := type_ne hL hG.head (by decide)
  have e2 : wb ≠ sb := type_ne hL hG.slots (by decide)
  have e3 : wb ≠ cb := type_ne hL hG.cap (by decide)
  exact ⟨set_same hL _, hG.keep kW (fun e => e1 e.symm) (fun e => e2 e.symm) (fun e => e3 e.symm), kW⟩
set_option maxRecDepth 100000 in
set_option maxHeartbeats 8000000 in
theorem ewmark_do {sn : Nat} (hsn : sn < 18446744073709551616) (h : ESys w g sb cb mb F base sl ws log) (hw : EWaitAt w wb g t (sn : Int) s) (hF : ¬ F wb) (hp : s.pos < 1000000) (hst : s.st = 1) (u : Nat) (hu : u < 64) (t0 : 0 ≤ t) (t1 : t < 64) (b0 : 0 ≤ base) (b1 : base < 1000000) (hx : ws[(base + 2 * s.pos + 1).toNat]? = some (u : Int)) (hlog : log.length < 1000000000000) :
    Calls Try.prog 76 #[.pointer (some ⟨wb, 0, none⟩)] w fun e w' => e = .returned (.int .u8 18) ∧ EWDoTo w g sb cb mb F base sl ws (log ++ [⟨t, base + 2 * s.pos + 1, 1, u, u, false⟩]) wb t sn (s.step sl.length sn u) w' := by
  obtain ⟨c0, c1, c2, c3, c4, c5⟩ := hw.cells
  obtain ⟨k0, k1, k2, k3⟩ := h.eng.cells
  have hw2 : IntKind.i64.wrap (base + 2 * s.pos + 1) = base + 2 * s.pos + 1 := by rw [IntKind.wrap_i64]; omega
  have hw3 : IntKind.i64.wrap (u : Int) = u := by rw [IntKind.wrap_i64]; omega
  have H := hid h
  have HW := hid hw
  have HF := hid hF
  have HX := hid hx
  have KD := hid ((Keep.refl Nil w).drew)
  have K3 := hid k3
  have HST := hid hst
  have HS := hid (s.step_cases (sn : Int) (u : Int) sl.length)
  obtain ⟨s', hs'⟩ : ∃ s', s' = s.step sl.length (sn : Int) (u : Int) := ⟨_, rfl⟩
  rw [← hs'] at HS ⊢
  clear h hw hF hx hst hs' k1 c2 c5 k3 c4
  go_enter Try.func76, Try.ntmps76
  go_wp2
  go_region_held3 (fun w' => w'.cell? ⟨wb, 0, none⟩ = some (.pointer (some ⟨g, 0, none⟩)) ∧ w'.cell? ⟨wb, 1, none⟩ = some (.int .i64 t) ∧ w'.cell? ⟨wb, 3, none⟩ = some (.int .i64 s.pos) ∧ w'.cell? ⟨g, 0, none⟩ = some (.pointer (some ⟨mb, 0, none⟩)) ∧ w'.cell? ⟨g, 2, none⟩ = some (.func (.func 68) #[] #[.pointer (some ⟨cb, 0, none⟩)])) (go_keep)
    (first
      | (go_at_call 68; (with_reducible refine (eat_ok (KD.out.cell K3.out (fun h => h)) b0 b1 s.pos hp).mono ?_); rintro e w1 ⟨rfl, rfl⟩)
      | (go_at_call 95; (with_reducible refine (load_ok (H.out.mem.keep KD.out (fun _ _ h => h)) t (base + 2 * s.pos + 1) u t0 t1 (by omega) HX.out hlog).mono ?_); rintro e w1 ⟨rfl, F1, hm1, hk1, hf1⟩; have hL1 : EWaitAt w1 wb g t sn s := hk1.at (KD.out.at HW.out (fun h => h)) HF.out; have hG1 := (H.out.eng.quiet KD.out).keep hk1 H.out.f1 H.out.f2 H.out.f3; obtain ⟨d0, d1, d2, d3, d4, d5⟩ := hL1.cells; obtain ⟨m0, m1, m2, m3⟩ := hG1.cells; have zf : w1.frozen? ⟨wb, 5, none⟩ = false := free_of hL1 5; have M1 := hid hm1; have K1 := hid hk1; have F1' := hid hf1; have L1 := hid hL1; have G1 := hid hG1; clear hm1 hk1 hf1 hL1 hG1 m1 m3))
  obtain ⟨aW, gW, kW⟩ := emark_set L1.out G1.out 2
  obtain ⟨W, hW⟩ : ∃ W, W = w1.setCell ⟨wb, 5, none⟩ (.int .i64 ((2 : Nat) : Int)) := ⟨_, rfl⟩
  rw [← hW] at aW gW kW
  have hW2 : W = w1.setCell ⟨wb, 5, none⟩ (.int .i64 2) := hW
  have AW := hid aW
  have GW := hid gW
  have KW := hid kW
  clear aW gW kW hW d0 d1 d2 d3 d4 m0 m2
  have kA : Keep Nil W (W.alloc (.cells #[.int .i64 u] 3)) := (Keep.refl Nil W).alloc _
  have nA : (W.alloc (.cells #[.int .i64 u] 3)).cell? ⟨W.heap.size, 0, none⟩ = some (.int .i64 u) := by rw [cell_of (heap_alloc_new W _)]; rfl
  have HE := hid (eset_one W.heap.size u hu nA)
  have zW : W.heap.size = w1.heap.size := by rw [hW2]; simp
  have hA := (show EWaitAt (W.alloc (.cells #[.int .i64 u] 3)) wb g t sn ⟨s.pos, 2, s.seen⟩ from kA.at AW.out (fun h => h)).cells
  have q2 := hA.2.2.1
  have hand := and_one hu hsn
  have AA := hid (show EWaitAt (W.alloc (.cells #[.int .i64 u] 3)) wb g t sn ⟨s.pos, 2, s.seen⟩ from kA.at AW.out (fun h => h))
  have GA := hid (GW.out.quiet kA)
  have KA := hid (KW.out.trans kA (fun _ _ h => h.elim))
  clear kA nA hA
  rw [zW, hW2] at HE
  rw [hW2] at q2 AA GA KA
  have HC := hid (conc_nat sn u hu)
  clear zW hW2 AW GW KW
  go_wp2_with fail
  refine HE.out.mono ?_
  rintro e w3 ⟨rfl, rfl⟩
  by_cases hb : sn.testBit u = true
  · have hand2 : (Go.bits .and .u64 (2 ^ u : Int) (sn : Int) == 0) = false := by rw [hand, hb]; rfl
    have hs1 : s' = ⟨s.pos, 2, s.seen⟩ := by
      rcases HS.out with ⟨a, -⟩ | ⟨a, -⟩ | ⟨-, -, c⟩ | ⟨-, b, -⟩ | ⟨a, -⟩ | ⟨a, -⟩
      · have := HST.out; omega
      · have := HST.out; omega
      · exact c
      · rw [HC.out, hb] at b; cases b
      · have := HST.out; omega
      · have := HST.out; omega
    have HS1 := hid hs1
    clear hs1 hb hand
    go_wp2
    go_ret
    rw [HS1.out]
    exact ⟨rfl, ewdo_mk H.out HW.out HF.out M1.out K1.out F1'.out AA.out KA.out⟩
  · have hb' : sn.testBit u = false := by simpa using hb
    have hand2 : (Go.bits .and .u64 (2 ^ u : Int) (sn : Int) == 0) = true := by rw [hand, hb']; rfl
    have hs1 : s' = EWS.next sl.length ⟨s.pos, 2, s.seen⟩ := by
      rcases HS.out with ⟨a, -⟩ | ⟨a, -⟩ | ⟨-, b, -⟩ | ⟨-, -, c⟩ | ⟨a, -⟩ | ⟨a, -⟩
      · have := HST.out; omega
      · have := HST.out; omega
      · rw [HC.out, hb'] at b; cases b
      · exact c
      · have := HST.out; omega
      · have := HST.out; omega
    have HS1 := hid hs1
    clear hs1 hb hb' hand
    go_wp2_with fail
    refine (ewnext_do GA.out AA.out hp).mono ?_
    rintro e w4 ⟨rfl, hl2, hk2⟩
    have L2 := hid hl2
    have K2 := hid hk2
    clear hl2 hk2
    go_wp2
    go_ret
    rw [HS1.out]
    exact ⟨rfl, ewdo_mk H.out HW.out HF.out M1.out K1.out F1'.out L2.out (KA.out.trans K2.out (fun _ _ h => h))⟩

/-- What a wait's next step does. -/
def ewpc (k : Nat) : Int := if k = 0 then 17 else if k = 1 then 18 else if k = 2 then 17 else 0
set_option maxRecDepth 100000 in
set_option maxHeartbeats 4000000 in
theorem ewstep_of {log' : List Acc} {set : Int} {s' : EWS} (hw : EWaitAt w wb g t set s) (h3 : s.st < 3)
    (hd : ∀ w1, Keep Nil w w1 → Calls Try.prog (if s.st = 0 then 75 else if s.st = 1 then 76 else 77) #[.pointer (some ⟨wb, 0, none⟩)] w1 fun e w' => e = .returned (.int .u8 (ewpc s.st)) ∧ EWDoTo w1 g sb cb mb F base sl ws log' wb t set s' w') :
    Calls Try.prog 38 #[.pointer (some ⟨wb, 0, none⟩)] w (EWStepTo w g sb cb mb F base sl ws log' wb t set (ewpc s.st) s') := by
  have c5 := hw.cells.2.2.2.2.2
  have lw := lt_of_block hw
  have HD := hid (hd _ ((Keep.refl Nil w).alloc (.cells #[.func (.func 75) #[] #[], .func (.func 76) #[] #[], .func (.func 77) #[] #[]] 180)))
  clear hw hd
  have : s.st = 0 ∨ s.st = 1 ∨ s.st = 2 := by omega
  clear h3
  obtain ⟨pos, st, seen⟩ := s
  simp only at this c5 HD ⊢
  rcases this with rfl | rfl | rfl
  all_goals
    simp only [ewpc] at HD ⊢
    simp only [reduceIte, reduceCtorEq, Nat.one_ne_zero] at HD ⊢
    go_enter Try.func38, Try.ntmps38
    go_wp2_with fail
    refine HD.out.mono ?_
    rintro e w2 ⟨rfl, hq⟩
    have HQ := hid (hq.quiet ((Keep.refl Nil w).alloc _) (Keep.refl Nil w2))
    obtain ⟨F2, -, hw2, -, -, -⟩ := hq
    have d5 := hw2.cells.2.2.2.2.2
    have hbe : ((s'.st : Int) == 3) = (s'.st == 3) := by
      rw [Bool.eq_iff_iff, beq_iff_eq, beq_iff_eq]; omega
    clear hw2 HD c5
    go_wp2
    go_quiet (fail)
    go_wp2
    go_ret2
    exact ⟨rfl, HQ.out.quiet (Keep.refl Nil w) ((Keep.refl Nil w2).drewN nq)⟩

/-- A step of a wait. -/
theorem ewait_step {sn : Nat} (hsn : sn < 18446744073709551616) (h : ESys w g sb cb mb F base sl ws log) (hw : EWaitAt w wb g t (sn : Int) s) (hF : ¬ F wb) (hp : s.pos < 1000000) (hst : s.st < 3) (x : Int) (x0 : 0 ≤ x) (x1 : s.st = 1 → x < 64) (t0 : 0 ≤ t) (t1 : t < 64) (b0 : 0 ≤ base) (b1 : base < 1000000) (hx : ws[(base + s.addr).toNat]? = some x) (hlog : log.length < 1000000000000) :
    Calls Try.prog 38 #[.pointer (some ⟨wb, 0, none⟩)] w (EWStepTo w g sb cb mb F base sl ws (log ++ [⟨t, base + s.addr, 1, x, x, false⟩]) wb t sn (ewpc s.st) (s.step sl.length sn x)) := by
  refine ewstep_of hw hst (fun w1 k1 => ?_)
  have h1 := h.quiet k1
  have hw1 : EWaitAt w1 wb g t (sn : Int) s := k1.at hw (fun h => h)
  unfold EWS.addr at hx ⊢
  have : s.st = 0 ∨ s.st = 1 ∨ s.st = 2 := by omega
  rcases this with e | e | e
  · rw [if_pos e]
    rw [if_neg (by omega)] at hx ⊢
    have e2 : base + ((2 * s.pos + 0 : Nat) : Int) = base + 2 * s.pos := by omega
    rw [e2] at hx ⊢
    have := elook_do h1 hw1 hF hp e x x0 t0 t1 b0 b1 hx hlog
    rw [e]
    exact this
  · rw [if_neg (by omega), if_pos e]
    rw [if_pos e] at hx ⊢
    have e2 : base + ((2 * s.pos + 1 : Nat) : Int) = base + 2 * s.pos + 1 := by omega
    rw [e2] at hx ⊢
    obtain ⟨u, rfl⟩ := Int.eq_ofNat_of_zero_le x0
    have := ewmark_do hsn h1 hw1 hF hp e u (by have := x1 e; omega) t0 t1 b0 b1 hx hlog
    rw [e]
    exact this
  · rw [if_neg (by omega), if_neg (by omega)]
    rw [if_neg (by omega)] at hx ⊢
    have e2 : base + ((2 * s.pos + 0 : Nat) : Int) = base + 2 * s.pos := by omega
    rw [e2] at hx ⊢
    have := eawait_do h1 hw1 hF hp (by omega) x t0 t1 b0 b1 hx hlog
    rw [e]
    exact this
set_option maxHeartbeats 1000000 in
theorem ewait_idle {set : Int} (hw : EWaitAt w wb g t set s) (hst : s.st = 3) : Calls Try.prog 38 #[.pointer (some ⟨wb, 0, none⟩)] w fun e w' => e = .returned (.tuple #[.int .u8 0, .bool false]) ∧ w = w' := by
  have c5 := hw.cells.2.2.2.2.2
  rw [hst] at c5
  clear hw hst
  go_enter Try.func38, Try.ntmps38
  go_wp2
  go_ret2
  exact ⟨rfl, rfl⟩
set_option maxHeartbeats 1000000 in
theorem ewait_nil : Calls Try.prog 38 #[.pointer none] w fun e w' => e = .returned (.tuple #[.int .u8 0, .bool false]) ∧ w = w' := by
  go_enter Try.func38, Try.ntmps38
  go_wp2
  go_ret2
  exact ⟨rfl, rfl⟩
set_option maxHeartbeats 1000000 in
theorem ewnext_any {set : Int} (hw : EWaitAt w wb g t set s) (hk : s.st ≤ 3) : Calls Try.prog 86 #[.pointer (some ⟨wb, 0, none⟩)] w fun e w' => e = .returned (.int .u8 (ewpc s.st)) ∧ Keep Nil w w' := by
  have a4 := hw.cells.2.2.2.2.2
  have lb := lt_of_block hw
  clear hw
  obtain ⟨pos, st, seen⟩ := s
  simp only at hk a4 ⊢
  have : st = 0 ∨ st = 1 ∨ st = 2 ∨ st = 3 := by omega
  clear hk
  rcases this with rfl | rfl | rfl | rfl
  all_goals
    go_enter Try.func86, Try.ntmps86
    go_wp2
    go_ret
    exact ⟨rfl, (Keep.refl Nil w).alloc _⟩
set_option maxHeartbeats 1000000 in
theorem ewnext_nil : Calls Try.prog 86 #[.pointer none] w fun e w' => e = .returned (.int .u8 0) ∧ w = w' := by
  go_enter Try.func86, Try.ntmps86
  go_wp2
  go_ret
  exact ⟨rfl, rfl⟩
end
end Go.Proofs.Ytihgfklajhhikaa
