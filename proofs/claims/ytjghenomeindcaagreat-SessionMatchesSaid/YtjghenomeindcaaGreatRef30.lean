/- leapfrogref30: openings: contracts. -/
import Derived.Test.YtjghenomeindcaaGreatTwoG
import Derived.Test.YtjghenomeindcaaGreatSessCl
import Derived.Deep.RegionHeld3
set_option linter.unusedVariables false
set_option linter.unusedSimpArgs false
namespace Go.Lf
/-- An opening of the reference. -/
structure RO where
  t : Int
  slot : Int
  over : Bool
  err : Int
end Go.Lf
namespace Go.Proofs.YtjghenomeindcaaGreat
open Go.RowKit Go.Lf
def ROAt (w : World) (o rb : Nat) (s : RO) : Prop := w.heap[o]? = some (.cells #[.pointer (some ⟨rb, 0, none⟩), .int .i64 s.t, .int .i64 s.slot, .bool s.over, .int .i64 s.err] 206 (0, 0))
def ROpO (rb : Nat) : OpLies RO where
  at_ w o s := ROAt w o rb s
  keep := fun h hk hn => hk.at h hn
  lt := fun h => lt_of_block h
section
variable {w : World} {B : Nat → Prop} {c : Cfg} {rb rm l o : Nat} {F G : Nat → Prop} {ws : List Int} {log : List Acc} {s : RO} {t slot : Int}
set_option maxHeartbeats 1000000 in
theorem r30new_bad (ht : t < 0 ∨ 64 ≤ t) : Calls Tryz.prog 50 #[.pointer (some ⟨rb, 0, none⟩), .int .i64 t] w fun e w' => e = .returned (.tuple #[.pointer none, .int .i64 2]) ∧ w = w' := by
  have HT := hid (@thread_no t ht w)
  clear ht
  go_enter Tryz.func50, Tryz.ntmps50
  go_wp2_with fail
  refine HT.out.mono ?_
  rintro e w' ⟨rfl, rfl⟩
  go_wp2
  go_ret2
  exact ⟨rfl, rfl⟩
set_option maxHeartbeats 1000000 in
theorem r30new_ok (t0 : 0 ≤ t) (t1 : t < 64) : Calls Tryz.prog 50 #[.pointer (some ⟨rb, 0, none⟩), .int .i64 t] w fun e w' => e = .returned (.tuple #[.pointer (some ⟨w.heap.size, 0, none⟩), .int .i64 0]) ∧ ROAt w' w.heap.size rb ⟨t, 0, false, 0⟩ ∧ Keep Nil w w' := by
  have HT := hid (@thread_yes t t0 t1 w)
  clear t0 t1
  go_enter Tryz.func50, Tryz.ntmps50
  go_wp2_with fail
  refine HT.out.mono ?_
  rintro e w' ⟨rfl, rfl⟩
  go_wp2
  go_ret2
  exact ⟨rfl, heap_alloc_new w _, (Keep.refl Nil w).alloc _⟩
set_option maxHeartbeats 1000000 in
theorem r30next (h : ROAt w o rb s) (v : Int) (hv : v = if s.over = true then 0 else 35) : Calls Tryz.prog 53 #[.pointer (some ⟨o, 0, none⟩)] w fun e w' => e = .returned (.int .u8 v) ∧ w = w' := by
  have z := lt_of_block h
  subst hv
  cases hov : s.over with
  | true =>
    have c3 : w.cell? ⟨o, 3, none⟩ = some (.bool true) := by rw [cell_of h, hov]; rfl
    rw [if_pos rfl]
    clear h hov
    go_enter Tryz.func53, Tryz.ntmps53
    go_wp2
    go_ret
    exact ⟨rfl, rfl⟩
  | false =>
    have c3 : w.cell? ⟨o, 3, none⟩ = some (.bool false) := by rw [cell_of h, hov]; rfl
    rw [if_neg (by decide)]
    clear h hov
    go_enter Tryz.func53, Tryz.ntmps53
    go_wp2
    go_ret
    exact ⟨rfl, rfl⟩
set_option maxHeartbeats 1000000 in
theorem r30res0 (h : ROAt w o rb s) (hov : s.over = false) : Calls Tryz.prog 55 #[.pointer (some ⟨o, 0, none⟩)] w fun e w' => e = .returned (.tuple #[.int .i64 0, .int .i64 8]) ∧ w = w' := by
  have z := lt_of_block h
  have c3 : w.cell? ⟨o, 3, none⟩ = some (.bool false) := by rw [cell_of h, hov]; rfl
  clear h hov
  go_enter Tryz.func55, Tryz.ntmps55
  go_wp2
  go_ret2
  exact ⟨rfl, rfl⟩
set_option maxHeartbeats 1000000 in
theorem r30res1 (h : ROAt w o rb s) (hov : s.over = true) : Calls Tryz.prog 55 #[.pointer (some ⟨o, 0, none⟩)] w fun e w' => e = .returned (.tuple #[.int .i64 s.slot, .int .i64 s.err]) ∧ Keep Nil w w' := by
  have z := lt_of_block h
  have c3 : w.cell? ⟨o, 3, none⟩ = some (.bool true) := by rw [cell_of h, hov]; rfl
  have c2 : w.cell? ⟨o, 2, none⟩ = some (.int .i64 s.slot) := by rw [cell_of h]; rfl
  have c4 : w.cell? ⟨o, 4, none⟩ = some (.int .i64 s.err) := by rw [cell_of h]; rfl
  clear h hov
  go_enter Tryz.func55, Tryz.ntmps55
  go_wp2
  go_quiet (fail)
  go_wp2
  go_ret2
  exact ⟨rfl, (Keep.refl Nil w).drewN _⟩
set_option maxHeartbeats 1000000 in
theorem r30idle (h : ROAt w o rb s) (hov : s.over = true) : Calls Tryz.prog 54 #[.pointer (some ⟨o, 0, none⟩)] w fun e w' => e = .returned (.tuple #[.int .u8 0, .bool false]) ∧ w = w' := by
  have HN := hid (r30next h 0 (by rw [if_pos hov]))
  clear h hov
  go_enter Tryz.func54, Tryz.ntmps54
  go_wp2_with fail
  refine HN.out.mono ?_
  rintro e w' ⟨rfl, rfl⟩
  go_wp2
  go_ret2
  exact ⟨rfl, rfl⟩
set_option maxRecDepth 100000 in
set_option maxHeartbeats 2000000 in
theorem r30has (h : RP w B c rb rm l F G ws log) (t0 : 0 ≤ t) (t1 : t < 64) (k : Nat) (x : Int) (hx : ws[k]? = some x) (hk : k ≤ 64) : Calls Tryz.prog 102 #[.pointer (some ⟨rb, 0, none⟩), .int .i64 t, .int .i64 k] w fun e w' => e = .returned (.bool (x == t + 1)) ∧ Keep Nil w w' := by
  obtain ⟨gw, wc, la, lc, hr, -⟩ := h.mem.rep
  have c0 := h.c0
  have c1 := h.c1
  have m0 := hr.cell0
  have m1 := hr.word hx
  have c16 := h.rlc3.c16
  have z1 := h.bl
  have z2 := h.rlc3.lt
  have z3 := h.mem.lt rm h.mem.has
  have k0 : (0 : Int) ≤ (k : Int) := by omega
  have k1 : (k : Int) < (ws.length : Int) := by have := (List.getElem?_eq_some_iff.1 hx).1; omega
  have wk : IntKind.i64.wrap (0 + (k : Int)) = (k : Int) := by rw [IntKind.wrap_i64]; omega
  have wk2 : IntKind.i64.wrap (k : Int) = (k : Int) := by rw [IntKind.wrap_i64]; omega
  have wt : IntKind.u64.wrap t = t := by rw [IntKind.wrap_u64]; omega
  have wt1 : IntKind.u64.wrap (t + 1) = t + 1 := by rw [IntKind.wrap_u64]; omega
  clear h hr hx t0 t1
  go_enter Tryz.func102, Tryz.ntmps102
  go_wp2
  go_quiet (fail)
  go_wp2
  go_ret
  exact ⟨rfl, (Keep.refl Nil w).drewN _⟩
/-- A step of an opening. -/
def R30To (w : World) (B : Nat → Prop) (c : Cfg) (rb rm l o : Nat) (ws' : List Int) (log' : List Acc) (s' : RO) (done : Bool) (e : Ending) (w' : World) : Prop :=
  e = .returned (.tuple #[.int .u8 35, .bool done]) ∧ ∃ B', (RStoreF c rb rm l).lie w' B' (ws', log') ∧ ROAt w' o rb s' ∧ Keep (fun k => B k ∨ k = o) w w' ∧ Foot w B B'
set_option maxRecDepth 100000 in
set_option maxHeartbeats 4000000 in
theorem r30step_yes (h : RP w B c rb rm l F G ws log) (ho : ROAt w o rb s) (hB : ¬ B o) (hok : c.ok) (hov : s.over = false) (t0 : 0 ≤ s.t) (t1 : s.t < 64) (k : Nat) (hk : k ≤ 64) (hs : s.slot = k) {x : Int} (hx : ws[k]? = some x) (hx0 : x = 0) (hlog : log.length < 1000000000000) : Calls Tryz.prog 54 #[.pointer (some ⟨o, 0, none⟩)] w (R30To w B c rb rm l o (ws.set k (s.t + 1)) (log ++ [⟨s.t, k, 4, 0, s.t + 1, true⟩]) ⟨s.t, s.slot, true, s.err⟩ true) := by
  subst hx0
  obtain ⟨x, hxe⟩ : ∃ x : Int, x = 0 := ⟨0, rfl⟩
  rw [← hxe] at hx
  have z1 := h.bl
  have z2 := h.rlc3.lt
  have z3 := lt_of_block ho
  have p0 : w.cell? ⟨o, 0, none⟩ = some (.pointer (some ⟨rb, 0, none⟩)) := by rw [cell_of ho]; rfl
  have p1 : w.cell? ⟨o, 1, none⟩ = some (.int .i64 s.t) := by rw [cell_of ho]; rfl
  have p2 : w.cell? ⟨o, 2, none⟩ = some (.int .i64 s.slot) := by rw [cell_of ho]; rfl
  have b0 := h.c0
  have b1 := h.c1
  have b16 := h.rlc3.c16
  have HN := hid (r30next ho 35 (by rw [hov, if_neg (by decide)]))
  have H := hid h
  have HO := hid ho
  have HB := hid hB
  have HOV := hid hov
  have HS := hid hs
  have HT := hid (And.intro t0 t1)
  have HL := hid hlog
  have wk : IntKind.i64.wrap (0 + s.slot) = s.slot := by rw [IntKind.wrap_i64]; omega
  have wk2 : IntKind.i64.wrap s.slot = s.slot := by rw [IntKind.wrap_i64]; omega
  have wt : IntKind.u64.wrap s.t = s.t := by rw [IntKind.wrap_u64]; omega
  have wt1 : IntKind.u64.wrap (s.t + 1) = s.t + 1 := by rw [IntKind.wrap_u64]; omega
  have HKK := hid hk
  clear h ho hB hov hs t0 t1 hlog hk
  go_enter Tryz.func54, Tryz.ntmps54
  go_wp2_with fail
  refine HN.out.mono ?_
  rintro e w1 ⟨rfl, rfl⟩
  have KD := hid ((Keep.refl Nil w).drew)
  have HD := hid (H.out.quiet KD.out)
  have HX := hid (show ws[(s.slot).toNat]? = some x from by rw [HS.out, Int.toNat_natCast]; exact hx)
  have HS0 := hid (show 0 ≤ s.slot by have := HS.out; omega)
  clear hx
  go_upto_region 3 with fail
  go_region_held3 (fun w' => w'.cell? ⟨o, 0, none⟩ = some (.pointer (some ⟨rb, 0, none⟩)) ∧ w'.cell? ⟨o, 1, none⟩ = some (.int .i64 s.t) ∧ w'.cell? ⟨o, 2, none⟩ = some (.int .i64 s.slot) ∧ w'.cell? ⟨rb, 0, none⟩ = some (.pointer (some ⟨l, 0, none⟩)) ∧ w'.cell? ⟨rb, 1, none⟩ = some (.pointer (some ⟨rm, 0, none⟩)) ∧ w'.cell? ⟨l, 16, none⟩ = some (.int .i64 0)) (first | (exact s9; done) | go_keep)
    (first
      | (go_at_call 104; (with_reducible refine (rcas_yes HD.out.mem s.t s.slot 0 (s.t + 1) HT.out.1 HT.out.2 HS0.out (by have := HX.out; rw [hxe] at this; exact this) HL.out).mono ?_); rintro e w10 ⟨rfl, hto⟩; have hq := HD.out.turn3 hto; have R10 := hid (show ROAt w10 o rb s from (hq.choose_spec.choose_spec.2.1.at (KD.out.at HO.out (fun h => h)) HB.out)); have HQ := hid hq; have s9 : w10.cell? ⟨o, 0, none⟩ = some (.pointer (some ⟨rb, 0, none⟩)) ∧ w10.cell? ⟨o, 1, none⟩ = some (.int .i64 s.t) ∧ w10.cell? ⟨o, 2, none⟩ = some (.int .i64 s.slot) ∧ w10.cell? ⟨rb, 0, none⟩ = some (.pointer (some ⟨l, 0, none⟩)) ∧ w10.cell? ⟨rb, 1, none⟩ = some (.pointer (some ⟨rm, 0, none⟩)) ∧ w10.cell? ⟨l, 16, none⟩ = some (.int .i64 0) := ⟨(by rw [cell_of R10.out]; rfl), (by rw [cell_of R10.out]; rfl), (by rw [cell_of R10.out]; rfl), hq.choose_spec.choose_spec.1.c0, hq.choose_spec.choose_spec.1.c1, hq.choose_spec.choose_spec.1.rlc3.c16⟩; clear hto hq))
  obtain ⟨F', B', h1, h2, h3⟩ := HQ.out
  have H1 := hid h1
  have K1 := hid (show Keep B w w10 from (KD.out.mono (fun _ _ h => h.elim)).trans h2 (fun _ _ h => h))
  have FT := hid (show Foot w B B' from h3)
  have y3 : w10.cell? ⟨o, 3, none⟩ = some (.bool s.over) := by rw [cell_of R10.out]; rfl
  have y2 : w10.cell? ⟨o, 2, none⟩ = some (.int .i64 s.slot) := by rw [cell_of R10.out]; rfl
  have y4 : w10.cell? ⟨o, 4, none⟩ = some (.int .i64 s.err) := by rw [cell_of R10.out]; rfl
  have y0 : w10.cell? ⟨o, 0, none⟩ = some (.pointer (some ⟨rb, 0, none⟩)) := by rw [cell_of R10.out]; rfl
  have yb0 := h1.c0
  have yc1 := h1.rlc3.c1
  have yz1 := h1.bl
  have yz2 := h1.rlc3.lt
  have yf : ∀ i, w10.frozen? ⟨o, i, none⟩ = false := fun i => free_of R10.out i
  have yz := lt_of_block R10.out
  have HNB := hid (show ¬ B' o from fun e => (FT.out o e).elim HB.out (fun e => by have := z3; omega))
  clear h1 h2 h3 z1 z2 p0 p1 p2 b0 b1 b16 HQ
  have e1 : (s.slot).toNat = k := by rw [HS.out]; exact Int.toNat_natCast k
  rw [e1, HS.out] at H1
  go_wp2
  go_quiet (fail)
  go_wp2
  go_ret2
  have hk2 : Keep (fun k => k = o) w10 (w10.setCell ⟨o, 3, none⟩ (.bool true)) := (Keep.refl (fun k => k = o) w10).setCell (p := ⟨o, 3, none⟩) (.inl rfl) _
  exact ⟨rfl, B', (RStoreF c rb rm l).keep ⟨F', G, H1.out⟩ (hk2.drewN _) (fun k hk e => HNB.out (by have e2 : k = o := e; rw [← e2]; exact hk)), set_same R10.out _, (K1.out.mono (T := fun k => B k ∨ k = o) (fun _ _ h => .inl h)).trans ((hk2.drewN _).mono (T := fun k => B k ∨ k = o) (fun _ _ h => .inr h)) (fun _ _ h => h), FT.out⟩
set_option maxRecDepth 100000 in
set_option maxHeartbeats 4000000 in
theorem r30step_last (h : RP w B c rb rm l F G ws log) (ho : ROAt w o rb s) (hB : ¬ B o) (hok : c.ok) (hov : s.over = false) (t0 : 0 ≤ s.t) (t1 : s.t < 64) (k : Nat) (hk : k ≤ 64) (hs : s.slot = k) {x : Int} (hx : ws[k]? = some x) (hx0 : x ≠ 0) (hl : k + 1 = c.sl) (hlog : log.length < 1000000000000) : Calls Tryz.prog 54 #[.pointer (some ⟨o, 0, none⟩)] w (R30To w B c rb rm l o ws (log ++ [⟨s.t, k, 4, x, x, false⟩]) ⟨s.t, 0, true, 10⟩ true) := by
  have HX0 := hid hx0
  have z1 := h.bl
  have z2 := h.rlc3.lt
  have z3 := lt_of_block ho
  have p0 : w.cell? ⟨o, 0, none⟩ = some (.pointer (some ⟨rb, 0, none⟩)) := by rw [cell_of ho]; rfl
  have p1 : w.cell? ⟨o, 1, none⟩ = some (.int .i64 s.t) := by rw [cell_of ho]; rfl
  have p2 : w.cell? ⟨o, 2, none⟩ = some (.int .i64 s.slot) := by rw [cell_of ho]; rfl
  have b0 := h.c0
  have b1 := h.c1
  have b16 := h.rlc3.c16
  have HN := hid (r30next ho 35 (by rw [hov, if_neg (by decide)]))
  have H := hid h
  have HO := hid ho
  have HB := hid hB
  have HOV := hid hov
  have HS := hid hs
  have HT := hid (And.intro t0 t1)
  have HL := hid hlog
  have wk : IntKind.i64.wrap (0 + s.slot) = s.slot := by rw [IntKind.wrap_i64]; omega
  have wk2 : IntKind.i64.wrap s.slot = s.slot := by rw [IntKind.wrap_i64]; omega
  have wt : IntKind.u64.wrap s.t = s.t := by rw [IntKind.wrap_u64]; omega
  have wt1 : IntKind.u64.wrap (s.t + 1) = s.t + 1 := by rw [IntKind.wrap_u64]; omega
  have HKK := hid hk
  have wl : IntKind.i64.wrap (s.slot + 1) = s.slot + 1 := by rw [IntKind.wrap_i64]; omega
  have dl : (s.slot + 1 == (c.sl : Int)) = true := beq_iff_eq.2 (by omega)
  clear h ho hB hov hs t0 t1 hlog hk hx0 hl
  go_enter Tryz.func54, Tryz.ntmps54
  go_wp2_with fail
  refine HN.out.mono ?_
  rintro e w1 ⟨rfl, rfl⟩
  have KD := hid ((Keep.refl Nil w).drew)
  have HD := hid (H.out.quiet KD.out)
  have HX := hid (show ws[(s.slot).toNat]? = some x from by rw [HS.out, Int.toNat_natCast]; exact hx)
  have HS0 := hid (show 0 ≤ s.slot by have := HS.out; omega)
  clear hx
  go_upto_region 3 with fail
  go_region_held3 (fun w' => w'.cell? ⟨o, 0, none⟩ = some (.pointer (some ⟨rb, 0, none⟩)) ∧ w'.cell? ⟨o, 1, none⟩ = some (.int .i64 s.t) ∧ w'.cell? ⟨o, 2, none⟩ = some (.int .i64 s.slot) ∧ w'.cell? ⟨rb, 0, none⟩ = some (.pointer (some ⟨l, 0, none⟩)) ∧ w'.cell? ⟨rb, 1, none⟩ = some (.pointer (some ⟨rm, 0, none⟩)) ∧ w'.cell? ⟨l, 16, none⟩ = some (.int .i64 0)) (first | (exact s9; done) | go_keep)
    (first
      | (go_at_call 104; (with_reducible refine (rcas_no HD.out.mem s.t s.slot x 0 (s.t + 1) HT.out.1 HT.out.2 HS0.out HX.out HX0.out HL.out).mono ?_); rintro e w10 ⟨rfl, hto⟩; have hq := HD.out.turn3 hto; have R10 := hid (show ROAt w10 o rb s from (hq.choose_spec.choose_spec.2.1.at (KD.out.at HO.out (fun h => h)) HB.out)); have HQ := hid hq; have s9 : w10.cell? ⟨o, 0, none⟩ = some (.pointer (some ⟨rb, 0, none⟩)) ∧ w10.cell? ⟨o, 1, none⟩ = some (.int .i64 s.t) ∧ w10.cell? ⟨o, 2, none⟩ = some (.int .i64 s.slot) ∧ w10.cell? ⟨rb, 0, none⟩ = some (.pointer (some ⟨l, 0, none⟩)) ∧ w10.cell? ⟨rb, 1, none⟩ = some (.pointer (some ⟨rm, 0, none⟩)) ∧ w10.cell? ⟨l, 16, none⟩ = some (.int .i64 0) := ⟨(by rw [cell_of R10.out]; rfl), (by rw [cell_of R10.out]; rfl), (by rw [cell_of R10.out]; rfl), hq.choose_spec.choose_spec.1.c0, hq.choose_spec.choose_spec.1.c1, hq.choose_spec.choose_spec.1.rlc3.c16⟩; clear hto hq))
  obtain ⟨F', B', h1, h2, h3⟩ := HQ.out
  have H1 := hid h1
  have K1 := hid (show Keep B w w10 from (KD.out.mono (fun _ _ h => h.elim)).trans h2 (fun _ _ h => h))
  have FT := hid (show Foot w B B' from h3)
  have y3 : w10.cell? ⟨o, 3, none⟩ = some (.bool s.over) := by rw [cell_of R10.out]; rfl
  have y2 : w10.cell? ⟨o, 2, none⟩ = some (.int .i64 s.slot) := by rw [cell_of R10.out]; rfl
  have y4 : w10.cell? ⟨o, 4, none⟩ = some (.int .i64 s.err) := by rw [cell_of R10.out]; rfl
  have y0 : w10.cell? ⟨o, 0, none⟩ = some (.pointer (some ⟨rb, 0, none⟩)) := by rw [cell_of R10.out]; rfl
  have yb0 := h1.c0
  have yc1 := h1.rlc3.c1
  have yz1 := h1.bl
  have yz2 := h1.rlc3.lt
  have yf : ∀ i, w10.frozen? ⟨o, i, none⟩ = false := fun i => free_of R10.out i
  have yz := lt_of_block R10.out
  have HNB := hid (show ¬ B' o from fun e => (FT.out o e).elim HB.out (fun e => by have := z3; omega))
  clear h1 h2 h3 z1 z2 p0 p1 p2 b0 b1 b16 HQ
  rw [HS.out] at H1
  go_wp2
  go_quiet (fail)
  obtain ⟨n1, hn1⟩ : ∃ n1, nq = n1 := ⟨_, rfl⟩
  rw [hn1]
  clear hn1
  go_wp2
  go_quiet (fail)
  go_wp2
  go_ret2
  have hk2 : Keep (fun k => k = o) w10 ((((w10.drewN n1).setCell ⟨o, 3, none⟩ (.bool true)).setCell ⟨o, 2, none⟩ (.int .i64 0)).setCell ⟨o, 4, none⟩ (.int .i64 10)) := ((((Keep.refl (fun k => k = o) w10).drewN n1).setCell (p := ⟨o, 3, none⟩) (.inl rfl) _).setCell (p := ⟨o, 2, none⟩) (.inl rfl) _).setCell (p := ⟨o, 4, none⟩) (.inl rfl) _
  exact ⟨rfl, B', (RStoreF c rb rm l).keep ⟨F', G, H1.out⟩ (hk2.drewN _) (fun k hk e => HNB.out (by have e2 : k = o := e; rw [← e2]; exact hk)), set_same (set_same (set_same R10.out _) _) _, (K1.out.mono (T := fun k => B k ∨ k = o) (fun _ _ h => .inl h)).trans ((hk2.drewN _).mono (T := fun k => B k ∨ k = o) (fun _ _ h => .inr h)) (fun _ _ h => h), FT.out⟩
set_option maxRecDepth 100000 in
set_option maxHeartbeats 4000000 in
theorem r30step_more (h : RP w B c rb rm l F G ws log) (ho : ROAt w o rb s) (hB : ¬ B o) (hok : c.ok) (hov : s.over = false) (t0 : 0 ≤ s.t) (t1 : s.t < 64) (k : Nat) (hk : k ≤ 64) (hs : s.slot = k) {x : Int} (hx : ws[k]? = some x) (hx0 : x ≠ 0) (hl : k + 1 < c.sl) (hlog : log.length < 1000000000000) : Calls Tryz.prog 54 #[.pointer (some ⟨o, 0, none⟩)] w (R30To w B c rb rm l o ws (log ++ [⟨s.t, k, 4, x, x, false⟩]) ⟨s.t, s.slot + 1, false, s.err⟩ false) := by
  have HX0 := hid hx0
  have z1 := h.bl
  have z2 := h.rlc3.lt
  have z3 := lt_of_block ho
  have p0 : w.cell? ⟨o, 0, none⟩ = some (.pointer (some ⟨rb, 0, none⟩)) := by rw [cell_of ho]; rfl
  have p1 : w.cell? ⟨o, 1, none⟩ = some (.int .i64 s.t) := by rw [cell_of ho]; rfl
  have p2 : w.cell? ⟨o, 2, none⟩ = some (.int .i64 s.slot) := by rw [cell_of ho]; rfl
  have b0 := h.c0
  have b1 := h.c1
  have b16 := h.rlc3.c16
  have HN := hid (r30next ho 35 (by rw [hov, if_neg (by decide)]))
  have H := hid h
  have HO := hid ho
  have HB := hid hB
  have HOV := hid hov
  have HS := hid hs
  have HT := hid (And.intro t0 t1)
  have HL := hid hlog
  have wk : IntKind.i64.wrap (0 + s.slot) = s.slot := by rw [IntKind.wrap_i64]; omega
  have wk2 : IntKind.i64.wrap s.slot = s.slot := by rw [IntKind.wrap_i64]; omega
  have wt : IntKind.u64.wrap s.t = s.t := by rw [IntKind.wrap_u64]; omega
  have wt1 : IntKind.u64.wrap (s.t + 1) = s.t + 1 := by rw [IntKind.wrap_u64]; omega
  have HKK := hid hk
  have wl : IntKind.i64.wrap (s.slot + 1) = s.slot + 1 := by rw [IntKind.wrap_i64]; omega
  have dl : (s.slot + 1 == (c.sl : Int)) = false := beq_eq_false_iff_ne.2 (by omega)
  clear h ho hB t0 t1 hlog hk hx0 hl hs
  go_enter Tryz.func54, Tryz.ntmps54
  go_wp2_with fail
  refine HN.out.mono ?_
  rintro e w1 ⟨rfl, rfl⟩
  have KD := hid ((Keep.refl Nil w).drew)
  have HD := hid (H.out.quiet KD.out)
  have HX := hid (show ws[(s.slot).toNat]? = some x from by rw [HS.out, Int.toNat_natCast]; exact hx)
  have HS0 := hid (show 0 ≤ s.slot by have := HS.out; omega)
  clear hx
  go_upto_region 3 with fail
  go_region_held3 (fun w' => w'.cell? ⟨o, 0, none⟩ = some (.pointer (some ⟨rb, 0, none⟩)) ∧ w'.cell? ⟨o, 1, none⟩ = some (.int .i64 s.t) ∧ w'.cell? ⟨o, 2, none⟩ = some (.int .i64 s.slot) ∧ w'.cell? ⟨rb, 0, none⟩ = some (.pointer (some ⟨l, 0, none⟩)) ∧ w'.cell? ⟨rb, 1, none⟩ = some (.pointer (some ⟨rm, 0, none⟩)) ∧ w'.cell? ⟨l, 16, none⟩ = some (.int .i64 0)) (first | (exact s9; done) | go_keep)
    (first
      | (go_at_call 104; (with_reducible refine (rcas_no HD.out.mem s.t s.slot x 0 (s.t + 1) HT.out.1 HT.out.2 HS0.out HX.out HX0.out HL.out).mono ?_); rintro e w10 ⟨rfl, hto⟩; have hq := HD.out.turn3 hto; have R10 := hid (show ROAt w10 o rb s from (hq.choose_spec.choose_spec.2.1.at (KD.out.at HO.out (fun h => h)) HB.out)); have HQ := hid hq; have s9 : w10.cell? ⟨o, 0, none⟩ = some (.pointer (some ⟨rb, 0, none⟩)) ∧ w10.cell? ⟨o, 1, none⟩ = some (.int .i64 s.t) ∧ w10.cell? ⟨o, 2, none⟩ = some (.int .i64 s.slot) ∧ w10.cell? ⟨rb, 0, none⟩ = some (.pointer (some ⟨l, 0, none⟩)) ∧ w10.cell? ⟨rb, 1, none⟩ = some (.pointer (some ⟨rm, 0, none⟩)) ∧ w10.cell? ⟨l, 16, none⟩ = some (.int .i64 0) := ⟨(by rw [cell_of R10.out]; rfl), (by rw [cell_of R10.out]; rfl), (by rw [cell_of R10.out]; rfl), hq.choose_spec.choose_spec.1.c0, hq.choose_spec.choose_spec.1.c1, hq.choose_spec.choose_spec.1.rlc3.c16⟩; clear hto hq))
  obtain ⟨F', B', h1, h2, h3⟩ := HQ.out
  have H1 := hid h1
  have K1 := hid (show Keep B w w10 from (KD.out.mono (fun _ _ h => h.elim)).trans h2 (fun _ _ h => h))
  have FT := hid (show Foot w B B' from h3)
  have y3 : w10.cell? ⟨o, 3, none⟩ = some (.bool s.over) := by rw [cell_of R10.out]; rfl
  have y2 : w10.cell? ⟨o, 2, none⟩ = some (.int .i64 s.slot) := by rw [cell_of R10.out]; rfl
  have y4 : w10.cell? ⟨o, 4, none⟩ = some (.int .i64 s.err) := by rw [cell_of R10.out]; rfl
  have y0 : w10.cell? ⟨o, 0, none⟩ = some (.pointer (some ⟨rb, 0, none⟩)) := by rw [cell_of R10.out]; rfl
  have yb0 := h1.c0
  have yc1 := h1.rlc3.c1
  have yz1 := h1.bl
  have yz2 := h1.rlc3.lt
  have yf : ∀ i, w10.frozen? ⟨o, i, none⟩ = false := fun i => free_of R10.out i
  have yz := lt_of_block R10.out
  have HNB := hid (show ¬ B' o from fun e => (FT.out o e).elim HB.out (fun e => by have := z3; omega))
  clear h1 h2 h3 z1 z2 p0 p1 p2 b0 b1 b16 HQ
  rw [HS.out] at H1
  rw [hov] at y3
  go_wp2
  go_quiet (fail)
  obtain ⟨n1, hn1⟩ : ∃ n1, nq = n1 := ⟨_, rfl⟩
  rw [hn1]
  clear hn1
  go_wp2
  go_quiet (fail)
  go_wp2
  go_ret2
  have hk2 : Keep (fun k => k = o) w10 ((w10.drewN n1).setCell ⟨o, 2, none⟩ (.int .i64 (s.slot + 1))) := ((Keep.refl (fun k => k = o) w10).drewN n1).setCell (p := ⟨o, 2, none⟩) (.inl rfl) _
  exact ⟨rfl, B', (RStoreF c rb rm l).keep ⟨F', G, H1.out⟩ (hk2.drewN _) (fun k hk e => HNB.out (by have e2 : k = o := e; rw [← e2]; exact hk)), (by have := set_same R10.out (i := 2) (.int .i64 (s.slot + 1)); rw [HOV.out] at this; exact this), (K1.out.mono (T := fun k => B k ∨ k = o) (fun _ _ h => .inl h)).trans ((hk2.drewN _).mono (T := fun k => B k ∨ k = o) (fun _ _ h => .inr h)) (fun _ _ h => h), FT.out⟩
/-! Close, Owners. -/
set_option maxHeartbeats 2000000 in
theorem r30close_bad (ht : t < 0 ∨ 64 ≤ t) : Calls Tryz.prog 51 #[.pointer (some ⟨rb, 0, none⟩), .int .i64 t, .int .i64 slot] w fun e w' => e = .returned (.int .i64 2) ∧ w = w' := by
  have HT := hid (@thread_no t ht w)
  clear ht
  go_enter Tryz.func51, Tryz.ntmps51
  go_wp2_with fail
  refine HT.out.mono ?_
  rintro e w' ⟨rfl, rfl⟩
  go_wp2
  go_ret
  exact ⟨rfl, rfl⟩
set_option maxHeartbeats 2000000 in
theorem r30close_range (h : RP w B c rb rm l F G ws log) (t0 : 0 ≤ t) (t1 : t < 64) (hs : slot < 0 ∨ (c.sl : Int) ≤ slot) : Calls Tryz.prog 51 #[.pointer (some ⟨rb, 0, none⟩), .int .i64 t, .int .i64 slot] w fun e w' => e = .returned (.int .i64 3) ∧ w = w' := by
  have HT := hid (@thread_yes t t0 t1 w)
  have c0 := h.c0
  have l1 := h.rlc3.c1
  have z1 := h.bl
  have z2 := h.rlc3.lt
  clear h t0 t1
  by_cases h0 : slot < 0
  · have d0 : decide (slot < 0) = true := decide_eq_true h0
    clear hs h0
    go_enter Tryz.func51, Tryz.ntmps51
    go_wp2_with fail
    refine HT.out.mono ?_
    rintro e w' ⟨rfl, rfl⟩
    go_wp2
    go_ret
    exact ⟨rfl, rfl⟩
  · have d0 : decide (slot < 0) = false := decide_eq_false h0
    have d1 : decide ((c.sl : Int) ≤ slot) = true := decide_eq_true (by omega)
    clear hs h0
    go_enter Tryz.func51, Tryz.ntmps51
    go_wp2_with fail
    refine HT.out.mono ?_
    rintro e w' ⟨rfl, rfl⟩
    go_wp2
    go_ret
    exact ⟨rfl, rfl⟩
set_option maxHeartbeats 2000000 in
theorem r30close_state (h : RP w B c rb rm l F G ws log) (t0 : 0 ≤ t) (t1 : t < 64) (k : Nat) (hk : k < c.sl) (hsl : c.sl ≤ 64) (hs : slot = k) {x : Int} (hx : ws[k]? = some x) (hne : x ≠ t + 1) : Calls Tryz.prog 51 #[.pointer (some ⟨rb, 0, none⟩), .int .i64 t, .int .i64 slot] w fun e w' => e = .returned (.int .i64 8) ∧ Keep Nil w w' := by
  subst hs
  have HT := hid (@thread_yes t t0 t1 w)
  have HH := hid (r30has h t0 t1 k x hx (by omega))
  have c0 := h.c0
  have l1 := h.rlc3.c1
  have z1 := h.bl
  have z2 := h.rlc3.lt
  have d0 : decide ((k : Int) < 0) = false := decide_eq_false (by omega)
  have d1 : decide ((c.sl : Int) ≤ (k : Int)) = false := decide_eq_false (by omega)
  have d2 : decide (c.sl ≤ k) = false := decide_eq_false (by omega)
  have dn : (x == t + 1) = false := beq_eq_false_iff_ne.2 hne
  clear h t0 t1 hx hne hk
  go_enter Tryz.func51, Tryz.ntmps51
  go_wp2_with fail
  refine HT.out.mono ?_
  rintro e w' ⟨rfl, rfl⟩
  go_wp2_with fail
  refine HH.out.mono ?_
  rintro e w' ⟨rfl, hk⟩
  go_wp2
  go_ret
  exact ⟨rfl, hk⟩
set_option maxHeartbeats 4000000 in
theorem r30close_ok (h : RP w B c rb rm l F G ws log) (t0 : 0 ≤ t) (t1 : t < 64) (k : Nat) (hk : k < c.sl) (hsl : c.sl ≤ 64) (hs : slot = k) (hx : ws[k]? = some (t + 1)) (hlog : log.length < 1000000000000) : Calls Tryz.prog 51 #[.pointer (some ⟨rb, 0, none⟩), .int .i64 t, .int .i64 slot] w fun e w' => e = .returned (.int .i64 0) ∧ (RStoreF c rb rm l).To w B (ws.set k 0, log ++ [⟨t, k, 2, t + 1, 0, false⟩]) w' := by
  subst hs
  have HT := hid (@thread_yes t t0 t1 w)
  have HH := hid (r30has h t0 t1 k (t + 1) hx (by omega))
  have H := hid h
  have HX := hid (show ws[((k : Int)).toNat]? = some (t + 1) from by rw [Int.toNat_natCast]; exact hx)
  have HTT := hid (And.intro t0 t1)
  have HL := hid hlog
  have c0 := h.c0
  have c1 := h.c1
  have l1 := h.rlc3.c1
  have l16 := h.rlc3.c16
  have z1 := h.bl
  have z2 := h.rlc3.lt
  have d0 : decide ((k : Int) < 0) = false := decide_eq_false (by omega)
  have d1 : decide ((c.sl : Int) ≤ (k : Int)) = false := decide_eq_false (by omega)
  have d2 : decide (c.sl ≤ k) = false := decide_eq_false (by omega)
  have dn : (t + 1 == t + 1) = true := by simp
  have wk : IntKind.i64.wrap (0 + (k : Int)) = (k : Int) := by rw [IntKind.wrap_i64]; omega
  have wk2 : IntKind.i64.wrap (k : Int) = (k : Int) := by rw [IntKind.wrap_i64]; omega
  clear h t0 t1 hx hk hlog
  go_enter Tryz.func51, Tryz.ntmps51
  go_wp2_with fail
  refine HT.out.mono ?_
  rintro e w1 ⟨rfl, rfl⟩
  go_wp2_with fail
  refine HH.out.mono ?_
  rintro e w2 ⟨rfl, hk⟩
  have HK := hid hk
  have H2 := hid (H.out.quiet hk)
  have c0 := H2.out.c0
  have c1 := H2.out.c1
  have l16 := H2.out.rlc3.c16
  have z1 := H2.out.bl
  have z2 := H2.out.rlc3.lt
  have KD := hid ((Keep.refl Nil w2).drew)
  clear hk
  go_upto_region 9 with fail
  go_region_held3 (fun w' => w'.cell? ⟨rb, 0, none⟩ = some (.pointer (some ⟨l, 0, none⟩)) ∧ w'.cell? ⟨rb, 1, none⟩ = some (.pointer (some ⟨rm, 0, none⟩)) ∧ w'.cell? ⟨l, 16, none⟩ = some (.int .i64 0)) (first | (exact s9; done) | go_keep)
    (first
      | (go_at_call 103; (with_reducible refine (rstore_ok (H2.out.quiet KD.out).mem t (k : Int) (t + 1) 0 HTT.out.1 HTT.out.2 (Int.natCast_nonneg k) HX.out HL.out).mono ?_); rintro e w10 ⟨rfl, hto⟩; have hq := (H2.out.quiet KD.out).turn3 hto; have HQ := hid ((show (RStoreF c rb rm l).To w B (_, _) w10 from by obtain ⟨F', B', h1, h2, h3⟩ := hq; have hkk := HK.out.trans KD.out (fun _ _ h => h); exact ⟨B', ⟨F', G, h1⟩, (hkk.mono (T := B) (fun _ _ h => h.elim)).trans h2 (fun _ _ h => h), fun k hk => (h3 k hk).imp id (fun h => by have := hkk.size; omega)⟩)); have s9 : w10.cell? ⟨rb, 0, none⟩ = some (.pointer (some ⟨l, 0, none⟩)) ∧ w10.cell? ⟨rb, 1, none⟩ = some (.pointer (some ⟨rm, 0, none⟩)) ∧ w10.cell? ⟨l, 16, none⟩ = some (.int .i64 0) := ⟨hq.choose_spec.choose_spec.1.c0, hq.choose_spec.choose_spec.1.c1, hq.choose_spec.choose_spec.1.rlc3.c16⟩; clear hto hq))
  go_wp2
  go_ret
  have := HQ.out
  rw [Int.toNat_natCast] at this
  exact ⟨rfl, this⟩
/-- The owners as the reference returns them. -/
def ROwnTo (w : World) (l : List Int) (e : Ending) (w' : World) : Prop := ∃ a cp, e = .returned (.slice a l.length cp) ∧ Rd w' 1 (.slice a l.length cp) l.length (i64s l) ∧ Keep Nil w w'
theorem infoIntO : (Tryz.prog.info? 3).map (fun i => (i.zero, i.size, i.bytes)) = some (some (.int .i64 0), 1, 8) := by kernel_rfl
theorem i64s_snoc (l : List Int) (x : Int) : i64s (l ++ [x]) = i64s l ++ [.int .i64 x] := by simp [i64s]
set_option maxRecDepth 100000 in
set_option maxHeartbeats 8000000 in
theorem r30owners (h : RP w B c rb rm l F G ws log) (hsl : c.sl ≤ 64) (hlen : c.sl ≤ ws.length) (hwf : ∀ x ∈ ws, 0 ≤ x ∧ x < 18446744073709551616) : Calls Tryz.prog 56 #[.pointer (some ⟨rb, 0, none⟩)] w (ROwnTo w ((ws.take c.sl).map ownOf)) := by
  obtain ⟨gw, wc, la, lc, hr, -⟩ := h.mem.rep
  have c0 := h.c0
  have c1 := h.c1
  have m0 := hr.cell0
  have c16 := h.rlc3.c16
  have l1 := h.rlc3.c1
  have z1 := h.bl
  have z2 := h.rlc3.lt
  have z3 := h.mem.lt rm h.mem.has
  have HR := hid hr
  have HW := hid hwf
  have HLN := hid hlen
  have HC := hid (And.intro c0 (And.intro c1 (And.intro m0 (And.intro c16 l1))))
  clear h hr hwf hlen
  go_enter Tryz.func56, Tryz.ntmps56
  go_wp2
  clear c0 c1 m0 c16 l1
  go_loopw [3, 4] (fun vs kv wz => ∃ (k : Nat) (a : Option Addr) (cp : Nat), k ≤ c.sl ∧ kv = .int .i64 k ∧ vs = .slice a k cp ∧ wz.ownsRow 0 3 1 (.slice a k cp) k (i64s ((ws.take k).map ownOf)) ∧ Keep Nil w wz ∧ (∀ j, (Value.slice a k cp).ownBlock = some j → w.heap.size ≤ j)) (fun _ kv _ => c.sl - (intOf kv).toNat)
  case atStart => exact ⟨0, none, 0, Nat.zero_le _, rfl, rfl, World.ownsRow_nil _ _ _ _, Keep.refl Nil w, fun j e => by cases e⟩
  case round =>
    obtain ⟨k, a, cp, hk, rfl, rfl, hrow, hkk, hnw⟩ := hrel
    have HRW := hid hrow
    have HKK := hid hkk
    have HNW := hid hnw
    have c0 := hkk.cell HC.out.1 (fun h => h)
    have l1 := hkk.cell HC.out.2.2.2.2 (fun h => h)
    have z11 : rb < wr.heap.size := by have := hkk.size; omega
    have z21 : l < wr.heap.size := by have := hkk.size; omega
    have z31 : rm < wr.heap.size := by have := hkk.size; omega
    by_cases hlt : k < c.sl
    · have d1 : decide ((k : Int) < (c.sl : Int)) = true := decide_eq_true (by omega)
      have d2 : decide (k < c.sl) = true := decide_eq_true hlt
      obtain ⟨x, hx⟩ : ∃ x, ws[k]? = some x := ⟨_, List.getElem?_eq_getElem (by have := HLN.out; omega)⟩
      have hxw := HW.out x (List.mem_of_getElem? hx)
      have HTK := hid (show i64s ((ws.take (k + 1)).map ownOf) = i64s ((ws.take k).map ownOf) ++ [.int .i64 (ownOf x)] from by rw [List.take_add_one, hx, Option.toList_some, List.map_append]; simp [i64s])
      have c1 := hkk.cell HC.out.2.1 (fun h => h)
      have m0 := hkk.cell HC.out.2.2.1 (fun h => h)
      have c16 := hkk.cell HC.out.2.2.2.1 (fun h => h)
      have m1 := hkk.cell (HR.out.word hx) (fun h => h)
      have k0 : (0 : Int) ≤ (k : Int) := by omega
      have k1 : (k : Int) < (ws.length : Int) := by have := HLN.out; omega
      have wk : IntKind.i64.wrap (0 + (k : Int)) = (k : Int) := by rw [IntKind.wrap_i64]; omega
      have wk2 : IntKind.i64.wrap (k : Int) = (k : Int) := by rw [IntKind.wrap_i64]; omega
      have wk3 : IntKind.i64.wrap ((k : Int) + 1) = (k : Int) + 1 := by rw [IntKind.wrap_i64]; omega
      clear hx hrow hkk hnw
      by_cases hin : 1 ≤ x ∧ x ≤ 64
      · have e1 : decide (1 ≤ x) = true := decide_eq_true hin.1
        have e2 : decide (x ≤ 64) = true := decide_eq_true hin.2
        have wx : IntKind.i64.wrap x = x := by rw [IntKind.wrap_i64]; omega
        have wx1 : IntKind.i64.wrap (x - 1) = x - 1 := by rw [IntKind.wrap_i64]; omega
        have HOX := hid (show ownOf x = x - 1 by unfold ownOf; rw [if_pos hin])
        clear hin
        go_upto_region 5 with fail
        go_quiet (fail)
        go_wp2_with (at_builtin; refine wpList_app _ rfl _ _ 32 rfl 3 _ 1 8 Tryz.underlying32 infoIntO rfl (by decide) (.slice a k cp) k (i64s ((ws.take k).map ownOf)) rfl ?own _ 1 [.int .i64 (x - 1)] rfl ?rd ?one ?byt ?len ?_)
        case own => exact (row_keep HRW.out ((Keep.refl Nil _).drewN _) (fun _ _ h => h)).alloc _
        case rd => exact rd_new _ _ _ _ _ _
        case one => simp [Value.oneCell']
        case byt => omega
        case len => unfold maxLen; omega
        intro a' c' w3 ho hg hs
        have HO3 := hid ho
        have HK3 := hid (Keep.grown ((HKK.out.drewN nq).alloc _) hg (fun j hj => .inr (HNW.out j hj)))
        have HV3 := hid (show ∀ j, (Value.slice a' (k + 1) c').ownBlock = some j → w.heap.size ≤ j from fun j hj => by
          rcases hs j hj with h | h
          · exact HNW.out j h
          · have := HKK.out.size; simp at h; omega)
        clear ho hg hs
        go_wp2
        go_roundw
        case rel =>
          refine ⟨k + 1, _, _, by omega, by go_num, rfl, ?_, HK3.out, HV3.out⟩
          rw [HTK.out, HOX.out]
          have e9 := HO3.out
          simp only [List.map_take] at e9 ⊢
          exact e9
        case measure => simp [intOf]; omega
      · have HOX := hid (show ownOf x = -1 by unfold ownOf; rw [if_neg hin])
        by_cases h1 : 1 ≤ x
        · have e1 : decide (1 ≤ x) = true := decide_eq_true h1
          have e2 : decide (x ≤ 64) = false := decide_eq_false (by omega)
          clear hin h1
          go_upto_region 5 with fail
          go_quiet (fail)
          go_wp2_with (at_builtin; refine wpList_app _ rfl _ _ 32 rfl 3 _ 1 8 Tryz.underlying32 infoIntO rfl (by decide) (.slice a k cp) k (i64s ((ws.take k).map ownOf)) rfl ?own _ 1 [.int .i64 (-1)] rfl ?rd ?one ?byt ?len ?_)
          case own => exact (row_keep HRW.out ((Keep.refl Nil _).drewN _) (fun _ _ h => h)).alloc _
          case rd => exact rd_new _ _ _ _ _ _
          case one => simp [Value.oneCell']
          case byt => omega
          case len => unfold maxLen; omega
          intro a' c' w3 ho hg hs
          have HO3 := hid ho
          have HK3 := hid (Keep.grown ((HKK.out.drewN nq).alloc _) hg (fun j hj => .inr (HNW.out j hj)))
          have HV3 := hid (show ∀ j, (Value.slice a' (k + 1) c').ownBlock = some j → w.heap.size ≤ j from fun j hj => by
            rcases hs j hj with h | h
            · exact HNW.out j h
            · have := HKK.out.size; simp at h; omega)
          clear ho hg hs
          go_wp2
          go_roundw
          case rel =>
            refine ⟨k + 1, _, _, by omega, by go_num, rfl, ?_, HK3.out, HV3.out⟩
            rw [HTK.out, HOX.out]
            have e9 := HO3.out
            simp only [List.map_take] at e9 ⊢
            exact e9
          case measure => simp [intOf]; omega
        · have e1 : decide (1 ≤ x) = false := decide_eq_false h1
          clear hin h1
          go_upto_region 5 with fail
          go_quiet (fail)
          go_wp2_with (at_builtin; refine wpList_app _ rfl _ _ 32 rfl 3 _ 1 8 Tryz.underlying32 infoIntO rfl (by decide) (.slice a k cp) k (i64s ((ws.take k).map ownOf)) rfl ?own _ 1 [.int .i64 (-1)] rfl ?rd ?one ?byt ?len ?_)
          case own => exact (row_keep HRW.out ((Keep.refl Nil _).drewN _) (fun _ _ h => h)).alloc _
          case rd => exact rd_new _ _ _ _ _ _
          case one => simp [Value.oneCell']
          case byt => omega
          case len => unfold maxLen; omega
          intro a' c' w3 ho hg hs
          have HO3 := hid ho
          have HK3 := hid (Keep.grown ((HKK.out.drewN nq).alloc _) hg (fun j hj => .inr (HNW.out j hj)))
          have HV3 := hid (show ∀ j, (Value.slice a' (k + 1) c').ownBlock = some j → w.heap.size ≤ j from fun j hj => by
            rcases hs j hj with h | h
            · exact HNW.out j h
            · have := HKK.out.size; simp at h; omega)
          clear ho hg hs
          go_wp2
          go_roundw
          case rel =>
            refine ⟨k + 1, _, _, by omega, by go_num, rfl, ?_, HK3.out, HV3.out⟩
            rw [HTK.out, HOX.out]
            have e9 := HO3.out
            simp only [List.map_take] at e9 ⊢
            exact e9
          case measure => simp [intOf]; omega
    · obtain rfl : k = c.sl := by omega
      have d1 : decide ((c.sl : Int) < (c.sl : Int)) = false := decide_eq_false (by omega)
      clear hlt
      go_wp2
      go_ret
      have hln : ((ws.take c.sl).map ownOf).length = c.sl := by have := HLN.out; simp; omega
      exact ⟨a, cp, by rw [hln]; rfl, by rw [hln]; exact row_rd HRW.out, HKK.out⟩
end
end Go.Proofs.YtjghenomeindcaaGreat
