/- pool: Step, Next, Result. -/
import Derived.Test.YtjghenomeindcaaGreatPoolG
set_option linter.unusedVariables false
set_option linter.unusedSimpArgs false
namespace Go.Proofs.YtjghenomeindcaaGreat
open Go.RowKit Go.Lf
section
variable {w w1 w2 w' : World} {A : Nat → Prop} {c : Cfg} {pb mb L ob gb tb m : Nat} {F G : Nat → Prop} {s s' : PSt} {ws' : List Int} {log' : List Acc} {o o' : PO}
set_option maxHeartbeats 2000000 in
theorem cnext_ok (x : Int) (h : w.cell? ⟨tb, 5, none⟩ = some (.int .u8 x)) : Calls Tryz.prog 131 #[.pointer (some ⟨tb, 0, none⟩)] w fun e w' => e = .returned (.int .u8 x) ∧ w = w' := by
  go_enter Tryz.func131, Tryz.ntmps131
  go_wp2
  go_ret
  exact ⟨rfl, rfl⟩
set_option maxHeartbeats 2000000 in
theorem tnext_ok (h : TkAt w tb m pb c o) : Calls Tryz.prog 89 #[.pointer (some ⟨tb, 0, none⟩)] w fun e w' => e = .returned (.int .u8 o.pc) ∧ w = w' := by
  have c5 : w.cell? ⟨tb, 5, none⟩ = some (.int .u8 o.pc) := by rw [cell_of h.head]; rfl
  have HC := hid c5
  clear h c5
  go_enter Tryz.func89, Tryz.ntmps89
  go_wp2_with fail
  refine (cnext_ok _ HC.out).mono ?_
  rintro e w9 ⟨rfl, rfl⟩
  go_wp2
  go_ret
  exact ⟨rfl, rfl⟩
theorem tnext_nil : Calls Tryz.prog 89 #[.pointer none] w fun e w' => e = .returned (.int .u8 0) ∧ w = w' := by
  go_enter Tryz.func89, Tryz.ntmps89
  go_wp2
  go_ret
  exact ⟨rfl, rfl⟩
theorem tstep_nil : Calls Tryz.prog 90 #[.pointer none] w fun e w' => e = .returned (.tuple #[.int .u8 0, .bool false]) ∧ w = w' := by
  go_enter Tryz.func90, Tryz.ntmps90
  go_wp2_with fail
  refine (tnext_nil).mono ?_
  rintro e w9 ⟨rfl, rfl⟩
  go_wp2
  go_ret2
  exact ⟨rfl, rfl⟩
set_option maxRecDepth 100000 in
set_option maxHeartbeats 4000000 in
theorem tstep_4 (h : TkAt w tb m pb c o) (hn : o.pc = 4) (hact : Calls Tryz.prog 80 #[.pointer (some ⟨tb, 0, none⟩)] w fun e w' => e = .returned (.tuple #[]) ∧ TTo w A c pb mb L tb m s' o' w') : Calls Tryz.prog 90 #[.pointer (some ⟨tb, 0, none⟩)] w fun e w' => e = .returned (.tuple #[.int .u8 o.pc, .bool (o'.pc == 0)]) ∧ TTo w A c pb mb L tb m s' o' w' := by
  have c5 : w.cell? ⟨tb, 5, none⟩ = some (.int .u8 4) := by rw [cell_of h.head, ← hn]; rfl
  have c6 : w.cell? ⟨tb, 6, none⟩ = some (.map (some m)) := by rw [cell_of h.head]; rfl
  have hz : tb < w.heap.size := lt_of_block h.head
  have hlk : (Instr.lookup 186 (.map (some m)) (.int .u8 4) false).run Tryz.prog w = .ok (.func (.func 80) #[] #[]) w := by
    obtain ⟨c1, c2, c3, hm⟩ := h.map
    exact run_fget Tryz.underlying186 Tryz.underlying5 hm 4 (i := 0) rfl
  have HACT := hid hact
  have HNX := hid (hn ▸ tnext_ok h)
  rw [hn]
  clear h hn hact
  go_enter Tryz.func90, Tryz.ntmps90
  go_wp2_with fail
  refine HNX.out.mono ?_
  rintro e w9 ⟨rfl, rfl⟩
  go_wp2_with fail
  refine HACT.out.mono ?_
  rintro e w1 ⟨rfl, A1, hl1, hk1, k1, f1⟩
  have y5 : w1.cell? ⟨tb, 5, none⟩ = some (.int .u8 o'.pc) := by rw [cell_of hk1.head]; rfl
  have HL1 := hid hl1
  have HT1 := hid hk1
  have K1 := hid k1
  have FT1 := hid f1
  clear hl1 hk1 k1 f1 c5 c6 hlk
  go_wp2
  go_quiet (fail)
  go_wp2
  go_ret2
  exact ⟨rfl, A1, (PoolL c pb mb L).keep HL1.out ((Keep.refl Nil w1).drewN nq) (fun _ _ h => h), HT1.out.keep ((Keep.refl Nil w1).drewN nq) (fun h => h) (fun h => h), K1.out.drewN nq, FT1.out⟩
set_option maxRecDepth 100000 in
set_option maxHeartbeats 4000000 in
theorem tstep_5 (h : TkAt w tb m pb c o) (hn : o.pc = 5) (hact : Calls Tryz.prog 81 #[.pointer (some ⟨tb, 0, none⟩)] w fun e w' => e = .returned (.tuple #[]) ∧ TTo w A c pb mb L tb m s' o' w') : Calls Tryz.prog 90 #[.pointer (some ⟨tb, 0, none⟩)] w fun e w' => e = .returned (.tuple #[.int .u8 o.pc, .bool (o'.pc == 0)]) ∧ TTo w A c pb mb L tb m s' o' w' := by
  have c5 : w.cell? ⟨tb, 5, none⟩ = some (.int .u8 5) := by rw [cell_of h.head, ← hn]; rfl
  have c6 : w.cell? ⟨tb, 6, none⟩ = some (.map (some m)) := by rw [cell_of h.head]; rfl
  have hz : tb < w.heap.size := lt_of_block h.head
  have hlk : (Instr.lookup 186 (.map (some m)) (.int .u8 5) false).run Tryz.prog w = .ok (.func (.func 81) #[] #[]) w := by
    obtain ⟨c1, c2, c3, hm⟩ := h.map
    exact run_fget Tryz.underlying186 Tryz.underlying5 hm 5 (i := 1) rfl
  have HACT := hid hact
  have HNX := hid (hn ▸ tnext_ok h)
  rw [hn]
  clear h hn hact
  go_enter Tryz.func90, Tryz.ntmps90
  go_wp2_with fail
  refine HNX.out.mono ?_
  rintro e w9 ⟨rfl, rfl⟩
  go_wp2_with fail
  refine HACT.out.mono ?_
  rintro e w1 ⟨rfl, A1, hl1, hk1, k1, f1⟩
  have y5 : w1.cell? ⟨tb, 5, none⟩ = some (.int .u8 o'.pc) := by rw [cell_of hk1.head]; rfl
  have HL1 := hid hl1
  have HT1 := hid hk1
  have K1 := hid k1
  have FT1 := hid f1
  clear hl1 hk1 k1 f1 c5 c6 hlk
  go_wp2
  go_quiet (fail)
  go_wp2
  go_ret2
  exact ⟨rfl, A1, (PoolL c pb mb L).keep HL1.out ((Keep.refl Nil w1).drewN nq) (fun _ _ h => h), HT1.out.keep ((Keep.refl Nil w1).drewN nq) (fun h => h) (fun h => h), K1.out.drewN nq, FT1.out⟩
set_option maxRecDepth 100000 in
set_option maxHeartbeats 4000000 in
theorem tstep_6 (h : TkAt w tb m pb c o) (hn : o.pc = 6) (hact : Calls Tryz.prog 82 #[.pointer (some ⟨tb, 0, none⟩)] w fun e w' => e = .returned (.tuple #[]) ∧ TTo w A c pb mb L tb m s' o' w') : Calls Tryz.prog 90 #[.pointer (some ⟨tb, 0, none⟩)] w fun e w' => e = .returned (.tuple #[.int .u8 o.pc, .bool (o'.pc == 0)]) ∧ TTo w A c pb mb L tb m s' o' w' := by
  have c5 : w.cell? ⟨tb, 5, none⟩ = some (.int .u8 6) := by rw [cell_of h.head, ← hn]; rfl
  have c6 : w.cell? ⟨tb, 6, none⟩ = some (.map (some m)) := by rw [cell_of h.head]; rfl
  have hz : tb < w.heap.size := lt_of_block h.head
  have hlk : (Instr.lookup 186 (.map (some m)) (.int .u8 6) false).run Tryz.prog w = .ok (.func (.func 82) #[] #[]) w := by
    obtain ⟨c1, c2, c3, hm⟩ := h.map
    exact run_fget Tryz.underlying186 Tryz.underlying5 hm 6 (i := 2) rfl
  have HACT := hid hact
  have HNX := hid (hn ▸ tnext_ok h)
  rw [hn]
  clear h hn hact
  go_enter Tryz.func90, Tryz.ntmps90
  go_wp2_with fail
  refine HNX.out.mono ?_
  rintro e w9 ⟨rfl, rfl⟩
  go_wp2_with fail
  refine HACT.out.mono ?_
  rintro e w1 ⟨rfl, A1, hl1, hk1, k1, f1⟩
  have y5 : w1.cell? ⟨tb, 5, none⟩ = some (.int .u8 o'.pc) := by rw [cell_of hk1.head]; rfl
  have HL1 := hid hl1
  have HT1 := hid hk1
  have K1 := hid k1
  have FT1 := hid f1
  clear hl1 hk1 k1 f1 c5 c6 hlk
  go_wp2
  go_quiet (fail)
  go_wp2
  go_ret2
  exact ⟨rfl, A1, (PoolL c pb mb L).keep HL1.out ((Keep.refl Nil w1).drewN nq) (fun _ _ h => h), HT1.out.keep ((Keep.refl Nil w1).drewN nq) (fun h => h) (fun h => h), K1.out.drewN nq, FT1.out⟩
set_option maxHeartbeats 2000000 in
theorem gnext_ok (h : GvAt w tb m pb c o) : Calls Tryz.prog 94 #[.pointer (some ⟨tb, 0, none⟩)] w fun e w' => e = .returned (.int .u8 o.pc) ∧ w = w' := by
  have c5 : w.cell? ⟨tb, 5, none⟩ = some (.int .u8 o.pc) := by rw [cell_of h.head]; rfl
  have HC := hid c5
  clear h c5
  go_enter Tryz.func94, Tryz.ntmps94
  go_wp2_with fail
  refine (cnext_ok _ HC.out).mono ?_
  rintro e w9 ⟨rfl, rfl⟩
  go_wp2
  go_ret
  exact ⟨rfl, rfl⟩
theorem gnext_nil : Calls Tryz.prog 94 #[.pointer none] w fun e w' => e = .returned (.int .u8 0) ∧ w = w' := by
  go_enter Tryz.func94, Tryz.ntmps94
  go_wp2
  go_ret
  exact ⟨rfl, rfl⟩
theorem gstep_nil : Calls Tryz.prog 95 #[.pointer none] w fun e w' => e = .returned (.tuple #[.int .u8 0, .bool false]) ∧ w = w' := by
  go_enter Tryz.func95, Tryz.ntmps95
  go_wp2_with fail
  refine (gnext_nil).mono ?_
  rintro e w9 ⟨rfl, rfl⟩
  go_wp2
  go_ret2
  exact ⟨rfl, rfl⟩
set_option maxRecDepth 100000 in
set_option maxHeartbeats 4000000 in
theorem gstep_4 (h : GvAt w tb m pb c o) (hn : o.pc = 4) (hact : Calls Tryz.prog 85 #[.pointer (some ⟨tb, 0, none⟩)] w fun e w' => e = .returned (.tuple #[]) ∧ GTo w A c pb mb L tb m s' o' w') : Calls Tryz.prog 95 #[.pointer (some ⟨tb, 0, none⟩)] w fun e w' => e = .returned (.tuple #[.int .u8 o.pc, .bool (o'.pc == 0)]) ∧ GTo w A c pb mb L tb m s' o' w' := by
  have c5 : w.cell? ⟨tb, 5, none⟩ = some (.int .u8 4) := by rw [cell_of h.head, ← hn]; rfl
  have c6 : w.cell? ⟨tb, 6, none⟩ = some (.map (some m)) := by rw [cell_of h.head]; rfl
  have hz : tb < w.heap.size := lt_of_block h.head
  have hlk : (Instr.lookup 194 (.map (some m)) (.int .u8 4) false).run Tryz.prog w = .ok (.func (.func 85) #[] #[]) w := by
    obtain ⟨c1, c2, c3, hm⟩ := h.map
    exact run_fget Tryz.underlying194 Tryz.underlying5 hm 4 (i := 0) rfl
  have HACT := hid hact
  have HNX := hid (hn ▸ gnext_ok h)
  rw [hn]
  clear h hn hact
  go_enter Tryz.func95, Tryz.ntmps95
  go_wp2_with fail
  refine HNX.out.mono ?_
  rintro e w9 ⟨rfl, rfl⟩
  go_wp2_with fail
  refine HACT.out.mono ?_
  rintro e w1 ⟨rfl, A1, hl1, hk1, k1, f1⟩
  have y5 : w1.cell? ⟨tb, 5, none⟩ = some (.int .u8 o'.pc) := by rw [cell_of hk1.head]; rfl
  have HL1 := hid hl1
  have HT1 := hid hk1
  have K1 := hid k1
  have FT1 := hid f1
  clear hl1 hk1 k1 f1 c5 c6 hlk
  go_wp2
  go_quiet (fail)
  go_wp2
  go_ret2
  exact ⟨rfl, A1, (PoolL c pb mb L).keep HL1.out ((Keep.refl Nil w1).drewN nq) (fun _ _ h => h), HT1.out.keep ((Keep.refl Nil w1).drewN nq) (fun h => h) (fun h => h), K1.out.drewN nq, FT1.out⟩
set_option maxRecDepth 100000 in
set_option maxHeartbeats 4000000 in
theorem gstep_7 (h : GvAt w tb m pb c o) (hn : o.pc = 7) (hact : Calls Tryz.prog 86 #[.pointer (some ⟨tb, 0, none⟩)] w fun e w' => e = .returned (.tuple #[]) ∧ GTo w A c pb mb L tb m s' o' w') : Calls Tryz.prog 95 #[.pointer (some ⟨tb, 0, none⟩)] w fun e w' => e = .returned (.tuple #[.int .u8 o.pc, .bool (o'.pc == 0)]) ∧ GTo w A c pb mb L tb m s' o' w' := by
  have c5 : w.cell? ⟨tb, 5, none⟩ = some (.int .u8 7) := by rw [cell_of h.head, ← hn]; rfl
  have c6 : w.cell? ⟨tb, 6, none⟩ = some (.map (some m)) := by rw [cell_of h.head]; rfl
  have hz : tb < w.heap.size := lt_of_block h.head
  have hlk : (Instr.lookup 194 (.map (some m)) (.int .u8 7) false).run Tryz.prog w = .ok (.func (.func 86) #[] #[]) w := by
    obtain ⟨c1, c2, c3, hm⟩ := h.map
    exact run_fget Tryz.underlying194 Tryz.underlying5 hm 7 (i := 1) rfl
  have HACT := hid hact
  have HNX := hid (hn ▸ gnext_ok h)
  rw [hn]
  clear h hn hact
  go_enter Tryz.func95, Tryz.ntmps95
  go_wp2_with fail
  refine HNX.out.mono ?_
  rintro e w9 ⟨rfl, rfl⟩
  go_wp2_with fail
  refine HACT.out.mono ?_
  rintro e w1 ⟨rfl, A1, hl1, hk1, k1, f1⟩
  have y5 : w1.cell? ⟨tb, 5, none⟩ = some (.int .u8 o'.pc) := by rw [cell_of hk1.head]; rfl
  have HL1 := hid hl1
  have HT1 := hid hk1
  have K1 := hid k1
  have FT1 := hid f1
  clear hl1 hk1 k1 f1 c5 c6 hlk
  go_wp2
  go_quiet (fail)
  go_wp2
  go_ret2
  exact ⟨rfl, A1, (PoolL c pb mb L).keep HL1.out ((Keep.refl Nil w1).drewN nq) (fun _ _ h => h), HT1.out.keep ((Keep.refl Nil w1).drewN nq) (fun h => h) (fun h => h), K1.out.drewN nq, FT1.out⟩
set_option maxRecDepth 100000 in
set_option maxHeartbeats 4000000 in
theorem gstep_8 (h : GvAt w tb m pb c o) (hn : o.pc = 8) (hact : Calls Tryz.prog 87 #[.pointer (some ⟨tb, 0, none⟩)] w fun e w' => e = .returned (.tuple #[]) ∧ GTo w A c pb mb L tb m s' o' w') : Calls Tryz.prog 95 #[.pointer (some ⟨tb, 0, none⟩)] w fun e w' => e = .returned (.tuple #[.int .u8 o.pc, .bool (o'.pc == 0)]) ∧ GTo w A c pb mb L tb m s' o' w' := by
  have c5 : w.cell? ⟨tb, 5, none⟩ = some (.int .u8 8) := by rw [cell_of h.head, ← hn]; rfl
  have c6 : w.cell? ⟨tb, 6, none⟩ = some (.map (some m)) := by rw [cell_of h.head]; rfl
  have hz : tb < w.heap.size := lt_of_block h.head
  have hlk : (Instr.lookup 194 (.map (some m)) (.int .u8 8) false).run Tryz.prog w = .ok (.func (.func 87) #[] #[]) w := by
    obtain ⟨c1, c2, c3, hm⟩ := h.map
    exact run_fget Tryz.underlying194 Tryz.underlying5 hm 8 (i := 2) rfl
  have HACT := hid hact
  have HNX := hid (hn ▸ gnext_ok h)
  rw [hn]
  clear h hn hact
  go_enter Tryz.func95, Tryz.ntmps95
  go_wp2_with fail
  refine HNX.out.mono ?_
  rintro e w9 ⟨rfl, rfl⟩
  go_wp2_with fail
  refine HACT.out.mono ?_
  rintro e w1 ⟨rfl, A1, hl1, hk1, k1, f1⟩
  have y5 : w1.cell? ⟨tb, 5, none⟩ = some (.int .u8 o'.pc) := by rw [cell_of hk1.head]; rfl
  have HL1 := hid hl1
  have HT1 := hid hk1
  have K1 := hid k1
  have FT1 := hid f1
  clear hl1 hk1 k1 f1 c5 c6 hlk
  go_wp2
  go_quiet (fail)
  go_wp2
  go_ret2
  exact ⟨rfl, A1, (PoolL c pb mb L).keep HL1.out ((Keep.refl Nil w1).drewN nq) (fun _ _ h => h), HT1.out.keep ((Keep.refl Nil w1).drewN nq) (fun h => h) (fun h => h), K1.out.drewN nq, FT1.out⟩
/-- What Result says. -/
def PO.res (o : PO) : Int × Int × Int := if o.pc = 0 then (o.tw, o.fl, o.e) else (0, 0, 8)
theorem tres_nil : Calls Tryz.prog 92 #[.pointer none] w fun e w' => e = .returned (.tuple #[.int .i64 0, .int .i64 0, .int .i64 1]) ∧ w = w' := by
  go_enter Tryz.func92, Tryz.ntmps92
  go_wp2
  go_ret3
  exact ⟨rfl, rfl⟩
set_option maxHeartbeats 4000000 in
theorem tres_ok (h : TkAt w tb m pb c o) (a b e : Int) (hr : PO.res o = (a, b, e)) : Calls Tryz.prog 92 #[.pointer (some ⟨tb, 0, none⟩)] w fun e' w' => e' = .returned (.tuple #[.int .i64 a, .int .i64 b, .int .i64 e]) ∧ Keep Nil w w' := by
  have c2 : w.cell? ⟨tb, 2, none⟩ = some (.int .i64 o.tw) := by rw [cell_of h.head]; rfl
  have c5 : w.cell? ⟨tb, 5, none⟩ = some (.int .u8 o.pc) := by rw [cell_of h.head]; rfl
  have c8 : w.cell? ⟨tb, 8, none⟩ = some (.int .i64 o.fl) := by rw [cell_of h.head]; rfl
  have c10 : w.cell? ⟨tb, 10, none⟩ = some (.int .i64 o.e) := by rw [cell_of h.head]; rfl
  clear h
  unfold PO.res at hr
  by_cases h1 : o.pc = 0
  · have d1 : (o.pc != 0) = false := by simpa using h1
    rw [if_pos h1] at hr
    simp only [Prod.mk.injEq] at hr
    obtain ⟨rfl, rfl, rfl⟩ := hr
    clear h1
    go_enter Tryz.func92, Tryz.ntmps92
    go_wp2
    go_quiet (fail)
    go_wp2
    go_ret3
    exact ⟨rfl, (Keep.refl _ _).drewN nq⟩
  · have d1 : (o.pc != 0) = true := by simpa using h1
    rw [if_neg h1] at hr
    simp only [Prod.mk.injEq] at hr
    obtain ⟨rfl, rfl, rfl⟩ := hr
    clear h1
    go_enter Tryz.func92, Tryz.ntmps92
    go_wp2
    go_ret3
    exact ⟨rfl, Keep.refl _ _⟩
end
end Go.Proofs.YtjghenomeindcaaGreat
