/- read: the contract of Step, over the parts. -/
import Derived.Test.YtmafdjhjmnghcaaGreatReadStep
import Derived.Test.YtmafdjhjmnghcaaGreatFieldP
import Derived.Test.YtmafdjhjmnghcaaGreatReadActs
set_option linter.unusedVariables false
set_option linter.unusedSimpArgs false
namespace Go.Proofs.YtmafdjhjmnghcaaGreat
open Go.RowKit Go.Lf
attribute [local go_sem] fld0 fld1 fld2 fld3 fld4 fld5 fld6 fld7 fld8 fld9 fldc fldl
section
variable {w w1 w2 : World} {A : Nat → Prop} {c : Cfg} {b mb L r : Nat} {F G : Nat → Prop} {ws : List Int} {log log' : List Acc} {s s' : RS} {i : Nat}
theorem RIn.quiet {w' : World} (h : RIn w A c b mb L r F G ws log s i) (hk : Keep Nil w w') : RIn w' A c b mb L r F G ws log s i :=
  { h with sp := h.sp.quiet hk, at_ := h.at_.keep hk (fun h => h) }
set_option maxRecDepth 100000 in
set_option maxHeartbeats 4000000 in
theorem rstep_first (h : RIn w A c b mb L r F G ws log s i) (hn : s.next = 23) : Calls Tryz.prog 34 #[.pointer (some ⟨r, 0, none⟩)] w (RStepTo w A c b mb ws log (s.acc (c.tow i) c.descs ws) r 23 (s.step c.lk (s.word (c.tow i) c.descs ws))) := by
  have hidx : ∀ w : World, (Instr.index 175 actsV (.int .u8 23)).run Tryz.prog w = .ok (.func (.func 145) #[] #[]) w := fun _ => by kernel_rfl
  have H := hid h
  have HN := hid hn
  have c8 : w.cell? ⟨r, 8, none⟩ = some (.bool false) := by rw [cell_of h.at_, h.gd.ended]; rfl
  have c9 : w.cell? ⟨r, 9, none⟩ = some (.int .u8 23) := by rw [cell_of h.at_, ← hn]; rfl
  clear h hn
  obtain ⟨s', hs'⟩ : ∃ s', s' = s.step c.lk (s.word (c.tow i) c.descs ws) := ⟨_, rfl⟩
  rw [← hs']
  have HS' := hid hs'
  clear hs'
  go_enter Tryz.func34, Tryz.ntmps34
  go_wp2_with fail
  refine racts_ok.mono ?_
  rintro e w1 ⟨rfl, hk1⟩
  have H1 := hid (H.out.quiet hk1)
  have HK1 := hid hk1
  clear hk1 c8 c9
  go_wp2_with fail
  refine (rfirst_ok H1.out HN.out).mono ?_
  rw [← HS'.out]
  rintro e w2 ⟨rfl, log', hll, A', hlie, hat, hk, hft⟩
  have c8 : w2.cell? ⟨r, 8, none⟩ = some (.bool s'.ended) := by rw [cell_of hat]; rfl
  have HL := hid hlie
  have HAT := hid hat
  have HK := hid hk
  have HF := hid hft
  have HLL := hid hll
  clear hlie hat hk hft hll
  go_wp2
  go_quiet (fail)
  go_wp2
  go_ret2
  refine ⟨rfl, log', HLL.out, A', (StoreL c b mb).keep HL.out ((Keep.refl Nil w2).drewN _) (fun _ _ h => h), HAT.out.keep ((Keep.refl Nil w2).drewN _) (fun h => h), ((HK1.out.mono (fun _ _ h => h.elim)).trans HK.out (fun _ _ h => h)).drewN _, fun k hk => (HF.out k hk).elim .inl (fun e => .inr (by have := HK1.out.size; omega))⟩
set_option maxRecDepth 100000 in
set_option maxHeartbeats 4000000 in
theorem rstep_desc (h : RIn w A c b mb L r F G ws log s i) (hn : s.next = 24) : Calls Tryz.prog 34 #[.pointer (some ⟨r, 0, none⟩)] w (RStepTo w A c b mb ws log (s.acc (c.tow i) c.descs ws) r 24 (s.step c.lk (s.word (c.tow i) c.descs ws))) := by
  have hidx : ∀ w : World, (Instr.index 175 actsV (.int .u8 24)).run Tryz.prog w = .ok (.func (.func 146) #[] #[]) w := fun _ => by kernel_rfl
  have H := hid h
  have HN := hid hn
  have c8 : w.cell? ⟨r, 8, none⟩ = some (.bool false) := by rw [cell_of h.at_, h.gd.ended]; rfl
  have c9 : w.cell? ⟨r, 9, none⟩ = some (.int .u8 24) := by rw [cell_of h.at_, ← hn]; rfl
  clear h hn
  obtain ⟨s', hs'⟩ : ∃ s', s' = s.step c.lk (s.word (c.tow i) c.descs ws) := ⟨_, rfl⟩
  rw [← hs']
  have HS' := hid hs'
  clear hs'
  go_enter Tryz.func34, Tryz.ntmps34
  go_wp2_with fail
  refine racts_ok.mono ?_
  rintro e w1 ⟨rfl, hk1⟩
  have H1 := hid (H.out.quiet hk1)
  have HK1 := hid hk1
  clear hk1 c8 c9
  go_wp2_with fail
  refine (rdesc_ok H1.out HN.out).mono ?_
  rw [← HS'.out]
  rintro e w2 ⟨rfl, log', hll, A', hlie, hat, hk, hft⟩
  have c8 : w2.cell? ⟨r, 8, none⟩ = some (.bool s'.ended) := by rw [cell_of hat]; rfl
  have HL := hid hlie
  have HAT := hid hat
  have HK := hid hk
  have HF := hid hft
  have HLL := hid hll
  clear hlie hat hk hft hll
  go_wp2
  go_quiet (fail)
  go_wp2
  go_ret2
  refine ⟨rfl, log', HLL.out, A', (StoreL c b mb).keep HL.out ((Keep.refl Nil w2).drewN _) (fun _ _ h => h), HAT.out.keep ((Keep.refl Nil w2).drewN _) (fun h => h), ((HK1.out.mono (fun _ _ h => h.elim)).trans HK.out (fun _ _ h => h)).drewN _, fun k hk => (HF.out k hk).elim .inl (fun e => .inr (by have := HK1.out.size; omega))⟩
set_option maxRecDepth 100000 in
set_option maxHeartbeats 4000000 in
theorem rstep_plain (h : RIn w A c b mb L r F G ws log s i) (hn : s.next = 25) : Calls Tryz.prog 34 #[.pointer (some ⟨r, 0, none⟩)] w (RStepTo w A c b mb ws log (s.acc (c.tow i) c.descs ws) r 25 (s.step c.lk (s.word (c.tow i) c.descs ws))) := by
  have hidx : ∀ w : World, (Instr.index 175 actsV (.int .u8 25)).run Tryz.prog w = .ok (.func (.func 147) #[] #[]) w := fun _ => by kernel_rfl
  have H := hid h
  have HN := hid hn
  have c8 : w.cell? ⟨r, 8, none⟩ = some (.bool false) := by rw [cell_of h.at_, h.gd.ended]; rfl
  have c9 : w.cell? ⟨r, 9, none⟩ = some (.int .u8 25) := by rw [cell_of h.at_, ← hn]; rfl
  clear h hn
  obtain ⟨s', hs'⟩ : ∃ s', s' = s.step c.lk (s.word (c.tow i) c.descs ws) := ⟨_, rfl⟩
  rw [← hs']
  have HS' := hid hs'
  clear hs'
  go_enter Tryz.func34, Tryz.ntmps34
  go_wp2_with fail
  refine racts_ok.mono ?_
  rintro e w1 ⟨rfl, hk1⟩
  have H1 := hid (H.out.quiet hk1)
  have HK1 := hid hk1
  clear hk1 c8 c9
  go_wp2_with fail
  refine (rplain_ok H1.out HN.out).mono ?_
  rw [← HS'.out]
  rintro e w2 ⟨rfl, log', hll, A', hlie, hat, hk, hft⟩
  have c8 : w2.cell? ⟨r, 8, none⟩ = some (.bool s'.ended) := by rw [cell_of hat]; rfl
  have HL := hid hlie
  have HAT := hid hat
  have HK := hid hk
  have HF := hid hft
  have HLL := hid hll
  clear hlie hat hk hft hll
  go_wp2
  go_quiet (fail)
  go_wp2
  go_ret2
  refine ⟨rfl, log', HLL.out, A', (StoreL c b mb).keep HL.out ((Keep.refl Nil w2).drewN _) (fun _ _ h => h), HAT.out.keep ((Keep.refl Nil w2).drewN _) (fun h => h), ((HK1.out.mono (fun _ _ h => h.elim)).trans HK.out (fun _ _ h => h)).drewN _, fun k hk => (HF.out k hk).elim .inl (fun e => .inr (by have := HK1.out.size; omega))⟩
set_option maxRecDepth 100000 in
set_option maxHeartbeats 4000000 in
theorem rstep_alt (h : RIn w A c b mb L r F G ws log s i) (hn : s.next = 26) : Calls Tryz.prog 34 #[.pointer (some ⟨r, 0, none⟩)] w (RStepTo w A c b mb ws log (s.acc (c.tow i) c.descs ws) r 26 (s.step c.lk (s.word (c.tow i) c.descs ws))) := by
  have hidx : ∀ w : World, (Instr.index 175 actsV (.int .u8 26)).run Tryz.prog w = .ok (.func (.func 148) #[] #[]) w := fun _ => by kernel_rfl
  have H := hid h
  have HN := hid hn
  have c8 : w.cell? ⟨r, 8, none⟩ = some (.bool false) := by rw [cell_of h.at_, h.gd.ended]; rfl
  have c9 : w.cell? ⟨r, 9, none⟩ = some (.int .u8 26) := by rw [cell_of h.at_, ← hn]; rfl
  clear h hn
  obtain ⟨s', hs'⟩ : ∃ s', s' = s.step c.lk (s.word (c.tow i) c.descs ws) := ⟨_, rfl⟩
  rw [← hs']
  have HS' := hid hs'
  clear hs'
  go_enter Tryz.func34, Tryz.ntmps34
  go_wp2_with fail
  refine racts_ok.mono ?_
  rintro e w1 ⟨rfl, hk1⟩
  have H1 := hid (H.out.quiet hk1)
  have HK1 := hid hk1
  clear hk1 c8 c9
  go_wp2_with fail
  refine (ralt_ok H1.out HN.out).mono ?_
  rw [← HS'.out]
  rintro e w2 ⟨rfl, log', hll, A', hlie, hat, hk, hft⟩
  have c8 : w2.cell? ⟨r, 8, none⟩ = some (.bool s'.ended) := by rw [cell_of hat]; rfl
  have HL := hid hlie
  have HAT := hid hat
  have HK := hid hk
  have HF := hid hft
  have HLL := hid hll
  clear hlie hat hk hft hll
  go_wp2
  go_quiet (fail)
  go_wp2
  go_ret2
  refine ⟨rfl, log', HLL.out, A', (StoreL c b mb).keep HL.out ((Keep.refl Nil w2).drewN _) (fun _ _ h => h), HAT.out.keep ((Keep.refl Nil w2).drewN _) (fun h => h), ((HK1.out.mono (fun _ _ h => h.elim)).trans HK.out (fun _ _ h => h)).drewN _, fun k hk => (HF.out k hk).elim .inl (fun e => .inr (by have := HK1.out.size; omega))⟩
set_option maxRecDepth 100000 in
set_option maxHeartbeats 4000000 in
theorem rstep_again (h : RIn w A c b mb L r F G ws log s i) (hn : s.next = 27) : Calls Tryz.prog 34 #[.pointer (some ⟨r, 0, none⟩)] w (RStepTo w A c b mb ws log (s.acc (c.tow i) c.descs ws) r 27 (s.step c.lk (s.word (c.tow i) c.descs ws))) := by
  have hidx : ∀ w : World, (Instr.index 175 actsV (.int .u8 27)).run Tryz.prog w = .ok (.func (.func 149) #[] #[]) w := fun _ => by kernel_rfl
  have H := hid h
  have HN := hid hn
  have c8 : w.cell? ⟨r, 8, none⟩ = some (.bool false) := by rw [cell_of h.at_, h.gd.ended]; rfl
  have c9 : w.cell? ⟨r, 9, none⟩ = some (.int .u8 27) := by rw [cell_of h.at_, ← hn]; rfl
  clear h hn
  obtain ⟨s', hs'⟩ : ∃ s', s' = s.step c.lk (s.word (c.tow i) c.descs ws) := ⟨_, rfl⟩
  rw [← hs']
  have HS' := hid hs'
  clear hs'
  go_enter Tryz.func34, Tryz.ntmps34
  go_wp2_with fail
  refine racts_ok.mono ?_
  rintro e w1 ⟨rfl, hk1⟩
  have H1 := hid (H.out.quiet hk1)
  have HK1 := hid hk1
  clear hk1 c8 c9
  go_wp2_with fail
  refine (ragain_ok H1.out HN.out).mono ?_
  rw [← HS'.out]
  rintro e w2 ⟨rfl, log', hll, A', hlie, hat, hk, hft⟩
  have c8 : w2.cell? ⟨r, 8, none⟩ = some (.bool s'.ended) := by rw [cell_of hat]; rfl
  have HL := hid hlie
  have HAT := hid hat
  have HK := hid hk
  have HF := hid hft
  have HLL := hid hll
  clear hlie hat hk hft hll
  go_wp2
  go_quiet (fail)
  go_wp2
  go_ret2
  refine ⟨rfl, log', HLL.out, A', (StoreL c b mb).keep HL.out ((Keep.refl Nil w2).drewN _) (fun _ _ h => h), HAT.out.keep ((Keep.refl Nil w2).drewN _) (fun h => h), ((HK1.out.mono (fun _ _ h => h.elim)).trans HK.out (fun _ _ h => h)).drewN _, fun k hk => (HF.out k hk).elim .inl (fun e => .inr (by have := HK1.out.size; omega))⟩
theorem rstep_ok (h : RIn w A c b mb L r F G ws log s i) : Calls Tryz.prog 34 #[.pointer (some ⟨r, 0, none⟩)] w (RStepTo w A c b mb ws log (s.acc (c.tow i) c.descs ws) r s.next (s.step c.lk (s.word (c.tow i) c.descs ws))) := by
  rcases h.gd.nx with hn | hn | hn | hn | hn
  · rw [hn]; exact rstep_first h hn
  · rw [hn]; exact rstep_desc h hn
  · rw [hn]; exact rstep_plain h hn
  · rw [hn]; exact rstep_alt h hn
  · rw [hn]; exact rstep_again h hn
end
end Go.Proofs.YtmafdjhjmnghcaaGreat
