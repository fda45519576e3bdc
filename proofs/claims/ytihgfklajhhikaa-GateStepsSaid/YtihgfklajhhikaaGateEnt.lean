/- gate: the operation Enter: Next, Step; Open; Wait: contracts. -/
import Derived.Test.YtihgfklajhhikaaGateWait
import Derived.Test.YtihgfklajhhikaaGatePl2
set_option linter.unusedVariables false
set_option linter.unusedSimpArgs false
namespace Go.Proofs.Ytihgfklajhhikaa
open Go.RowKit Go.Lf
section
variable {w : World} {g r mb eb sb : Nat} {F : Nat → Prop} {base : Int} {n : Nat} {ml : List (Int × Value)} {ws : List Int} {log : List Acc} {t a c : Int}
theorem GEnterAt.cells (h : GEnterAt w eb mb t a sb) : w.cell? ⟨eb, 0, none⟩ = some (ptr mb) ∧ w.cell? ⟨eb, 1, none⟩ = some (.int .i64 t) ∧ w.cell? ⟨eb, 2, none⟩ = some (.int .i64 a) ∧ w.cell? ⟨eb, 3, none⟩ = some (.int .i64 (a + 1)) ∧ w.cell? ⟨eb, 4, none⟩ = some (.int .i64 (a + 2)) ∧ w.cell? ⟨eb, 6, none⟩ = some (ptr sb) := by
  refine ⟨?_, ?_, ?_, ?_, ?_, ?_⟩ <;> (rw [cell_of h]; rfl)
theorem SecAt.cells {e : Bool} (h : SecAt w sb c e) : w.cell? ⟨sb, 0, none⟩ = some (.int .i64 c) ∧ w.cell? ⟨sb, 1, none⟩ = some (.bool e) := by
  refine ⟨?_, ?_⟩ <;> (rw [cell_of h]; rfl)
/-- What an Enter does next. -/
def gepc (c : Int) (e : Bool) : Int := if e then 0 else if c < 0 then 15 else 16
set_option maxHeartbeats 1000000 in
theorem genext_any {e : Bool} (h : GEnterAt w eb mb t a sb) (hs : SecAt w sb c e) : Calls Try.prog 94 #[ptr eb] w fun en w' => en = .returned (.int .u8 (gepc c e)) ∧ w = w' := by
  obtain ⟨p0, p1, p2, p3, p4, p6⟩ := h.cells
  obtain ⟨s0, s1⟩ := hs.cells
  clear h hs p0 p1 p2 p3 p4
  cases e with
  | true =>
    rw [show gepc c true = 0 from rfl]
    go_enter Try.func94, Try.ntmps94
    go_wp2
    go_ret
    exact ⟨rfl, rfl⟩
  | false =>
    by_cases hc : c < 0
    · rw [show gepc c false = 15 from if_pos hc]
      have d1 : decide (c < 0) = true := decide_eq_true hc
      clear hc
      go_enter Try.func94, Try.ntmps94
      go_wp2
      go_ret
      exact ⟨rfl, rfl⟩
    · rw [show gepc c false = 16 from if_neg hc]
      have d1 : decide (c < 0) = false := decide_eq_false hc
      clear hc
      go_enter Try.func94, Try.ntmps94
      go_wp2
      go_ret
      exact ⟨rfl, rfl⟩
theorem genext_nil : Calls Try.prog 94 #[.pointer none] w fun e w' => e = .returned (.int .u8 0) ∧ w = w' := by
  go_enter Try.func94, Try.ntmps94
  go_wp2
  go_ret
  exact ⟨rfl, rfl⟩
/-- Behind a step of an Enter: the memory and the section. -/
def GEnSt (w : World) (sb mb : Nat) (F : Nat → Prop) (c : Int) (e : Bool) (ws : List Int) (log : List Acc) (w' : World) : Prop :=
  ∃ F', MemAt w' mb F' ws log ∧ SecAt w' sb c e ∧ Keep (fun k => F k ∨ k = sb) w w' ∧ Foot w F F'
theorem gens_mk {w3 : World} {F3 : Nat → Prop} {c0 : Int} {e0 : Bool} {ws' : List Int} {log' : List Acc} (m3 : MemAt w3 mb F3 ws' log') (s3 : SecAt w3 sb c0 e0) (kc : Keep F w w3) (f3 : Foot w F F3) (nf : ¬ F3 sb) (u c : Int) (h : u = c) :
    GEnSt w sb mb F c e0 ws' log' ((w3.setCell ⟨sb, 0, none⟩ (.int .i64 u)).drew) := by
  have kf : Keep (fun k => k = sb) w3 ((w3.setCell ⟨sb, 0, none⟩ (.int .i64 u)).drew) := (Keep.setCell (S := fun k => k = sb) (p := ⟨sb, 0, none⟩) (Keep.refl _ w3) (.inl rfl) _).drew
  subst h
  exact ⟨F3, m3.keep kf (fun k hk e => nf (e ▸ hk)), set_same (i := 0) s3 (.int .i64 u), (kc.mono (T := fun k => F k ∨ k = sb) (fun _ _ h => .inl h)).trans kf (fun _ _ h => .inr h), f3⟩
theorem gens_mk1 {w3 : World} {F3 : Nat → Prop} {c0 : Int} {e0 : Bool} {ws' : List Int} {log' : List Acc} (m3 : MemAt w3 mb F3 ws' log') (s3 : SecAt w3 sb c0 e0) (kc : Keep F w w3) (f3 : Foot w F F3) (nf : ¬ F3 sb) :
    GEnSt w sb mb F c0 true ws' log' (w3.setCell ⟨sb, 1, none⟩ (.bool true)) := by
  have kf : Keep (fun k => k = sb) w3 (w3.setCell ⟨sb, 1, none⟩ (.bool true)) := Keep.setCell (S := fun k => k = sb) (p := ⟨sb, 1, none⟩) (Keep.refl _ w3) (.inl rfl) _
  exact ⟨F3, m3.keep kf (fun k hk e => nf (e ▸ hk)), set_same (i := 1) s3 (.bool true), (kc.mono (T := fun k => F k ∨ k = sb) (fun _ _ h => .inl h)).trans kf (fun _ _ h => .inr h), f3⟩
theorem gestep_nil : Calls Try.prog 55 #[.pointer none] w fun e w' => e = .returned (.tuple #[.int .u8 0, .bool false]) ∧ w = w' := by
  go_enter Try.func55, Try.ntmps55
  go_wp2_with fail
  refine genext_nil.mono ?_
  rintro e w' ⟨rfl, rfl⟩
  go_wp2
  go_ret2
  exact ⟨rfl, rfl⟩
set_option maxHeartbeats 1000000 in
theorem gestep_idle (h : GEnterAt w eb mb t a sb) (hs : SecAt w sb c true) : Calls Try.prog 55 #[ptr eb] w fun e w' => e = .returned (.tuple #[.int .u8 0, .bool false]) ∧ w = w' := by
  have HN := hid (genext_any h hs)
  rw [show gepc c true = 0 from rfl] at HN
  clear h hs
  go_enter Try.func55, Try.ntmps55
  go_wp2_with fail
  refine HN.out.mono ?_
  rintro e w' ⟨rfl, rfl⟩
  go_wp2
  go_ret2
  exact ⟨rfl, rfl⟩
set_option maxRecDepth 100000 in
set_option maxHeartbeats 4000000 in
theorem gestep_gate (hm : MemAt w mb F ws log) (h : GEnterAt w eb mb t a sb) (hs : SecAt w sb (-1) false) (fe : ¬ F eb) (fs : ¬ F sb) (t0 : 0 ≤ t) (t1 : t < 64) (a0 : 0 ≤ a) (x : Nat) (hx : ws[a.toNat]? = some (x : Int)) (hlog : log.length < 1000000000000) :
    Calls Try.prog 55 #[ptr eb] w fun e w' => e = .returned (.tuple #[.int .u8 15, .bool false]) ∧ GEnSt w sb mb F (a + 1 + (x % 2 : Nat)) false ws (log ++ [⟨t, a, 1, x, x, false⟩]) w' := by
  have HN := hid (genext_any h hs)
  rw [show gepc (-1) false = 15 from rfl] at HN
  obtain ⟨p0, p1, p2, p3, p4, p6⟩ := h.cells
  have HM := hid hm
  have H := hid h
  have HS := hid hs
  have HX := hid hx
  have FE := hid fe
  have FS := hid fs
  have KD := hid ((Keep.refl Nil w).drew)
  have nes : ¬ eb = sb := gtype_ne h hs (by decide)
  have tm : (x : Int).tmod 2 = ((x % 2 : Nat) : Int) := by rw [Int.tmod_eq_emod_of_nonneg (by omega)]; omega
  have hz : w.heap.size ≤ w.drew.heap.size := Nat.le_refl _
  obtain ⟨m, hmm⟩ : ∃ m, m = x % 2 := ⟨_, rfl⟩
  rw [← hmm] at tm ⊢
  have m2 : m = 0 ∨ m = 1 := by omega
  obtain ⟨xi, hxi⟩ : ∃ xi : Int, xi = (x : Int) := ⟨_, rfl⟩
  rw [← hxi] at tm HX ⊢
  have xi0 : 0 ≤ xi := by omega
  clear hm h hs hx fe fs hmm hxi
  rcases m2 with rfl | rfl
  all_goals
    have wr1 : IntKind.u64.wrap 1 = 1 := rfl
    have wr2 : IntKind.u64.wrap 2 = 2 := rfl
    go_enter Try.func55, Try.ntmps55
    go_wp2_with fail
    refine HN.out.mono ?_
    rintro e w' ⟨rfl, rfl⟩
    go_wp2
    go_region_held3 (fun w' => w'.cell? ⟨eb, 0, none⟩ = some (.pointer (some ⟨mb, 0, none⟩)) ∧ w'.cell? ⟨eb, 1, none⟩ = some (.int .i64 t) ∧ w'.cell? ⟨eb, 2, none⟩ = some (.int .i64 a)) (go_keep)
      ((go_at_call 95; (with_reducible refine (load_ok (HM.out.keep KD.out (fun _ _ h => h)) t a xi t0 t1 a0 HX.out hlog).mono ?_); rintro e w3 ⟨rfl, F3, hm3, k3, f3⟩; have KC := hid ((KD.out.mono (T := F) (fun _ _ h => h.elim)).trans k3 (fun _ _ h => h)); have e3 := KC.out.at H.out FE.out; obtain ⟨q0, q1, q2, q3, q4, q6⟩ := GEnterAt.cells e3; have s3 := KC.out.at HS.out FS.out; have y0 := cell_of s3 0; have z0 := free_of s3 0; have S3 := hid s3; have M3 := hid hm3; have F3' := hid f3; clear hm3 k3 f3 e3 s3))
    have nf3 := hid (show ¬ F3 sb from fun hF => (F3'.out _ hF).elim FS.out (fun h => by have := lt_of_block HS.out; simp at h; omega))
    clear p0 p1 p2 p3 p4 p6 q0 q1 q2 HN
    have nk : ∀ (u : Value) (k : Nat), F3 k → ¬ k = sb := fun _ k hk e => nf3.out (e ▸ hk)
    have NK := hid nk
    clear nk
    go_wp2
    go_still_tail 14, (by kernel_rfl)
    change wpList _ _ _ _ _ w3.drew
    go_wp2
    go_ret2
    exact ⟨rfl, gens_mk M3.out S3.out KC.out F3'.out nf3.out _ _ (by simp; try omega)⟩
set_option maxRecDepth 100000 in
set_option maxHeartbeats 4000000 in
theorem gestep_count (hm : MemAt w mb F ws log) (h : GEnterAt w eb mb t a sb) (cN : Nat) (hs : SecAt w sb (cN : Int) false) (fe : ¬ F eb) (fs : ¬ F sb) (t0 : 0 ≤ t) (t1 : t < 64) (x : Int) (hx : ws[cN]? = some x) (x0 : 0 ≤ x) (x1 : x < 18446744073709551616) (hlog : log.length < 1000000000000) :
    Calls Try.prog 55 #[ptr eb] w fun e w' => e = .returned (.tuple #[.int .u8 16, .bool true]) ∧ GEnSt w sb mb F cN true (ws.set cN (IntKind.u64.wrap (x + 1))) (log ++ [⟨t, cN, 3, x, IntKind.u64.wrap (x + 1), false⟩]) w' := by
  have HN := hid (genext_any h hs)
  rw [show gepc (cN : Int) false = 16 by unfold gepc; rw [if_neg (by decide), if_neg (by omega)]] at HN
  obtain ⟨p0, p1, p2, p3, p4, p6⟩ := h.cells
  have s0 := hs.cells.1
  have HM := hid hm
  have H := hid h
  have HS := hid hs
  have HX := hid hx
  have FE := hid fe
  have FS := hid fs
  have KD := hid ((Keep.refl Nil w).drew)
  have nes : ¬ eb = sb := gtype_ne h hs (by decide)
  obtain ⟨su, hsu⟩ : ∃ su, su = IntKind.u64.wrap (x + 1) := ⟨_, rfl⟩
  have HSU := hid hsu
  rw [← hsu]
  clear hm h hs hx fe fs p2 p3 p4 hsu
  go_enter Try.func55, Try.ntmps55
  go_wp2_with fail
  refine HN.out.mono ?_
  rintro e w' ⟨rfl, rfl⟩
  go_wp2
  go_region_held3 (fun w' => w'.cell? ⟨eb, 0, none⟩ = some (.pointer (some ⟨mb, 0, none⟩)) ∧ w'.cell? ⟨eb, 1, none⟩ = some (.int .i64 t) ∧ w'.cell? ⟨eb, 6, none⟩ = some (.pointer (some ⟨sb, 0, none⟩)) ∧ w'.cell? ⟨sb, 0, none⟩ = some (.int .i64 cN)) (go_keep)
    ((go_at_call 96; (with_reducible refine (add_ok (HM.out.keep KD.out (fun _ _ h => h)) t cN x 1 t0 t1 (by omega) (by simpa using HX.out) x0 x1 hlog).mono ?_); rintro e w3 ⟨rfl, hq⟩; rw [← HSU.out] at hq; obtain ⟨F3, hm3, k3, f3⟩ := hq; have KC := hid ((KD.out.mono (T := F) (fun _ _ h => h.elim)).trans k3 (fun _ _ h => h)); have e3 := KC.out.at H.out FE.out; obtain ⟨q0, q1, q2, q3, q4, q6⟩ := GEnterAt.cells e3; have s3 := KC.out.at HS.out FS.out; have y0 := cell_of s3 0; have y1 := cell_of s3 1; have z1 := free_of s3 1; have S3 := hid s3; have M3 := hid hm3; have F3' := hid f3; clear hm3 k3 f3 e3 s3))
  have nf3 := hid (show ¬ F3 sb from fun hF => (F3'.out _ hF).elim FS.out (fun h => by have := lt_of_block HS.out; simp at h; omega))
  clear p0 p1 p6 q0 q1 q2 q3 q4 HN s0
  go_wp2
  go_ret2
  exact ⟨rfl, gens_mk1 (by simpa using M3.out) S3.out KC.out F3'.out nf3.out⟩

/-! Open. -/
/-- The slots below k whose sections are entered. -/
def openTo (en : Nat → Bool) (k : Nat) : List Nat := (List.range k).filter en
theorem openTo_succ (en : Nat → Bool) (k : Nat) : openTo en (k + 1) = if en k then openTo en k ++ [k] else openTo en k := by
  unfold openTo
  rw [List.range_succ, List.filter_append]
  by_cases h : en k = true <;> simp [h]
theorem openTo_len (en : Nat → Bool) (k : Nat) : (openTo en k).length ≤ k := by
  have := List.length_filter_le en (List.range k)
  simpa [openTo] using this
set_option maxRecDepth 100000 in
set_option maxHeartbeats 4000000 in
theorem gopen_ok (h : GEngAt w g r mb base n ml) (en : Nat → Bool) (hen : ∀ k : Nat, k < 64 → (mlook ml k = none ∧ en k = false) ∨ ∃ sb c, mlook ml k = some (ptr sb) ∧ SecAt w sb c (en k)) :
    Calls Try.prog 22 #[ptr g] w (NumsTo w (openTo en 64)) := by
  have H := hid h
  have HEN := hid hen
  clear h hen
  go_enter Try.func22, Try.ntmps22
  go_wp2
  go_loopw [3, 9] (fun v' i wr => ∃ (k : Nat) (v : Value), k ≤ 64 ∧ i = .int .i64 k ∧ v' = v ∧ wr.ownsRow 0 3 1 v (openTo en k).length (nums (openTo en k)) ∧ Keep Nil w wr ∧ ∀ k, v.ownBlock = some k → w.heap.size ≤ k) (fun _ i _ => 64 - (intOf i).toNat)
  case atStart => exact ⟨0, _, Nat.zero_le _, rfl, rfl, World.ownsRow_nil _ _ _ _, Keep.refl _ _, by simp [Value.ownBlock]⟩
  case round =>
    obtain ⟨k, v, hk, rfl, hvv, ho, hkk, hv⟩ := hrel
    obtain rfl : v = _ := hvv.symm
    have HO := hid ho
    have HK := hid hkk
    have HV := hid hv
    have hml := openTo_len en k
    have HM := hid (openTo_succ en k)
    have c3 := hkk.cell H.out.cells.2.2.2 (fun h => h)
    clear ho hkk hv
    by_cases hlt : k < 64
    · have hl := glook (H.out.map.keep HK.out (fun h => h)) k
      rcases HEN.out k hlt with ⟨h1, h2⟩ | ⟨sb, c, h1, h2⟩
      · rw [h1] at hl
        simp only [Option.getD_none, Option.isSome_none] at hl
        have hM := hid (HM.out.trans (if_neg (by rw [h2]; decide)))
        clear h1 h2 HM
        go_wp2
        go_roundw
        case rel => exact ⟨k + 1, _, by omega, by go_num, rfl, by rw [hM.out]; exact HO.out, HK.out, HV.out⟩
        case measure => simp [intOf]; omega
      · rw [h1] at hl
        simp only [Option.getD_some, Option.isSome_some] at hl
        have s1 := HK.out.cell h2.cells.2 (fun h => h)
        generalize en k = b at *
        cases b with
        | false =>
          have hM := hid (HM.out.trans (if_neg (by decide)))
          clear h1 h2 HM
          go_wp2
          go_roundw
          case rel => exact ⟨k + 1, _, by omega, by go_num, rfl, by rw [hM.out]; exact HO.out, HK.out, HV.out⟩
          case measure => simp [intOf]; omega
        | true =>
          have hM := hid (HM.out.trans (if_pos rfl))
          clear h1 h2 HM
          go_wp2_with (at_builtin; refine wpList_app _ rfl _ _ 39 rfl 3 _ 1 8 Try.underlying39 infoInt rfl (by decide) v (openTo en k).length (nums (openTo en k)) rfl ?own _ 1 [.int .i64 k] rfl ?rd ?one ?byt ?len ?_)
          case own => exact HO.out.alloc _
          case rd => exact rd_new _ _ _ _ _ _
          case one => simp [Value.oneCell']
          case byt => omega
          case len => unfold maxLen; omega
          intro a' c' w3 ho hg hs
          have HO3 := hid ho
          have HK3 := hid (Keep.grown (HK.out.alloc _) hg (fun j hj => .inr (HV.out j hj)))
          have HV3 := hid (show ∀ j, (Value.slice a' ((openTo en k).length + 1) c').ownBlock = some j → w.heap.size ≤ j from fun j hj => by
            rcases hs j hj with h | h
            · exact HV.out j h
            · have := HK.out.size; simp at h; omega)
          clear ho hg hs
          go_wp2
          go_roundw
          case rel =>
            refine ⟨k + 1, _, by omega, by go_num, rfl, ?_, HK3.out, HV3.out⟩
            rw [hM.out, nums_snoc, List.length_append]
            exact HO3.out
          case measure => simp [intOf]; omega
    · obtain rfl : k = 64 := by omega
      go_wp2
      go_ret
      exact ⟨_, rfl, row_rd HO.out, HK.out⟩

end
end Go.Proofs.Ytihgfklajhhikaa
