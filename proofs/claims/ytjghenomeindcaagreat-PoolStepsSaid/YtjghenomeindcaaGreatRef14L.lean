/- leapfrogref14: Give, List, Gen, Out. -/
import Derived.Test.YtjghenomeindcaaGreatRef14
import Derived.Test.YtjghenomeindcaaGreatPoolC
set_option linter.unusedVariables false
set_option linter.unusedSimpArgs false
namespace Go.Lf
theorem outL_succ (k : Nat) (out : Int → Option Bool) : outL (k + 1) out = outL k out ++ (if (out ((k : Int) + 1)).isSome = true then [(k : Int) + 1] else []) := by
  unfold outL
  rw [List.range_succ, List.map_append, List.filter_append]
  congr 1
  show List.filter (fun x => (out x).isSome) [(k : Int) + 1] = _
  rw [List.filter_cons, List.filter_nil]
theorem outL_len (k : Nat) (out : Int → Option Bool) : (outL k out).length ≤ k := by
  induction k with
  | zero => simp [outL]
  | succ k ih =>
    rw [outL_succ, List.length_append]
    split <;> simp <;> omega
theorem intsR_one (l : List Int) (x : Int) : l.map (Value.int .i64) ++ [Value.int .i64 x] = (l ++ [x]).map (Value.int .i64) := by simp
theorem take_one {l : List Int} {k : Nat} {x : Int} (h : l[k]? = some x) : l.take (k + 1) = l.take k ++ [x] := by rw [List.take_add_one, h]; rfl
end Go.Lf
namespace Go.Proofs.YtjghenomeindcaaGreat
open Go.RowKit Go.Lf
theorem infoIntR : (Tryz.prog.info? 3).map (fun i => (i.zero, i.size, i.bytes)) = some (some (.int .i64 0), 1, 8) := by kernel_rfl
section
variable {w w1 w2 w' : World} {A A1 F1 : Nat → Prop} {c : Cfg} {pb mb l tb vb gb rb : Nat} {F G : Nat → Prop} {s s' : PSt} {o o' : PO} {x : Int} {St : Nat → List Int} {sw : Nat → Int}
set_option maxHeartbeats 2000000 in
theorem r14give_arg (th tw : Int) (h : th < 0 ∨ 64 ≤ th) : Calls Tryz.prog 38 #[.pointer (some ⟨pb, 0, none⟩), .int .i64 th, .int .i64 tw] w fun e w' => e = .returned (.tuple #[.pointer none, .int .i64 2]) ∧ Keep Nil w w' := by
  have HT := hid (fun w => thread_no th h w)
  clear h
  go_enter Tryz.func38, Tryz.ntmps38
  go_wp2_with fail
  refine (HT.out _).mono ?_
  rintro e w' ⟨rfl, rfl⟩
  go_wp2
  go_ret2
  exact ⟨rfl, Keep.refl _ _⟩
set_option maxHeartbeats 2000000 in
theorem r14give_range (h : RPA w A c pb mb l tb vb gb F G s) (th tw : Int) (t0 : 0 ≤ th) (t1 : th < 64) (ht : tw < 1 ∨ (c.nT : Int) < tw) : Calls Tryz.prog 38 #[.pointer (some ⟨pb, 0, none⟩), .int .i64 th, .int .i64 tw] w fun e w' => e = .returned (.tuple #[.pointer none, .int .i64 3]) ∧ Keep Nil w w' := by
  have HT := hid (fun w => thread_yes th t0 t1 w)
  obtain ⟨p0, p1, p2, p3, p4, pz⟩ := h.cells
  clear h
  by_cases h1 : tw < 1
  · have d1 : decide (tw < 1) = true := decide_eq_true h1
    clear ht
    go_enter Tryz.func38, Tryz.ntmps38
    go_wp2_with fail
    refine (HT.out _).mono ?_
    rintro e w' ⟨rfl, rfl⟩
    go_wp2
    go_ret2
    exact ⟨rfl, Keep.refl _ _⟩
  · have d1 : decide (tw < 1) = false := decide_eq_false h1
    have d2 : decide ((c.nT : Int) + 1 ≤ tw) = true := decide_eq_true (by omega)
    clear ht
    go_enter Tryz.func38, Tryz.ntmps38
    go_wp2_with fail
    refine (HT.out _).mono ?_
    rintro e w' ⟨rfl, rfl⟩
    go_wp2
    go_ret2
    exact ⟨rfl, Keep.refl _ _⟩
set_option maxHeartbeats 4000000 in
theorem r14give_state (h : RPA w A c pb mb l tb vb gb F G s) (th : Int) (t0 : 0 ≤ th) (t1 : th < 64) (tn : Nat) (g1 : 1 ≤ tn) (g2 : tn ≤ c.nT) (hs : s.out (tn : Int) ≠ some false) : Calls Tryz.prog 38 #[.pointer (some ⟨pb, 0, none⟩), .int .i64 th, .int .i64 (tn : Int)] w fun e w' => e = .returned (.tuple #[.pointer none, .int .i64 8]) ∧ Keep Nil w w' := by
  have HT := hid (fun w => thread_yes th t0 t1 w)
  obtain ⟨p0, p1, p2, p3, p4, pz⟩ := h.cells
  obtain ⟨tk, -, tz⟩ := h.tk g2
  obtain ⟨vk, -, vz⟩ := h.gv g2
  have d1 : decide ((tn : Int) < 1) = false := decide_eq_false (by omega)
  have d2 : decide ((c.nT : Int) + 1 ≤ (tn : Int)) = false := decide_eq_false (by omega)
  have d3 : decide (c.nT + 1 ≤ tn) = false := decide_eq_false (by omega)
  have i0 : (0 : Int) ≤ (tn : Int) := by omega
  have i1 : (tn : Int) < (c.nT : Int) + 1 := by omega
  cases ho : s.out (tn : Int) with
  | none =>
    rw [ho] at tk vk
    have tk' : w.cell? ⟨tb, tn, none⟩ = some (.bool false) := tk
    have vk' : w.cell? ⟨vb, tn, none⟩ = some (.bool false) := vk
    clear h hs ho tk vk
    go_enter Tryz.func38, Tryz.ntmps38
    go_wp2_with fail
    refine (HT.out _).mono ?_
    rintro e w' ⟨rfl, rfl⟩
    go_wp2
    go_ret2
    exact ⟨rfl, Keep.refl _ _⟩
  | some b =>
    cases b with
    | false => exact absurd ho hs
    | true =>
      rw [ho] at tk vk
      have tk' : w.cell? ⟨tb, tn, none⟩ = some (.bool true) := tk
      have vk' : w.cell? ⟨vb, tn, none⟩ = some (.bool true) := vk
      clear h hs ho tk vk
      go_enter Tryz.func38, Tryz.ntmps38
      go_wp2_with fail
      refine (HT.out _).mono ?_
      rintro e w' ⟨rfl, rfl⟩
      go_wp2
      go_ret2
      exact ⟨rfl, Keep.refl _ _⟩
def R14GiveTo (w : World) (A : Nat → Prop) (c : Cfg) (pb mb l : Nat) (s' : PSt) (o : PO) (e : Ending) (w' : World) : Prop := ∃ rb, e = .returned (.tuple #[.pointer (some ⟨rb, 0, none⟩), .int .i64 0]) ∧ (RPoolL c pb mb l).lie w' A s' ∧ RRunAt w' rb pb o ∧ Keep A w w' ∧ w.heap.size ≤ rb
set_option maxHeartbeats 4000000 in
theorem r14give_ok (h : RPA w A c pb mb l tb vb gb F G s) (hok : c.ok) (th : Int) (t0 : 0 ≤ th) (t1 : th < 64) (tn : Nat) (g2 : tn + 1 ≤ c.nT) (hs : s.out ((tn : Int) + 1) = some false) (k : Nat) (hk : c.hs[tn]? = some k) : Calls Tryz.prog 38 #[.pointer (some ⟨pb, 0, none⟩), .int .i64 th, .int .i64 ((tn : Int) + 1)] w (R14GiveTo w A c pb mb l { s with out := pup s.out ((tn : Int) + 1) (some true) } (PO.give th k ((tn : Int) + 1))) := by
  have HT := hid (fun w => thread_yes th t0 t1 w)
  obtain ⟨p0, p1, p2, p3, p4, pz⟩ := h.cells
  have hcast : ((tn + 1 : Nat) : Int) = (tn : Int) + 1 := rfl
  obtain ⟨tk, -, tz⟩ := h.tk g2
  obtain ⟨vk, vf, vz⟩ := h.gv g2
  rw [hcast, hs] at tk vk
  have tk' : w.cell? ⟨tb, tn + 1, none⟩ = some (.bool true) := tk
  have vk' : w.cell? ⟨vb, tn + 1, none⟩ = some (.bool false) := vk
  have d1 : decide ((tn : Int) + 1 < 1) = false := decide_eq_false (by omega)
  have d2 : decide ((c.nT : Int) + 1 ≤ (tn : Int) + 1) = false := decide_eq_false (by omega)
  have i0 : (0 : Int) ≤ (tn : Int) + 1 := by omega
  have i1 : (tn : Int) + 1 < (c.nT : Int) + 1 := by omega
  have hl : RLC w l c := h.lay.1
  obtain ⟨ha, hc, c26, hrd⟩ := hl.c26
  obtain ⟨bb, off, cc, hv, hcell⟩ := Rd.cell hrd (by omega)
  simp only [Value.slice.injEq] at hv
  obtain ⟨rfl, -, rfl⟩ := hv
  have cx := hcell tn _ (intsV_at hk)
  have lz := hl.lt
  have wk : IntKind.i64.wrap ((tn : Int) + 1 - 1) = (tn : Int) := by rw [IntKind.wrap_i64]; have := hok.nT; omega
  have wk2 : IntKind.i64.wrap ((tn : Int)) = (tn : Int) := by rw [IntKind.wrap_i64]; have := hok.nT; omega
  have j0 : (0 : Int) ≤ (tn : Int) := by omega
  have j1 : (tn : Int) < (c.nT : Int) := by omega
  obtain ⟨n1, n2, n3, n4, n5, n6⟩ := h.ne
  have nl : l ≠ vb ∧ bb ≠ vb := by
    refine ⟨fun e => ?_, fun e => ?_⟩
    · have h1 := hl.c1
      rw [e, cell_of h.giving] at h1
      simp only [boolsB, List.getElem?_toArray, List.getElem?_map, Option.map_eq_some_iff] at h1
      obtain ⟨b, -, hb⟩ := h1
      cases hb
    · rw [e, cell_of h.giving] at cx
      simp only [boolsB, List.getElem?_toArray, List.getElem?_map, Option.map_eq_some_iff] at cx
      obtain ⟨b, -, hb⟩ := cx
      cases hb
  obtain ⟨nl1, nl2⟩ := nl
  have bz : bb < w.heap.size := World.block_lt_of_cell? w _ cx
  have H := hid h
  have HS := hid hs
  have HN := hid (And.intro n4 n6)
  have HTN := hid g2
  clear h hs hl hrd hcell hk tk vk g2 hok
  go_enter Tryz.func38, Tryz.ntmps38
  go_wp2_with fail
  refine (HT.out _).mono ?_
  rintro e w' ⟨rfl, rfl⟩
  go_wp2
  go_ret2
  obtain ⟨X, hX⟩ : ∃ X, X = w.setCell ⟨vb, tn + 1, none⟩ (.bool true) := ⟨_, rfl⟩
  rw [← hX]
  have kX : Keep (fun k => k = tb ∨ k = vb ∨ k = gb) w X := hX ▸ (Keep.refl (fun k => k = tb ∨ k = vb ∨ k = gb) w).setCell (p := ⟨vb, tn + 1, none⟩) (.inl (.inr (.inl rfl))) _
  have pX := H.out.rows kX (out' := pup s.out ((tn : Int) + 1) (some true)) (g' := s.gens) (by
    rw [hX, set_other H.out.taken HN.out.1]
    have h1 := @takenL_set c.nT (tn + 1) s.out (some true)
    have h2 : (takenL c.nT s.out)[tn + 1]? = some (some true).isSome := by rw [takenL_at s.out HTN.out, hcast, HS.out]; rfl
    rw [list_set_self h2, hcast] at h1
    rw [← h1]) (by
    rw [hX, set_same H.out.giving, boolsB_set]
    have := @givingL_set c.nT (tn + 1) s.out (some true)
    rw [hcast] at this
    rw [← this]; rfl) (by rw [hX]; exact set_other H.out.gens (Ne.symm HN.out.2) _) H.out.gl
  have kA := (Keep.refl Nil X).alloc (.cells (rrCells pb (PO.give th k ((tn : Int) + 1))) 192)
  have hsz : X.heap.size = w.heap.size := by rw [hX]; exact World.size_setCell _ _ _
  rw [← hsz]
  refine ⟨X.heap.size, rfl, ⟨tb, vb, gb, F, G, pX.quiet kA⟩, heap_alloc_new X _, (kX.mono (T := A) fun k _ e => ?_).trans (kA.mono (fun _ _ h => h.elim)) (fun _ _ h => h), by have := kX.size; omega⟩
  rcases e with rfl | rfl | rfl
  · exact (H.out.foot _).2 (.inr (.inl rfl))
  · exact (H.out.foot _).2 (.inr (.inr (.inl rfl)))
  · exact (H.out.foot _).2 (.inr (.inr (.inr (.inl rfl))))
/-! Gen. -/
set_option maxHeartbeats 4000000 in
theorem r14gen_range (h : RPA w A c pb mb l tb vb gb F G s) (x : Int) (hx : x < 1 ∨ (c.nT : Int) < x) : Calls Tryz.prog 46 #[.pointer (some ⟨pb, 0, none⟩), .int .i64 x] w fun e w' => e = .returned (.tuple #[.int .i64 0, .int .i64 3]) ∧ Keep Nil w w' := by
  obtain ⟨p0, p1, p2, p3, p4, pz⟩ := h.cells
  clear h
  by_cases h1 : x < 1
  · have d1 : decide (x < 1) = true := decide_eq_true h1
    clear hx
    go_enter Tryz.func46, Tryz.ntmps46
    go_wp2
    go_ret2
    exact ⟨rfl, Keep.refl _ _⟩
  · have d1 : decide (x < 1) = false := decide_eq_false h1
    have d2 : decide ((c.nT : Int) + 1 ≤ x) = true := decide_eq_true (by omega)
    clear hx
    go_enter Tryz.func46, Tryz.ntmps46
    go_wp2
    go_ret2
    exact ⟨rfl, Keep.refl _ _⟩
set_option maxHeartbeats 4000000 in
theorem r14gen_ok (h : RPA w A c pb mb l tb vb gb F G s) (tn : Nat) (g2 : tn + 1 ≤ c.nT) (g : Int) (hg : s.gens[tn]? = some g) : Calls Tryz.prog 46 #[.pointer (some ⟨pb, 0, none⟩), .int .i64 ((tn : Int) + 1)] w fun e w' => e = .returned (.tuple #[.int .i64 g, .int .i64 0]) ∧ Keep Nil w w' := by
  obtain ⟨p0, p1, p2, p3, p4, pz⟩ := h.cells
  obtain ⟨gk, -, gz⟩ := h.gn hg
  have d1 : decide ((tn : Int) + 1 < 1) = false := decide_eq_false (by omega)
  have d2 : decide ((c.nT : Int) + 1 ≤ (tn : Int) + 1) = false := decide_eq_false (by omega)
  have i0 : (0 : Int) ≤ (tn : Int) + 1 := by omega
  have i1 : (tn : Int) + 1 < (c.nT : Int) + 1 := by omega
  clear h hg
  go_enter Tryz.func46, Tryz.ntmps46
  go_wp2
  go_ret2
  exact ⟨rfl, Keep.refl _ _⟩
/-! Out. -/
def ROutTo (w : World) (l : List Int) (e : Ending) (w' : World) : Prop := ∃ a cp, e = .returned (.slice a l.length cp) ∧ Rd w' 1 (.slice a l.length cp) l.length (intsR l) ∧ Keep Nil w w'
set_option maxRecDepth 100000 in
set_option maxHeartbeats 4000000 in
theorem r14out_ok (h : RPA w A c pb mb l tb vb gb F G s) (hok : c.ok) : Calls Tryz.prog 42 #[.pointer (some ⟨pb, 0, none⟩)] w (ROutTo w (outL c.nT s.out)) := by
  have H := hid h
  have HNT := hid hok.nT
  clear h hok
  go_enter Tryz.func42, Tryz.ntmps42
  go_wp2
  go_loopw [3, 4] (fun vs kv wz => ∃ (k : Nat) (a : Option Addr) (cp : Nat), k ≤ c.nT ∧ kv = .int .i64 ((k : Int) + 1) ∧ vs = .slice a (outL k s.out).length cp ∧ wz.ownsRow 0 3 1 (.slice a (outL k s.out).length cp) (outL k s.out).length (intsR (outL k s.out)) ∧ Keep Nil w wz ∧ (∀ j, (Value.slice a (outL k s.out).length cp).ownBlock = some j → w.heap.size ≤ j)) (fun _ kv _ => c.nT + 1 - (intOf kv).toNat)
  case atStart => exact ⟨0, none, 0, Nat.zero_le _, rfl, rfl, World.ownsRow_nil _ _ _ _, Keep.refl Nil w, fun j e => by cases e⟩
  case round =>
    obtain ⟨k, a, cp, hk, rfl, hvs, hrow, hkk, hnw⟩ := hrel
    subst hvs
    have HZ := hid (H.out.quiet hkk)
    have HRW := hid hrow
    have HKK := hid hkk
    have HNW := hid hnw
    obtain ⟨p0, p1, p2, p3, p4, pz⟩ := HZ.out.cells
    clear hrow hkk hnw
    by_cases hlt : k < c.nT
    · have d1 : decide ((k : Int) + 1 < (c.nT : Int) + 1) = true := decide_eq_true (by omega)
      have d2 : decide (k < c.nT) = true := decide_eq_true hlt
      have wk : IntKind.i64.wrap ((k : Int) + 1 + 1) = (k : Int) + 1 + 1 := by rw [IntKind.wrap_i64]; have := HNT.out; omega
      have i0 : (0 : Int) ≤ (k : Int) + 1 := by omega
      have i1 : (k : Int) + 1 < (c.nT : Int) + 1 := by omega
      obtain ⟨tk, -, tz⟩ := HZ.out.tk (t := k + 1) (by omega)
      have HST := hid (outL_succ k s.out)
      have HLN := hid (outL_len k s.out)
      have HLT := hid hlt
      obtain ⟨P, hP⟩ : ∃ P, P = outL k s.out := ⟨_, rfl⟩
      rw [← hP] at HRW HNW HST HLN ⊢
      rw [show (((k + 1 : Nat)) : Int) = (k : Int) + 1 from rfl] at tk
      cases hsome : (s.out ((k : Int) + 1)).isSome with
      | false =>
        rw [hsome] at tk
        have HST2 := hid (show outL (k + 1) s.out = P by rw [HST.out, hsome]; simp)
        clear hP hk hsome
        go_wp2
        go_roundw
        case rel => exact ⟨k + 1, a, cp, HLT.out, by go_num, by rw [HST2.out], by rw [HST2.out]; exact HRW.out, HKK.out, by rw [HST2.out]; exact HNW.out⟩
        case measure => have := HLT.out; simp [intOf]; omega
      | true =>
        rw [hsome] at tk
        have HST2 := hid (show outL (k + 1) s.out = P ++ [(k : Int) + 1] by rw [HST.out, hsome]; simp)
        clear hP hk hsome
        go_wp2_with (at_builtin; refine wpList_app _ rfl _ _ 32 rfl 3 _ 1 8 Tryz.underlying32 infoIntR rfl (by decide) (.slice a P.length cp) P.length (intsR P) rfl ?own _ 1 [.int .i64 ((k : Int) + 1)] rfl ?rd ?one ?byt ?len ?_)
        case own => exact row_keep HRW.out ((Keep.refl Nil _).alloc _) (fun _ _ h => h)
        case rd => exact rd_new _ _ _ _ _ _
        case one => simp [Value.oneCell']
        case byt => have := HLN.out; have := HLT.out; have := HNT.out; omega
        case len => have := HLN.out; have := HLT.out; have := HNT.out; unfold maxLen; omega
        intro a' c' w3 ho hg hs
        have HO3 := hid ho
        have HK3 := hid (Keep.grown (HKK.out.alloc _) hg (fun j hj => .inr (HNW.out j hj)))
        have HV3 := hid (show ∀ j, (Value.slice a' (P.length + 1) c').ownBlock = some j → w.heap.size ≤ j from fun j hj => by
          rcases hs j hj with h | h
          · exact HNW.out j h
          · have := HKK.out.size; simp at h; omega)
        clear ho hg hs
        go_wp2
        go_roundw
        case rel =>
          refine ⟨k + 1, a', c', HLT.out, by go_num, by rw [HST2.out, List.length_append]; rfl, ?_, HK3.out, by rw [HST2.out, List.length_append]; exact HV3.out⟩
          rw [HST2.out, List.length_append]
          unfold intsR
          rw [← intsR_one]
          exact HO3.out
        case measure => have := HLT.out; simp [intOf]; omega
    · obtain rfl : k = c.nT := by omega
      have d1 : decide ((c.nT : Int) + 1 < (c.nT : Int) + 1) = false := decide_eq_false (by omega)
      clear hlt hk
      go_wp2
      go_ret
      exact ⟨a, cp, rfl, row_rd HRW.out, HKK.out⟩
/-! List. -/
theorem r14list_range (x : Int) (h : x < 1 ∨ 6 < x) : Calls Tryz.prog 44 #[.pointer (some ⟨pb, 0, none⟩), .int .i64 x] w fun e w' => e = .returned (.tuple #[.slice none 0 0, .int .i64 3]) ∧ w = w' := by
  by_cases h1 : x < 1
  · have d1 : decide (x < 1) = true := decide_eq_true h1
    clear h
    go_enter Tryz.func44, Tryz.ntmps44
    go_wp2
    go_ret2
    exact ⟨rfl, rfl⟩
  · have d1 : decide (x < 1) = false := decide_eq_false h1
    have d2 : decide (6 < x) = true := decide_eq_true (by omega)
    clear h
    go_enter Tryz.func44, Tryz.ntmps44
    go_wp2
    go_ret2
    exact ⟨rfl, rfl⟩
def RListTo (w : World) (l : List Int) (e : Ending) (w' : World) : Prop := ∃ a cp, e = .returned (.tuple #[.slice a l.length cp, .int .i64 0]) ∧ Rd w' 1 (.slice a l.length cp) l.length (intsR l) ∧ Keep Nil w w'
set_option maxRecDepth 100000 in
set_option maxHeartbeats 8000000 in
theorem r14list_ok (h : RPA w A c pb mb l tb vb gb F G s) (hok : c.ok) (hi : SInv c s St sw) (hsb : ∀ h, h < 6 → sw h < 4000000000) (hh : Int) (k1 : 1 ≤ hh) (k6 : hh ≤ 6) : Calls Tryz.prog 44 #[.pointer (some ⟨pb, 0, none⟩), .int .i64 hh] w (RListTo w (St (hh.toNat - 1))) := by
  have d5 : decide (hh < 1) = false := decide_eq_false (by omega)
  have d6 : decide (6 < hh) = false := decide_eq_false (by omega)
  have hk : hh.toNat - 1 < 6 := by omega
  have hpd : c.pools ≤ 65536 := by have := rl_words hok; obtain ⟨a1, a2, a3, a4, a5, a6, a7, a8, a9⟩ := plc_lt c; omega
  have hld : c.links ≤ 65536 := by have := rl_words hok; obtain ⟨a1, a2, a3, a4, a5, a6, a7, a8, a9⟩ := plc_lt c; omega
  have hnT := hok.nT
  obtain ⟨X, hX⟩ : ∃ X, X = hd0 (St (hh.toNat - 1)) + 65536 * sw (hh.toNat - 1) := ⟨_, rfl⟩
  have hx := hi.head _ hk
  rw [← hX] at hx
  obtain ⟨b0, b1⟩ := hi.hdle hk
  have hsw := hi.sw _ hk
  have hsb' := hsb _ hk
  have X0 : 0 ≤ X := by omega
  have hXm : X % 65536 = hd0 (St (hh.toNat - 1)) := by omega
  obtain ⟨PN, hPN⟩ : ∃ PN : Nat, (PN : Int) = (c.pools : Int) + hh - 1 := ⟨c.pools + (hh.toNat - 1), by omega⟩
  have hPe : PN = c.pools + (hh.toNat - 1) := by omega
  have a1 : IntKind.i64.wrap ((c.pools : Int) + hh) = (c.pools : Int) + hh := by rw [IntKind.wrap_i64]; omega
  have a2 : IntKind.i64.wrap ((c.pools : Int) + hh - 1) = (PN : Int) := by rw [IntKind.wrap_i64]; omega
  have hxP : s.ws[PN]? = some X := by rw [hPe]; exact hx
  obtain ⟨gw, wc, la, lc, hr, -⟩ := h.mem.rep
  have m0 := hr.cell0
  have mx := hr.word hxP
  have mz := h.mem.lt mb h.mem.has
  have gz : gw < w.heap.size := World.block_lt_of_cell? w _ mx
  obtain ⟨p0, p1, p2, p3, p4, pz⟩ := h.cells
  have hl : RLC w l c := h.lay.1
  have l21 := hl.c21
  have l22 := hl.c22
  have lz := hl.lt
  have i0 : (0 : Int) ≤ (PN : Int) := by omega
  have i1 : (PN : Int) < (s.ws.length : Int) := by have := (List.getElem?_eq_some_iff.1 hxP).1; omega
  have HR := hid hr
  have H := hid h
  have HLD := hid hld
  have HNT := hid hnT
  have HLN := hid (hi.len hk)
  obtain ⟨q, hq⟩ : ∃ q, q = St (hh.toNat - 1) := ⟨_, rfl⟩
  have hlink : ∀ (i : Nat) (x : Int), q[i]? = some x → (1 ≤ x ∧ x ≤ c.nT) ∧ s.ws[c.links + x.toNat - 1]? = some ((q[i + 1]?).getD 0) := fun i x hx => by
    rw [hq] at hx ⊢
    have := hi.rng _ hk x (List.mem_of_getElem? hx)
    exact ⟨⟨this.1, this.2.1⟩, hi.link _ hk i x hx⟩
  have hnext : ∀ i : Nat, 0 ≤ (q[i]?).getD 0 ∧ (q[i]?).getD 0 ≤ 1024 := fun i => by
    cases hz : q[i]? with
    | none => simp
    | some x =>
      have := (hlink i x hz).1
      simp only [Option.getD_some]
      omega
  have HNX := hid hnext
  rw [← hq] at hXm HLN ⊢
  rw [show hd0 q = (q[(0 : Nat)]?).getD 0 by cases q <;> rfl] at hXm
  have HLK := hid hlink
  clear h hi hx hX hk hpd hnT hlink b0 b1 hsw hsb hsb' hq hnext hr hl hld hPN hPe hxP
  go_enter Tryz.func44, Tryz.ntmps44
  go_wp2
  go_quiet ((go_at_call 98; exact quiet_eq (r1tower X X0)))
  obtain ⟨W, hW⟩ : ∃ W, W = w.drewN nq := ⟨_, rfl⟩
  rw [← hW]
  have HKW := hid (show Keep Nil w W from hW ▸ (Keep.refl Nil w).drewN nq)
  rw [hXm]
  clear hW p0 p1 p2 p3 p4 pz l21 l22 lz m0 mx mz gz hXm X0 i0 i1
  go_wp2
  go_loopw [6, 7] (fun vs tv wz => ∃ (k : Nat) (a : Option Addr) (cp : Nat), k ≤ q.length ∧ vs = .slice a k cp ∧ tv = .int .i64 ((q[k]?).getD 0) ∧ wz.ownsRow 0 3 1 (.slice a k cp) k (intsR (q.take k)) ∧ Keep Nil w wz ∧ (∀ j, (Value.slice a k cp).ownBlock = some j → w.heap.size ≤ j)) (fun vs _ _ => q.length - (match vs with | .slice _ n _ => n | _ => 0))
  case atStart => exact ⟨0, none, 0, Nat.zero_le _, rfl, rfl, World.ownsRow_nil _ _ _ _, HKW.out, fun j e => by cases e⟩
  case round =>
    obtain ⟨k, a, cp, hkl, rfl, rfl, hrow, hkk, hnw⟩ := hrel
    have HZ := hid (H.out.quiet hkk)
    have HKK := hid hkk
    have HNW := hid hnw
    obtain ⟨p0, p1, p2, p3, p4, pz⟩ := HZ.out.cells
    by_cases hlt : k < q.length
    · obtain ⟨x, hx⟩ : ∃ x, q[k]? = some x := ⟨_, List.getElem?_eq_getElem hlt⟩
      obtain ⟨⟨x1, x2⟩, hlk⟩ := HLK.out k x hx
      obtain ⟨y, hy⟩ : ∃ y, y = (q[k + 1]?).getD 0 := ⟨_, rfl⟩
      have hyb := HNX.out (k + 1)
      rw [← hy] at hlk hyb
      have HTK := hid (take_one hx)
      rw [hx, Option.getD_some]
      have d1 : (x != 0) = true := by simp; omega
      have d3 : decide ((k : Int) < (c.nT : Int) + 1) = true := decide_eq_true (by have := HLN.out; omega)
      have d4 : decide (k < c.nT + 1) = true := decide_eq_true (by have := HLN.out; omega)
      obtain ⟨LN, hLN⟩ : ∃ LN : Nat, (LN : Int) = (c.links : Int) + x - 1 := ⟨c.links + x.toNat - 1, by omega⟩
      have b1 : IntKind.i64.wrap ((c.links : Int) + x) = (c.links : Int) + x := by have := HLD.out; rw [IntKind.wrap_i64]; have := HNT.out; omega
      have b2 : IntKind.i64.wrap ((c.links : Int) + x - 1) = (LN : Int) := by have := HLD.out; rw [IntKind.wrap_i64]; have := HNT.out; omega
      have b3 : IntKind.i64.wrap y = y := by rw [IntKind.wrap_i64]; omega
      have hyw : s.ws[LN]? = some y := by rw [show LN = c.links + x.toNat - 1 by omega]; exact hlk
      have HYW := hid hyw
      have j0 : (0 : Int) ≤ (LN : Int) := by omega
      have j1 : (LN : Int) < (s.ws.length : Int) := by have := (List.getElem?_eq_some_iff.1 hyw).1; omega
      have HYE := hid hy
      have HRW := hid hrow
      have HLT := hid hlt
      have HKL := hid (show k ≤ 1024 by have := HLN.out; have := HNT.out; omega)
      clear hx hlk hy hyb hrow hkk hnw hkl hlt x2 hLN hyw
      go_wp2_with (at_builtin; refine wpList_app _ rfl _ _ 32 rfl 3 _ 1 8 Tryz.underlying32 infoIntR rfl (by decide) (.slice a k cp) k (intsR (q.take k)) rfl ?own _ 1 [.int .i64 x] rfl ?rd ?one ?byt ?len ?_)
      case own => exact HRW.out.alloc _
      case rd => exact rd_new _ _ _ _ _ _
      case one => simp [Value.oneCell']
      case byt => have := HKL.out; omega
      case len => have := HKL.out; unfold maxLen; omega
      intro a2 c2 w5 ho hgr hs
      have HO := hid ho
      have HKB := hid (show Keep Nil w w5 from (HKK.out.alloc _).grown hgr (fun j e => .inr (HNW.out j e)))
      have HNB := hid (show ∀ j, (Value.slice a2 (k + 1) c2).ownBlock = some j → w.heap.size ≤ j from fun j e => (hs j e).elim (HNW.out j) (fun e => by have := HKK.out.size; simp at e; omega))
      have HZ5 := hid (H.out.quiet HKB.out)
      obtain ⟨u0, u1, u2, -, -, uz⟩ := HZ5.out.cells
      have ul : RLC w5 l c := HZ5.out.lay.1
      have v22 := ul.c22
      have vz := ul.lt
      have m0 := HKB.out.cell HR.out.cell0 (fun h => h)
      have mx := HKB.out.cell (HR.out.word HYW.out) (fun h => h)
      have mz : mb < w5.heap.size := HZ5.out.mem.lt mb HZ5.out.mem.has
      have gz : gw < w5.heap.size := World.block_lt_of_cell? w5 _ mx
      clear ho hgr hs p0 p1 p2 p3 p4 pz ul
      go_wp2
      go_quiet (fail)
      go_wp2
      go_roundw
      case rel => exact ⟨k + 1, a2, c2, HLT.out, rfl, by rw [HYE.out], by rw [HTK.out]; unfold intsR; rw [← intsR_one]; exact HO.out, HKB.out.drewN nq, HNB.out⟩
      case measure => have := HLT.out; simp; omega
    · obtain rfl : k = q.length := by omega
      rw [List.getElem?_eq_none (Nat.le_refl _), Option.getD_none]
      have HRW := hid hrow
      clear hrow hkk hnw hkl hlt
      go_wp2
      go_ret2
      rw [List.take_length] at HRW
      exact ⟨a, cp, rfl, row_rd HRW.out, HKK.out⟩
end
end Go.Proofs.YtjghenomeindcaaGreat
