/- pool: List, Gen. -/
import Derived.Test.YtjghenomeindcaaGreatPoolN
set_option linter.unusedVariables false
set_option linter.unusedSimpArgs false
namespace Go.Lf
def slLen : Value → Nat
  | .slice _ n _ => n
  | _ => 0
theorem intsI_snoc (l : List Int) (x : Int) : l.map (Value.int .i64) ++ [Value.int .i64 x] = (l ++ [x]).map (Value.int .i64) := by simp
theorem take_snoc {l : List Int} {k : Nat} {x : Int} (h : l[k]? = some x) : l.take (k + 1) = l.take k ++ [x] := by
  rw [List.take_add_one, h]
  rfl
end Go.Lf
namespace Go.Proofs.YtjghenomeindcaaGreat
open Go.RowKit Go.Lf
/-- A list of numbers is returned with OK. -/
def ListTo (w : World) (l : List Int) (e : Ending) (w' : World) : Prop := ∃ a cp, e = .returned (.tuple #[.slice a l.length cp, .int .i64 0]) ∧ w'.ownsRow 0 3 1 (.slice a l.length cp) l.length (intsI l) ∧ Keep Nil w w' ∧ ∀ k, (Value.slice a l.length cp).ownBlock = some k → w.heap.size ≤ k
section
variable {w w1 w2 w' : World} {A : Nat → Prop} {c : Cfg} {pb mb L ob gb tb m : Nat} {F G : Nat → Prop} {s s' : PSt} {ws' : List Int} {log' : List Acc} {o o' : PO} {St : Nat → List Int} {sw : Nat → Int}
set_option maxRecDepth 100000 in
set_option maxHeartbeats 4000000 in
theorem plist_ok (h : PA w A c pb mb L ob gb F G s) (hok : c.ok) (hi : SInv c s St sw) (hs0 : sw 0 < 4000000000 ∧ sw 1 < 4000000000 ∧ sw 2 < 4000000000 ∧ sw 3 < 4000000000 ∧ sw 4 < 4000000000 ∧ sw 5 < 4000000000) (hh : Int) (k1 : 1 ≤ hh) (k6 : hh ≤ 6) :
    Calls Tryz.prog 43 #[.pointer (some ⟨pb, 0, none⟩), .int .i64 hh] w (ListTo w (St (hh.toNat - 1))) := by
  have d5 : decide (hh < 1) = false := decide_eq_false (by omega)
  have d6 : decide (6 < hh) = false := decide_eq_false (by omega)
  have hk : hh.toNat - 1 < 6 := by omega
  have hpd := pools_bd hok
  have hnT := hok.nT
  have a1 : IntKind.i64.wrap ((c.pools : Int) + hh) = (c.pools : Int) + hh := by rw [IntKind.wrap_i64]; omega
  have a2 : IntKind.i64.wrap ((c.pools : Int) + hh - 1) = (c.pools : Int) + hh - 1 := by rw [IntKind.wrap_i64]; omega
  obtain ⟨X, hX⟩ : ∃ X, X = hd0 (St (hh.toNat - 1)) + 65536 * sw (hh.toNat - 1) := ⟨_, rfl⟩
  have hx := hi.head _ hk
  rw [← hX] at hx
  obtain ⟨b0, b1⟩ := hi.hdle hk
  have hsw := hi.sw _ hk
  have hsb : sw (hh.toNat - 1) < 4000000000 := by
    generalize hh.toNat - 1 = q at hk
    match q, hk with
    | 0, _ => exact hs0.1
    | 1, _ => exact hs0.2.1
    | 2, _ => exact hs0.2.2.1
    | 3, _ => exact hs0.2.2.2.1
    | 4, _ => exact hs0.2.2.2.2.1
    | 5, _ => exact hs0.2.2.2.2.2
  have X0 : 0 ≤ X := by omega
  have X1 : X < 18446744073709551616 := by omega
  have hXm : X % 65536 = hd0 (St (hh.toNat - 1)) := by omega
  have HX := hid (show s.ws[((c.pools : Int) + hh - 1).toNat]? = some X by rw [show ((c.pools : Int) + hh - 1).toNat = c.pools + (hh.toNat - 1) by omega]; exact hx)
  have HA0 := hid (show 0 ≤ (c.pools : Int) + hh - 1 by omega)
  obtain ⟨p0, -, p2, p3, -, p5⟩ := h.cells
  have H := hid h
  have HI := hid hi
  have HK := hid hk
  have HLB := hid (show (c.links : Int) ≤ 65536 by
    have := words_bd hok
    obtain ⟨-, -, -, -, -, q1, q2, q3, q4⟩ := plc_lt c
    omega)
  have HNT := hid hnT
  have HLN := hid (hi.len hk)
  obtain ⟨l, hl⟩ : ∃ l, l = St (hh.toNat - 1) := ⟨_, rfl⟩
  have hlink : ∀ (i : Nat) (x : Int), l[i]? = some x → (1 ≤ x ∧ x ≤ c.nT) ∧ s.ws[c.links + x.toNat - 1]? = some ((l[i + 1]?).getD 0) := fun i x hx => by
    rw [hl] at hx ⊢
    have := hi.rng _ hk x (List.mem_of_getElem? hx)
    exact ⟨⟨this.1, this.2.1⟩, hi.link _ hk i x hx⟩
  have hnext : ∀ i : Nat, 0 ≤ (l[i]?).getD 0 ∧ (l[i]?).getD 0 ≤ 1024 := fun i => by
    cases hq : l[i]? with
    | none => simp
    | some x =>
      have := (hlink i x hq).1
      simp only [Option.getD_some]
      omega
  have HNX := hid hnext
  rw [← hl] at hXm HLN ⊢
  rw [show hd0 l = (l[(0 : Nat)]?).getD 0 by cases l <;> rfl] at hXm
  have HLK := hid hlink
  clear h hi hx hX hk hpd hnT hlink b0 b1 hsw hsb hl hnext hs0
  go_enter Tryz.func43, Tryz.ntmps43
  go_wp2
  go_quiet ((go_at_call 61; exact quiet_eq (peek_ok (H.out.quiet ((Keep.refl Nil _).drewN _)).mem _ X HA0.out HX.out)))
  obtain ⟨W, hW⟩ : ∃ W, W = w.drewN nq := ⟨_, rfl⟩
  rw [← hW]
  have HKW := hid (show Keep Nil w W from hW ▸ (Keep.refl Nil w).drewN nq)
  clear hW p0 p2 p3 p5
  go_wp2_with fail
  refine (ftower_ok X X0 X1).mono ?_
  rintro e w9 ⟨rfl, rfl⟩
  rw [hXm]
  clear hXm X0 X1 HX HA0
  go_wp2
  go_loopw [6, 9] (fun vs tv wz => ∃ (k : Nat) (a : Option Addr) (cp : Nat), k ≤ l.length ∧ vs = .slice a k cp ∧ tv = .int .i64 ((l[k]?).getD 0) ∧ wz.ownsRow 0 3 1 (.slice a k cp) k (intsI (l.take k)) ∧ Keep Nil w wz ∧ (∀ q, (Value.slice a k cp).ownBlock = some q → w.heap.size ≤ q)) (fun vs _ _ => l.length - slLen vs)
  case atStart => exact ⟨0, none, 0, Nat.zero_le _, rfl, rfl, World.ownsRow_nil _ _ _ _, HKW.out, fun q e => by cases e⟩
  case round =>
    obtain ⟨k, a, cp, hkl, rfl, rfl, hrow, hkk, hnw⟩ := hrel
    have HZ := hid (H.out.quiet hkk)
    have HKK := hid hkk
    have HNW := hid hnw
    obtain ⟨p0, -, -, p3, -, p5⟩ := HZ.out.cells
    by_cases hlt : k < l.length
    · obtain ⟨x, hx⟩ : ∃ x, l[k]? = some x := ⟨_, List.getElem?_eq_getElem hlt⟩
      obtain ⟨⟨x1, x2⟩, hlk⟩ := HLK.out k x hx
      obtain ⟨y, hy⟩ : ∃ y, y = (l[k + 1]?).getD 0 := ⟨_, rfl⟩
      have hyb := HNX.out (k + 1)
      rw [← hy] at hlk hyb
      have HTK := hid (take_snoc hx)
      rw [hx, Option.getD_some]
      have d1 : decide (0 < x) = true := decide_eq_true (by omega)
      have d2 : decide (x ≤ (c.nT : Int)) = true := decide_eq_true x2
      have d3 : decide ((k : Int) < (c.nT : Int)) = true := decide_eq_true (by have := HLN.out; omega)
      have d4 : decide (k < c.nT) = true := decide_eq_true (by have := HLN.out; omega)
      have b1 : IntKind.i64.wrap ((c.links : Int) + x) = (c.links : Int) + x := by have := HLB.out; rw [IntKind.wrap_i64]; have := HNT.out; omega
      have b2 : IntKind.i64.wrap ((c.links : Int) + x - 1) = (c.links : Int) + x - 1 := by have := HLB.out; rw [IntKind.wrap_i64]; have := HNT.out; omega
      have b3 : IntKind.i64.wrap y = y := by rw [IntKind.wrap_i64]; omega
      have HY := hid (show s.ws[((c.links : Int) + x - 1).toNat]? = some y by rw [show ((c.links : Int) + x - 1).toNat = c.links + x.toNat - 1 by omega]; exact hlk)
      have HY0 := hid (show 0 ≤ (c.links : Int) + x - 1 by omega)
      have HYE := hid hy
      have HR := hid hrow
      have HLT := hid hlt
      have HKL := hid (show k ≤ 1024 by have := HLN.out; have := HNT.out; omega)
      clear hx hlk hy hyb hrow hkk hnw hkl hlt x2
      go_wp2_with (at_builtin; refine wpList_app _ rfl (.tmp 60) (.tmp 62) 32 rfl 3 _ 1 8 Tryz.underlying32 infoInt rfl (by decide) (.slice a k cp) k (intsI (l.take k)) rfl ?own _ 1 [.int .i64 x] rfl ?rd ?one ?byt ?len ?_)
      case own => exact HR.out.alloc _
      case rd => exact rd_new _ _ _ _ _ _
      case one => simp [Value.oneCell']
      case byt => have := HKL.out; omega
      case len => have := HKL.out; unfold maxLen; omega
      intro a2 c2 w5 ho hgr hs
      have HO := hid ho
      have HKB := hid (show Keep Nil w w5 from (HKK.out.alloc _).grown hgr (fun q e => .inr (HNW.out q e)))
      have HNB := hid (show ∀ q, (Value.slice a2 (k + 1) c2).ownBlock = some q → w.heap.size ≤ q from fun q e => (hs q e).elim (HNW.out q) (fun e => by have := HKK.out.size; simp at e; omega))
      have HZ5 := hid (H.out.quiet HKB.out)
      obtain ⟨u0, -, -, u3, -, -⟩ := HZ5.out.cells
      clear ho hgr hs p0 p3 p5
      go_wp2
      go_quiet ((go_at_call 61; exact quiet_eq (peek_ok (HZ5.out.quiet ((Keep.refl Nil _).drewN _)).mem _ y HY0.out HY.out)))
      go_wp2
      go_roundw
      case rel => exact ⟨k + 1, a2, c2, HLT.out, rfl, by rw [HYE.out], by rw [HTK.out]; unfold intsI; rw [← intsI_snoc]; exact HO.out, HKB.out.drewN nq, HNB.out⟩
      case measure => have := HLT.out; simp [slLen]; omega
    · obtain rfl : k = l.length := by omega
      rw [List.getElem?_eq_none (Nat.le_refl _), Option.getD_none]
      have HR := hid hrow
      clear hrow hkk hnw hkl hlt
      go_wp2
      go_ret2
      rw [List.take_length] at HR
      exact ⟨a, cp, rfl, HR.out, HKK.out, HNW.out⟩
theorem plist_nil (x : Int) : Calls Tryz.prog 43 #[.pointer none, .int .i64 x] w fun e w' => e = .returned (.tuple #[.slice none 0 0, .int .i64 1]) ∧ w = w' := by
  go_enter Tryz.func43, Tryz.ntmps43
  go_wp2
  go_ret2
  exact ⟨rfl, rfl⟩
set_option maxHeartbeats 2000000 in
theorem plist_range (x : Int) (h : x < 1 ∨ 6 < x) : Calls Tryz.prog 43 #[.pointer (some ⟨pb, 0, none⟩), .int .i64 x] w fun e w' => e = .returned (.tuple #[.slice none 0 0, .int .i64 3]) ∧ w = w' := by
  by_cases h1 : x < 1
  · have d1 : decide (x < 1) = true := decide_eq_true h1
    clear h
    go_enter Tryz.func43, Tryz.ntmps43
    go_wp2
    go_ret2
    exact ⟨rfl, rfl⟩
  · have d1 : decide (x < 1) = false := decide_eq_false h1
    have d2 : decide (6 < x) = true := decide_eq_true (by omega)
    clear h
    go_enter Tryz.func43, Tryz.ntmps43
    go_wp2
    go_ret2
    exact ⟨rfl, rfl⟩
theorem pgen_nil (x : Int) : Calls Tryz.prog 45 #[.pointer none, .int .i64 x] w fun e w' => e = .returned (.tuple #[.int .i64 0, .int .i64 1]) ∧ w = w' := by
  go_enter Tryz.func45, Tryz.ntmps45
  go_wp2
  go_ret2
  exact ⟨rfl, rfl⟩
set_option maxHeartbeats 4000000 in
theorem pgen_range (h : PA w A c pb mb L ob gb F G s) (x : Int) (hx : x < 1 ∨ (c.nT : Int) < x) : Calls Tryz.prog 45 #[.pointer (some ⟨pb, 0, none⟩), .int .i64 x] w fun e w' => e = .returned (.tuple #[.int .i64 0, .int .i64 3]) ∧ w = w' := by
  obtain ⟨-, -, -, -, -, p5⟩ := h.cells
  clear h
  by_cases h1 : x < 1
  · have d1 : decide (x < 1) = true := decide_eq_true h1
    clear hx
    go_enter Tryz.func45, Tryz.ntmps45
    go_wp2
    go_ret2
    exact ⟨rfl, rfl⟩
  · have d1 : decide (x < 1) = false := decide_eq_false h1
    have d2 : decide ((c.nT : Int) < x) = true := decide_eq_true (by omega)
    clear hx
    go_enter Tryz.func45, Tryz.ntmps45
    go_wp2
    go_ret2
    exact ⟨rfl, rfl⟩
set_option maxHeartbeats 4000000 in
theorem pgen_ok (h : PA w A c pb mb L ob gb F G s) (hok : c.ok) (x : Int) (x1 : 1 ≤ x) (x2 : x ≤ c.nT) (g : Int) (hg : s.gens[x.toNat - 1]? = some g) : Calls Tryz.prog 45 #[.pointer (some ⟨pb, 0, none⟩), .int .i64 x] w fun e w' => e = .returned (.tuple #[.int .i64 g, .int .i64 0]) ∧ w = w' := by
  obtain ⟨-, -, -, -, -, p5⟩ := h.cells
  have hn := hok.nT
  have cg : w.cell? ⟨gb, x.toNat - 1, none⟩ = some (.int .i64 g) := by
    have h1 : (intsI s.gens)[x.toNat - 1]? = some (.int .i64 g) := by unfold intsI; rw [List.getElem?_map, hg]; rfl
    rw [cell_of h.gens]
    simpa using h1
  have d1 : decide (x < 1) = false := decide_eq_false (by omega)
  have d2 : decide ((c.nT : Int) < x) = false := decide_eq_false (by omega)
  have wt : IntKind.i64.wrap (x - 1) = x - 1 := by rw [IntKind.wrap_i64]; omega
  have q0 : 0 ≤ x - 1 := by omega
  have q1 : x - 1 < (c.nT : Int) := by omega
  clear h hn hg
  go_enter Tryz.func45, Tryz.ntmps45
  go_wp2
  go_ret2
  exact ⟨rfl, rfl⟩
end
end Go.Proofs.YtjghenomeindcaaGreat
