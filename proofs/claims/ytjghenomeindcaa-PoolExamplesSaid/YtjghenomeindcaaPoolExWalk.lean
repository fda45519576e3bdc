/- PoolExamples: the walk. -/
import Derived.Test.YtjghenomeindcaaPoolExP
set_option linter.unusedVariables false
set_option linter.unusedSimpArgs false
namespace Go.Proofs.Ytjghenomeindcaa
open Go.RowKit Go.Lf
section
variable {w w' : World}
theorem x_cfg (W : World) : Calls Try.prog 13 #[.agg #[.int .i64 2, .int .i64 1, .int .i64 0, .int .i64 0, .int .i64 0, .int .i64 0]] W fun e w' => e = .returned (cfgV xc 2 1 0 0 0 0 none 0) ∧ Keep Nil W w' := config_ok W 2 1 0 0 0 0
theorem x_new (W : World) : Calls Try.prog 12 #[cfgV xc 2 1 0 0 0 0 none 0] W (NewTo W xc) := pnew_lay W 2 1 0 0 0 0 (by decide)
theorem px_new {w1 w : World} {c : Cfg} {pb mb L ob gb : Nat} {F G : Nat → Prop} {s : PSt} {A : Nat → Prop} (h : PA w A c pb mb L ob gb F G s) (hA : ∀ k, A k → w1.heap.size ≤ k) (hk : Keep Nil w1 w) : PX w1 (fun _ => none) c pb L s [] w :=
  ⟨A, ⟨A, ObjsB.init ⟨mb, ob, gb, F, G, h⟩⟩, hA, hk, fun k o e => by cases e⟩
theorem rd_shape {W : World} {n : Nat} {v : Value} {xs : List Value} (h : Rd W 1 v n xs) : ∃ a c, v = .slice a n c := by obtain ⟨a, c, rfl, -⟩ := h; exact ⟨a, c, rfl⟩
theorem rd_new2 (W : World) (o : Obj) (cs : Array Value) (e : TypeId) (n : Nat) (xs : List Value) (h : cs.toList = xs ∧ xs.length = n * 1 := by exact ⟨rfl, rfl⟩) :
    Rd ((W.alloc o).alloc (.cells cs e)) 1 (.slice (some ⟨W.heap.size + 1, 0, none⟩) n n) n xs := by
  have := rd_new (w := W.alloc o) cs e 1 n xs h
  rw [World.size_alloc] at this
  exact this
def ob0 (k : Nat) : Option Obj := none
def obw (b : Nat) (x0 x1 x2 : Int) (k : Nat) : Option Obj := if k = b then some (.cells #[.int .u8 x0, .int .u8 x1, .int .u8 x2] 5) else none
theorem want3 {c : Cfg} {pb L b : Nat} {s : PSt} {ops : List POb} {wr : World} {x0 x1 x2 : Int} (h : PX w (obw b x0 x1 x2) c pb L s ops wr) {k : Nat} {p : Int} (hp : [x0, x1, x2][k]? = some p) : wr.cell? ⟨b, k, none⟩ = some (.int .u8 p) := by
  obtain ⟨A, h⟩ := h
  have h1 := (h.blk b _ (if_pos rfl)).2
  rw [cell_of h1]
  match k, hp with
  | 0, hp => cases hp; rfl
  | 1, hp => cases hp; rfl
  | 2, hp => cases hp; rfl
  | k + 3, hp => simp at hp
theorem PX.ts {c : Cfg} {pb L j : Nat} {s s2 : PSt} {o2 : PO} {ops : List POb} {x : POb} {wr : World} {ob : Nat → Option Obj} (h : PX w ob c pb L s ops wr) (hok : c.ok) (hj : ops[j]? = some x) (hg : x.o.gv = false) (ht : stpOk c (s, x.o) = true) (p : Int) (hp : x.o.pc = p) (hs : stp c (s, x.o) = (s2, o2)) (d : Bool) (hd : (o2.pc == 0) = d) :
    Calls Try.prog 21 #[.pointer (some ⟨x.tb, 0, none⟩)] wr fun e w' => e = .returned (.tuple #[.int .u8 p, .bool d]) ∧ PX w ob c pb L s2 (ops.set j ⟨x.tb, x.m, o2⟩) w' := by
  have := h.tstep hok hj hg ht
  rw [hs, hp] at this
  simp only [hd] at this
  exact this
theorem PX.gs {c : Cfg} {pb L j : Nat} {s s2 : PSt} {o2 : PO} {ops : List POb} {x : POb} {wr : World} {ob : Nat → Option Obj} (h : PX w ob c pb L s ops wr) (hok : c.ok) (hj : ops[j]? = some x) (hg : x.o.gv = true) (ht : stpOk c (s, x.o) = true) (p : Int) (hp : x.o.pc = p) (hs : stp c (s, x.o) = (s2, o2)) (d : Bool) (hd : (o2.pc == 0) = d) :
    Calls Try.prog 24 #[.pointer (some ⟨x.tb, 0, none⟩)] wr fun e w' => e = .returned (.tuple #[.int .u8 p, .bool d]) ∧ PX w ob c pb L s2 (ops.set j ⟨x.tb, x.m, o2⟩) w' := by
  have := h.gstep hok hj hg ht
  rw [hs, hp] at this
  simp only [hd] at this
  exact this
set_option maxRecDepth 100000 in
set_option maxHeartbeats 16000000 in
theorem walk_pex (w : World) : Calls Try.prog 5 #[] w fun e w' => e = .returned (.bool true) ∧ Keep Nil w w' := by
  have hz := hid w_le
  go_enter Try.func5, Try.ntmps5
  go_wp2_with fail
  refine (x_cfg w).mono ?_
  rintro e w1 ⟨rfl, hk1⟩
  have HK1 := hid hk1
  clear hk1
  go_wp2_with fail
  refine (x_new _).mono ?_
  rintro e w2 ⟨L, G, rfl, hl, hk, hG⟩
  have HL := hid hl
  have HK2 := hid (HK1.out.trans hk (fun _ _ h => h))
  have HG := hid hG
  clear hl hk hG
  generalize cfgV xc 2 1 0 0 0 0 none 0 = V0
  go_wp2_with fail
  refine (initial_ok HL.out.at_ xc_ok (by have := hz.out; omega)).mono ?_
  rintro e w3 ⟨rfl, hrow, hk3⟩
  have hr3 : Rd w3 1 (.slice (some ⟨w2.heap.size, 0, none⟩) xc.words xc.words) (ints xc.init).length (u64s (ints xc.init)) := by
    rw [pinit_len]
    exact rd_of_heap hrow (by rw [show (u64s (ints xc.init)).length = (ints xc.init).length by simp [u64s], pinit_len, Nat.mul_one])
  have HR3 := hid hr3
  have HL3 := hid (HL.out.keep hk3 (fun _ _ h => h))
  have HK3 := hid (HK2.out.trans hk3 (fun _ _ h => h))
  have Z3 := hid (show w.heap.size ≤ w2.heap.size ∧ w2.heap.size < w3.heap.size from ⟨HK2.out.size, lt_of_block hrow⟩)
  clear hrow hk3 hr3
  go_wp2_with fail
  refine (new_ok _ (ints xc.init) _ HR3.out (by rw [pinit_len]; have := hz.out; omega) (by rw [pinit_len]; exact hz.out.2)).mono ?_
  rintro e w4 ⟨mb, F, rfl, hm, hk4, hf⟩
  have HM := hid hm
  have HL4 := hid (HL3.out.keep hk4 (fun _ _ h => h))
  have HF := hid (show ∀ k, F k → w3.heap.size ≤ k from fun k h => (hf k h).resolve_left (fun h => h))
  have HK4 := hid (HK3.out.trans hk4 (fun _ _ h => h))
  have Z4 := hid hk4.size
  clear hm hk4 hf
  go_wp2_with fail
  refine (poolnew_ok HL4.out.at_ HM.out (pinit_len xc) xc_ok hz.out.2).mono ?_
  rintro e w5 ⟨pb, ob, gb, rfl, hp0, hk5, b1, b2, b3, -⟩
  have hpa : PA w5 (fun k => k = pb ∨ k = ob ∨ k = gb ∨ F k ∨ G k) xc pb mb L ob gb F G e0 := pa_new HL4.out HM.out (fun k hk => ⟨fun hF => by have := HF.out k hF; have := (HG.out k hk).2; have := Z3.out; omega, by have := (HG.out k hk).2; have := Z3.out; have := Z4.out; omega⟩) hp0 hk5 b1 b2 b3
  have PX0 := hid (show PX w ob0 xc pb L e0 [] w5 from px_new (w1 := w) hpa (fun k hk => by
    have z1 := Z3.out
    have z2 := Z4.out
    rcases hk with rfl | rfl | rfl | h | h
    · omega
    · omega
    · omega
    · have := HF.out k h; omega
    · have := (HG.out k h).1; have := HK1.out.size; omega) (HK4.out.trans hk5 (fun _ _ h => h)))
  clear hpa hp0 hk5 b1 b2 b3 HM HL4 HL3 HR3 HL HF HG HK4 HK3 HK2 HK1 Z3 Z4
  go_wp2_with fail
  refine (PX.lists (PX0.out.quiet (((Keep.refl Nil w5).alloc _).alloc _)) xc_ok i0 sw0 [1, 2] [3] l0.1 l0.2.1 l0.2.2 _ _ (rd_keep (rd_new _ _ _ _ _ _) ((Keep.refl Nil _).alloc _) (fun _ _ h => h)) (rd_new2 _ _ _ _ _ _) (by decide) (by decide)).mono ?_
  rintro e w6 ⟨rfl, h⟩
  have P6 := hid h
  clear h PX0
  go_wp2_with fail
  refine (PX.outs P6.out xc_ok i0 [] o0).mono ?_
  rintro e w7 ⟨v7, rfl, hrd, h⟩
  obtain ⟨a7, c7, rfl⟩ := rd_shape hrd
  have P7 := hid h
  clear h hrd P6
  go_wp2_with fail
  refine (PX.takes P7.out xc_ok 0 1 0 (by decide) (by decide) (by decide) (by decide) (by decide) (by decide)).mono ?_
  rintro e w8 ⟨ta, ma, rfl, h⟩
  have P8 := hid (show PX w ob0 xc pb L (xA 0).1 [⟨ta, ma, (xA 0).2⟩] w8 from h)
  clear h P7
  go_wp2_with fail
  refine (PX.tres (j := 0) P8.out rfl rfl 0 0 8 a_res.1).mono ?_
  rintro e w9 ⟨rfl, h⟩
  have P9 := hid h
  clear h P8
  go_wp2
  go_loopw [10] (fun i wz => ∃ k : Nat, k ≤ 3 ∧ i = .int .i64 (k : Int) ∧ Hid (PX w (obw w9.heap.size 4 5 6) xc pb L (xA k).1 [⟨ta, ma, (xA k).2⟩] wz)) (fun i _ => 3 - (intOf i).toNat)
  case atStart => exact ⟨0, by decide, rfl, hid (P9.out.mark _ _)⟩
  case round =>
    clear P9
    obtain ⟨k, hk, rfl, P⟩ := hrel
    by_cases hlt : k < 3
    · obtain ⟨s1, s2, s3, s4⟩ := a_ok k hlt
      obtain ⟨d, hd⟩ : ∃ d, (k == 2) = d := ⟨_, rfl⟩
      obtain ⟨p, hp⟩ : ∃ p, ([4, 5, 6] : List Int)[k]? = some p := ⟨_, List.getElem?_eq_getElem hlt⟩
      have hpc : (xA k).2.pc = p := by
        rw [s3]
        match k, hlt, hp with
        | 0, _, hp => cases hp; rfl
        | 1, _, hp => cases hp; rfl
        | 2, _, hp => cases hp; rfl
      have HS := hid (PX.ts (j := 0) P.out xc_ok rfl s2 s1 p hpc (show stp xc ((xA k).1, (xA k).2) = ((xA (k + 1)).1, (xA (k + 1)).2) from rfl) d (s4.trans hd))
      have hp2 := hp
      have hd2 : ((k : Int) == 2) = d := by rw [← hd, Bool.eq_iff_iff, beq_iff_eq, beq_iff_eq]; omega
      clear s1 s2 s3 s4 hp hpc hd
      have HPP := hid hp2
      clear hp2
      go_wp2_with fail
      refine HS.out.mono ?_
      rintro e wn ⟨rfl, h⟩
      have cw := want3 h HPP.out
      have P2 := hid h
      clear h
      go_wp2
      go_roundw
      case rel => exact ⟨k + 1, by omega, by go_num, P2⟩
      case measure => simp [intOf]; omega
    · obtain rfl : k = 3 := by omega
      generalize obw w9.heap.size 4 5 6 = ob1 at P
      clear hlt hk
      go_wp2_with fail
      refine (PX.tres (j := 0) P.out rfl a_res.2.1 1 0 0 a_res.2.2).mono ?_
      rintro e w10 ⟨rfl, h⟩
      have P10 := hid (h)
      clear h P
      go_wp2_with fail
      refine (PX.outs P10.out xc_ok i3 [1] o3).mono ?_
      rintro e w11 ⟨v, rfl, hrd, h⟩
      have HV := hid hrd
      clear hrd
      have P11 := hid (h)
      clear h P10
      go_wp2_with fail
      refine (eqInts_yes v _ [1] _ (rd_keep HV.out ((Keep.refl Nil _).alloc _) (fun _ _ h => h)) (rd_new _ _ _ _ _ _) (by decide)).mono ?_
      rintro e w12 ⟨rfl, hk12⟩
      have P12 := hid (P11.out.quiet (((Keep.refl Nil _).alloc _).trans hk12 (fun _ _ h => h)))
      clear hk12 P11 HV
      go_wp2_with fail
      refine (PX.lists (P12.out.quiet (((Keep.refl Nil w12).alloc _).alloc _)) xc_ok i3 sw3 [2] [3] l3.1 l3.2.1 l3.2.2 _ _ (rd_keep (rd_new _ _ _ _ _ _) ((Keep.refl Nil _).alloc _) (fun _ _ h => h)) (rd_new2 _ _ _ _ _ _) (by decide) (by decide)).mono ?_
      rintro e w13 ⟨rfl, h⟩
      have P13 := hid h
      clear h P12
      go_wp2_with fail
      refine (PX.takes P13.out xc_ok 0 3 0 (by decide) (by decide) (by decide) (by decide) (by decide) (by decide)).mono ?_
      rintro e w14 ⟨tb, mb2, rfl, h⟩
      have P14 := hid ((show PX w ob1 xc pb L (xA 3).1 [⟨ta, ma, (xA 3).2⟩, ⟨tb, mb2, PO.take 0 3 0⟩] w14 from h))
      clear h P13
      go_wp2_with fail
      refine (PX.ts (j := 1) P14.out xc_ok rfl rfl b_ok.1 4 rfl (show stp xc ((xA 3).1, PO.take 0 3 0) = (xB.1, xB.2) from rfl) true (by rw [b_ok.2.1]; rfl)).mono ?_
      rintro e w15 ⟨rfl, h⟩
      have P15 := hid ((show PX w ob1 xc pb L xB.1 [⟨ta, ma, (xA 3).2⟩, ⟨tb, mb2, xB.2⟩] w15 from h))
      clear h P14
      go_wp2_with fail
      refine (PX.tres (j := 1) P15.out rfl b_ok.2.2.1 0 0 6 b_ok.2.2.2).mono ?_
      rintro e w16 ⟨rfl, h⟩
      have P16 := hid (h)
      clear h P15
      go_wp2_with fail
      refine (PX.give_no P16.out xc_ok 1 2 (by decide) (by decide) (by decide) (by rw [x_nT]; decide) c_out.1).mono ?_
      rintro e w17 ⟨rfl, h⟩
      have P17 := hid (h)
      clear h P16
      go_wp2_with fail
      refine (PX.give P17.out xc_ok 1 1 (by decide) (by decide) (by decide) (by rw [x_nT]; decide) c_out.2.1 1 x_hs).mono ?_
      rintro e w18 ⟨tc, mc, rfl, h⟩
      have P18 := hid ((show PX w ob1 xc pb L (xC 0).1 [⟨ta, ma, (xA 3).2⟩, ⟨tb, mb2, xB.2⟩, ⟨tc, mc, (xC 0).2⟩] w18 from h))
      clear h P17
      go_wp2_with fail
      refine (PX.give_no P18.out xc_ok 1 1 (by decide) (by decide) (by decide) (by rw [x_nT]; decide) c_out.2.2).mono ?_
      rintro e w19 ⟨rfl, h⟩
      have P19 := hid (h)
      clear h P18
      go_wp2
      go_loopw [26] (fun i wz => ∃ k : Nat, k ≤ 3 ∧ i = .int .i64 (k : Int) ∧ Hid (PX w (obw w19.heap.size 4 7 8) xc pb L (xC k).1 [⟨ta, ma, (xA 3).2⟩, ⟨tb, mb2, xB.2⟩, ⟨tc, mc, (xC k).2⟩] wz)) (fun i _ => 3 - (intOf i).toNat)
      case atStart => exact ⟨0, by decide, rfl, hid (P19.out.mark _ _)⟩
      case round =>
        clear P19
        obtain ⟨k, hk, rfl, P⟩ := hrel
        by_cases hlt : k < 3
        · obtain ⟨s1, s2, s3, s4⟩ := c_ok k hlt
          obtain ⟨d, hd⟩ : ∃ d, (k == 2) = d := ⟨_, rfl⟩
          obtain ⟨p, hp⟩ : ∃ p, ([4, 7, 8] : List Int)[k]? = some p := ⟨_, List.getElem?_eq_getElem hlt⟩
          have hpc : (xC k).2.pc = p := by
            rw [s3]
            match k, hlt, hp with
            | 0, _, hp => cases hp; rfl
            | 1, _, hp => cases hp; rfl
            | 2, _, hp => cases hp; rfl
          have HS := hid (PX.gs (j := 2) P.out xc_ok rfl s2 s1 p hpc (show stp xc ((xC k).1, (xC k).2) = ((xC (k + 1)).1, (xC (k + 1)).2) from rfl) d (s4.trans hd))
          have hd2 : ((k : Int) == 2) = d := by rw [← hd, Bool.eq_iff_iff, beq_iff_eq, beq_iff_eq]; omega
          have HPP := hid hp
          clear s1 s2 s3 s4 hp hpc hd
          go_wp2_with fail
          refine HS.out.mono ?_
          rintro e wn ⟨rfl, h⟩
          have cw := want3 h HPP.out
          have P2 := hid h
          clear h
          go_wp2
          go_roundw
          case rel => exact ⟨k + 1, by omega, by go_num, P2⟩
          case measure => simp [intOf]; omega
        · obtain rfl : k = 3 := by omega
          generalize obw w19.heap.size 4 7 8 = ob2 at P
          clear hlt hk
          go_wp2_with fail
          refine (PX.gen P.out xc_ok 1 (by decide) (by rw [x_nT]; decide) 1 c_gen).mono ?_
          rintro e w20 ⟨rfl, rfl⟩
          go_wp2_with fail
          refine (PX.lists (P.out.quiet (((Keep.refl Nil _).alloc _).alloc _)) xc_ok i7 sw7 [1, 2] [3] l7.1 l7.2.1 l7.2.2 _ _ (rd_keep (rd_new _ _ _ _ _ _) ((Keep.refl Nil _).alloc _) (fun _ _ h => h)) (rd_new2 _ _ _ _ _ _) (by decide) (by decide)).mono ?_
          rintro e w21 ⟨rfl, h⟩
          have P21 := hid h
          clear h P
          go_wp2_with fail
          refine (PX.takes P21.out xc_ok 0 1 1 (by decide) (by decide) (by decide) (by decide) (by decide) (by decide)).mono ?_
          rintro e w22 ⟨td, md, rfl, h⟩
          have P22 := hid ((show PX w ob2 xc pb L (xC 3).1 [⟨ta, ma, (xA 3).2⟩, ⟨tb, mb2, xB.2⟩, ⟨tc, mc, (xC 3).2⟩, ⟨td, md, (xD 0).2⟩] w22 from h))
          clear h P21
          go_wp2_with fail
          refine (PX.takes P22.out xc_ok 1 1 0 (by decide) (by decide) (by decide) (by decide) (by decide) (by decide)).mono ?_
          rintro e w23 ⟨tx, mx, rfl, h⟩
          have P23 := hid ((show PX w ob2 xc pb L (xD 0).1 [⟨ta, ma, (xA 3).2⟩, ⟨tb, mb2, xB.2⟩, ⟨tc, mc, (xC 3).2⟩, ⟨td, md, (xD 0).2⟩, ⟨tx, mx, (xX 0).2⟩] w23 from h))
          clear h P22
          go_wp2_with fail
          refine (PX.ts (j := 3) P23.out xc_ok rfl (d_ok 0 (by decide)).2.1 (d_ok 0 (by decide)).1 4 (d_ok 0 (by decide)).2.2.1 (show stp xc ((xD 0).1, (xD 0).2) = ((xD 1).1, (xD 1).2) from rfl) false (d_ok 0 (by decide)).2.2.2).mono ?_
          rintro e w24 ⟨rfl, h⟩
          have P24 := hid ((show PX w ob2 xc pb L (xD 1).1 [⟨ta, ma, (xA 3).2⟩, ⟨tb, mb2, xB.2⟩, ⟨tc, mc, (xC 3).2⟩, ⟨td, md, (xD 1).2⟩, ⟨tx, mx, (xX 0).2⟩] w24 from h))
          clear h P23
          go_wp2_with fail
          refine (PX.ts (j := 3) P24.out xc_ok rfl (d_ok 1 (by decide)).2.1 (d_ok 1 (by decide)).1 5 (d_ok 1 (by decide)).2.2.1 (show stp xc ((xD 1).1, (xD 1).2) = ((xD 2).1, (xD 2).2) from rfl) false (d_ok 1 (by decide)).2.2.2).mono ?_
          rintro e w25 ⟨rfl, h⟩
          have P25 := hid ((show PX w ob2 xc pb L (xD 2).1 [⟨ta, ma, (xA 3).2⟩, ⟨tb, mb2, xB.2⟩, ⟨tc, mc, (xC 3).2⟩, ⟨td, md, (xD 2).2⟩, ⟨tx, mx, (xX 0).2⟩] w25 from h))
          clear h P24
          go_wp2_with fail
          refine (PX.ts (j := 4) P25.out xc_ok rfl (x_ok 0 (by decide)).2.1 (x_ok 0 (by decide)).1 4 (x_ok 0 (by decide)).2.2.1 (show stp xc ((xX 0).1, (xX 0).2) = ((xX 1).1, (xX 1).2) from rfl) false (x_ok 0 (by decide)).2.2.2).mono ?_
          rintro e w26 ⟨rfl, h⟩
          have P26 := hid ((show PX w ob2 xc pb L (xX 1).1 [⟨ta, ma, (xA 3).2⟩, ⟨tb, mb2, xB.2⟩, ⟨tc, mc, (xC 3).2⟩, ⟨td, md, (xD 2).2⟩, ⟨tx, mx, (xX 1).2⟩] w26 from h))
          clear h P25
          go_wp2_with fail
          refine (PX.ts (j := 4) P26.out xc_ok rfl (x_ok 1 (by decide)).2.1 (x_ok 1 (by decide)).1 5 (x_ok 1 (by decide)).2.2.1 (show stp xc ((xX 1).1, (xX 1).2) = ((xX 2).1, (xX 2).2) from rfl) false (x_ok 1 (by decide)).2.2.2).mono ?_
          rintro e w27 ⟨rfl, h⟩
          have P27 := hid ((show PX w ob2 xc pb L (xX 2).1 [⟨ta, ma, (xA 3).2⟩, ⟨tb, mb2, xB.2⟩, ⟨tc, mc, (xC 3).2⟩, ⟨td, md, (xD 2).2⟩, ⟨tx, mx, (xX 2).2⟩] w27 from h))
          clear h P26
          go_wp2_with fail
          refine (PX.ts (j := 4) P27.out xc_ok rfl (x_ok 2 (by decide)).2.1 (x_ok 2 (by decide)).1 6 (x_ok 2 (by decide)).2.2.1 (show stp xc ((xX 2).1, (xX 2).2) = ((xX 3).1, (xX 3).2) from rfl) true (x_ok 2 (by decide)).2.2.2).mono ?_
          rintro e w28 ⟨rfl, h⟩
          have P28 := hid ((show PX w ob2 xc pb L (xX 3).1 [⟨ta, ma, (xA 3).2⟩, ⟨tb, mb2, xB.2⟩, ⟨tc, mc, (xC 3).2⟩, ⟨td, md, (xD 2).2⟩, ⟨tx, mx, (xX 3).2⟩] w28 from h))
          clear h P27
          go_wp2_with fail
          refine (PX.ts (j := 3) P28.out xc_ok rfl z_ok.2.1 z_ok.1 6 z_ok.2.2.1 (show stp xc ((xX 3).1, (xD 2).2) = (xZ.1, xZ.2) from rfl) true (by rw [z_ok.2.2.2.1]; rfl)).mono ?_
          rintro e w29 ⟨rfl, h⟩
          have P29 := hid ((show PX w ob2 xc pb L xZ.1 [⟨ta, ma, (xA 3).2⟩, ⟨tb, mb2, xB.2⟩, ⟨tc, mc, (xC 3).2⟩, ⟨td, md, xZ.2⟩, ⟨tx, mx, (xX 3).2⟩] w29 from h))
          clear h P28
          go_wp2_with fail
          refine (PX.tres (j := 3) P29.out rfl z_ok.2.2.2.2.1 0 1 11 z_ok.2.2.2.2.2).mono ?_
          rintro e w30 ⟨rfl, h⟩
          have P30 := hid (h)
          clear h P29
          go_wp2_with fail
          refine (new_ok _ [0] _ (rd_new _ _ _ _ _ _) (by decide) (by decide)).mono ?_
          rintro e w31 ⟨sb, SF, rfl, hm, hk31, -⟩
          have P31 := hid (P30.out.quiet (((Keep.refl Nil _).alloc _).trans hk31 (fun _ _ h => h)))
          have HM := hid hm
          clear hm hk31 P30
          obtain ⟨A31, h31⟩ := P31.out
          obtain ⟨F31, mb', ob', gb', F1', G', hpa⟩ := pools_pa h31.lie
          have HLL := hid hpa.lay.at_
          clear hpa h31
          go_wp2_with fail
          refine (poolnew_arg HLL.out HM.out (by show 1 < xc.words; exact hz.out.1) hz.out.2).mono ?_
          rintro e w32 ⟨rfl, hk32⟩
          have K32 := hid (P31.out.keep.trans hk32 (fun _ _ h => h))
          clear hk32 P31 HLL HM
          go_wp2_with fail
          refine (poolnew_nil _).mono ?_
          rintro e w33 ⟨rfl, hk33⟩
          have K33 := hid (K32.out.trans hk33 (fun _ _ h => h))
          clear hk33 K32
          go_wp2_with fail
          refine (ptake_nil 0 1 0).mono ?_
          rintro e w34 ⟨rfl, hk34⟩
          have K34 := hid (K33.out.trans hk34 (fun _ _ h => h))
          clear hk34 K33
          go_wp2_with fail
          refine (pgive_nil 0 1).mono ?_
          rintro e w35 ⟨rfl, hk35⟩
          have K35 := hid (K34.out.trans hk35 (fun _ _ h => h))
          clear hk35 K34
          go_wp2_with fail
          refine (plist_nil 1).mono ?_
          rintro e w36 ⟨rfl, rfl⟩
          go_wp2_with fail
          refine (pgen_nil 1).mono ?_
          rintro e w37 ⟨rfl, rfl⟩
          go_wp2_with fail
          refine (tres_nil).mono ?_
          rintro e w38 ⟨rfl, rfl⟩
          go_wp2_with fail
          refine (gstep_nil).mono ?_
          rintro e w39 ⟨rfl, rfl⟩
          go_wp2_with fail
          refine (pout_nil).mono ?_
          rintro e w40 ⟨rfl, rfl⟩
          go_wp2
          go_ret
          exact ⟨rfl, K35.out⟩
end
end Go.Proofs.Ytjghenomeindcaa
