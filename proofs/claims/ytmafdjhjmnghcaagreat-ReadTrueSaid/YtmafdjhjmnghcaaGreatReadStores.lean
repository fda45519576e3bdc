/- The stores of deeds: the contract of law25.stores. -/
import Derived.Test.YtmafdjhjmnghcaaGreatReadStP
import Derived.Test.YtmafdjhjmnghcaaGreatReadNm0
import Derived.Test.YtmafdjhjmnghcaaGreatReadShown
import Derived.Test.YtmafdjhjmnghcaaGreatWdOk
set_option linter.unusedVariables false
set_option linter.unusedSimpArgs false
namespace Go.Proofs.YtmafdjhjmnghcaaGreat
open Go.RowKit Go.Lf
attribute [local go_sem] fld0 fld1 fld2 fld3 fld4 fld5 fld6 fld7 fld8 fld9 fldc fldl
theorem infoAt : (Tryz.prog.info? 91).map (fun i => (i.zero, i.size, i.bytes)) = some (some (.agg #[.int .i64 0, .int .u64 0]), 2, 16) := by kernel_rfl
/-- Stores have been gathered. -/
def StoresTo (w : World) (T D : Nat) (all : List WSt) (e : Ending) (w' : World) : Prop :=
  ∃ a cp, e = .returned (.slice a all.length cp) ∧ Rd w' 2 (.slice a all.length cp) all.length (stCells T D all) ∧ all.length ≤ cp ∧ Keep Nil w w' ∧ ∀ k, (Value.slice a all.length cp).ownBlock = some k → w.heap.size ≤ k ∧ k < w'.heap.size
theorem row_cap2 {w : World} {e : TypeId} {size n cp m : Nat} {a : Option Addr} {xs : List Value} (h : w.ownsRow 0 e size (.slice a n cp) m xs) : m ≤ cp := by
  rcases h.2 with ⟨h, rfl⟩ | ⟨g, cap, cur, h, -, -, h1, -⟩
  · omega
  · injection h with _ _ h3; omega
theorem st_v (T D : Nat) (v : Int) : stCells T D [.V v] = [.int .i64 ((T : Int) + 1), .int .u64 v] := by simp [stCells, WSt.addr, WSt.val]
theorem st_3 (T D : Nat) : stCells T D [.D 0 1, .S 1, .D 0 2] = [.int .i64 (D : Int), .int .u64 1, .int .i64 ((T : Int) + 4), .int .u64 1, .int .i64 (D : Int), .int .u64 2] := by simp [stCells, WSt.addr, WSt.val]
theorem st_4 (T D e : Nat) (s a b : Int) : stCells T D [.S s, .D e a, .S 2, .D e b] = [.int .i64 ((T : Int) + 4), .int .u64 s, .int .i64 ((D : Int) + e), .int .u64 a, .int .i64 ((T : Int) + 4), .int .u64 2, .int .i64 ((D : Int) + e), .int .u64 b] := by simp [stCells, WSt.addr, WSt.val]
theorem st_6 (T D e : Nat) (v s a b : Int) : stCells T D [.A v, .S s, .D e a, .V v, .S 1, .D e b] = [.int .i64 ((T : Int) + 2), .int .u64 v, .int .i64 ((T : Int) + 4), .int .u64 s, .int .i64 ((D : Int) + e), .int .u64 a, .int .i64 ((T : Int) + 1), .int .u64 v, .int .i64 ((T : Int) + 4), .int .u64 1, .int .i64 ((D : Int) + e), .int .u64 b] := by simp [stCells, WSt.addr, WSt.val]
theorem deedCells_at {l : List DeedV} {k : Nat} {x : DeedV} (hx : l[k]? = some x) {j : Nat} (hj : j < 3) : (deedCells l)[k * 3 + j]? = x.cells[j]? := flatn_at DeedV.cells 3 (fun _ => rfl) l hx hj
section
variable {w wo : World} {c : Cfg} {b mb : Nat} {ws : List Int} {log : List Acc}
set_option maxRecDepth 100000 in
set_option maxHeartbeats 4000000 in
theorem stores_ok (h : SW w wo c b mb ws log) (hok : c.ok) (hnt : 0 < c.nT) (born : Bool) (va : Option Addr) (vc : Nat) (ds : List DeedV) (hrd : Rd wo 3 (.slice va ds.length vc) ds.length (deedCells ds)) (hwf : ∀ y ∈ ds, y.wf) (ml : ds.length ≤ maxLen) :
    Calls Tryz.prog 47 #[.pointer (some ⟨b, 0, none⟩), .int .i64 1, .bool born, .slice va ds.length vc] wo (StoresTo wo (c.tow 0) c.descs (storesP c.lk born ds)) := by
  have HS := hid h
  have HC := hid hok
  have HN := hid hnt
  have HRD := hid hrd
  have HWF := hid hwf
  have HML := hid ml
  have hmx : (if (1 : Int) < (c.lk : Int) then (c.lk : Int) else 1) = (c.lk : Int) := by have := hok.lk1; split <;> omega
  have mk : ∀ W : World, (Instr.makeSlice 40 (.int .i64 (c.lk : Int)) (.int .i64 (c.lk : Int))).run Tryz.prog W = .ok (.slice (some ⟨W.heap.size, 0, none⟩) c.lk c.lk) (W.alloc (.cells (u64s (List.replicate c.lk 0)).toArray 26)) := fun W => by
    rw [make_u64 c.lk (by have := hok.lk2; omega)]
    simp [u64s]
  obtain ⟨hd1, hd2, hd3⟩ : c.descs ≤ 4096 ∧ c.lk ≤ 16 ∧ 1 ≤ c.lk := by
    have := hok.towers
    obtain ⟨-, -, -, -, hq1, hq2, hq3, hq4, hq5⟩ := plc_lt c
    have := hok.lk1; have := hok.lk2
    omega
  have HD := hid (And.intro hd1 (And.intro hd2 hd3))
  clear h hok hnt hrd hwf ml hd1 hd2 hd3
  go_enter Tryz.func47, Tryz.ntmps47
  go_wp2_with fail
  refine (sw_config HS.out HC.out).mono ?_
  rintro e w1 ⟨t1, t2, t3, t4, t5, t6, a, cp, rfl, hk1⟩
  obtain ⟨W0, hW0⟩ : ∃ W0, W0 = w1.alloc (.cells (u64s (List.replicate c.lk 0)).toArray 26) := ⟨_, rfl⟩
  have HGB0 := hid (show W0.heap[w1.heap.size]? = some (.cells (u64s (List.replicate c.lk 0)).toArray 26 (0, 0)) from hW0 ▸ heap_alloc_new w1 _)
  have hk0 : Keep Nil wo W0 := hW0 ▸ hk1.alloc _
  have HS2 := hid (HS.out.quiet hk0)
  have HK0 := hid hk0
  have HZ1 := hid (show wo.heap.size ≤ w1.heap.size from hk1.size)
  have HZ0 := hid (show w1.heap.size < W0.heap.size from lt_of_block HGB0.out)
  have HZ2 := hid (show wo.heap.size ≤ W0.heap.size by have := HZ1.out; have := HZ0.out; omega)
  go_wp2_with fail
  rw [← hW0]
  clear hk1 hk0 hW0
  refine (sw_layout HS2.out).mono ?_
  rintro e w3 ⟨L, rfl, hl, rfl⟩
  have HLAY := hid hl
  clear hl
  go_wp2_with fail
  refine (places_ok HLAY.out).mono ?_
  rintro e w3 ⟨rfl, hk⟩
  have HS3 := hid (HS2.out.quiet hk)
  have HGB1 := hid (hk.at HGB0.out (fun h => h))
  have HKP := hid hk
  clear hk HLAY HS2
  go_wp2_with fail
  refine (word_ok HS3.out HC.out HN.out 1 1 ((c.tow 0 : Int) + 1) (by decide) (by decide) (by decide) rfl).mono ?_
  rintro e w4 ⟨rfl, rfl⟩
  go_wp2_with fail
  refine (word_ok HS3.out HC.out HN.out 1 2 ((c.tow 0 : Int) + 2) (by decide) (by decide) (by decide) rfl).mono ?_
  rintro e w4 ⟨rfl, rfl⟩
  go_wp2_with fail
  refine (word_ok HS3.out HC.out HN.out 1 4 ((c.tow 0 : Int) + 4) (by decide) (by decide) (by decide) rfl).mono ?_
  rintro e w4 ⟨rfl, rfl⟩
  cases born
  · go_wp2
    have HKZ := hid HK0.out
    go_loopw [9, 15] (fun o i wr => ∃ (k : Nat) (a : Option Addr) (cp : Nat) (gl : List Int) (done : List WSt), k ≤ 8 ∧ i = .int .i64 k ∧ o = .slice a done.length cp ∧ wr.ownsRow 0 91 2 (.slice a done.length cp) done.length (stCells (c.tow 0) c.descs done) ∧ (∀ q, (Value.slice a done.length cp).ownBlock = some q → W0.heap.size ≤ q) ∧ wr.heap[w1.heap.size]? = some (.cells (u64s gl).toArray 26 (0, 0)) ∧ Gath c.lk false ds k gl done ∧ Keep (fun q => q = w1.heap.size) W0 wr) (fun _ i _ => 8 - (intOf i).toNat)
    case atStart => exact ⟨0, none, 0, _, [], by decide, rfl, rfl, ⟨rfl, .inl ⟨rfl, rfl⟩⟩, fun q h => (by cases h), HGB1.out, Gath.start0 c.lk ds, HKP.out.mono (fun _ _ h => h.elim)⟩
    case round =>
      obtain ⟨k, a', cp', gl, done, hk8, rfl, hoo, hrow, hnew, hgb, hga, hkw⟩ := hrel
      subst hoo
      have HROW := hid hrow
      have HNEW := hid hnew
      have HGB := hid hgb
      have HGA := hid hga
      have HKW := hid hkw
      have HKR := hid (show Keep Nil wo wr from HKZ.out.trans hkw (fun q hlt e => by have := HZ1.out; omega))
      clear hrow hnew hgb hga hkw HGB1
      by_cases hlt : k < ds.length
      · have d1 : decide ((k : Int) < (ds.length : Int)) = true := decide_eq_true (by omega)
        have e1 : decide (k < ds.length) = true := decide_eq_true hlt
        by_cases h8 : k < 8
        · have d2 : decide ((k : Int) < 8) = true := decide_eq_true (by omega)
          have e2 : decide (k < 8) = true := decide_eq_true h8
          obtain ⟨y, hy⟩ : ∃ y, ds[k]? = some y := ⟨_, List.getElem?_eq_getElem hlt⟩
          obtain ⟨w1', w2', w3'⟩ := HWF.out y (List.mem_of_getElem? hy)
          obtain ⟨kf0, kf1⟩ := u8_wf w1'
          obtain ⟨en0, en1⟩ := i64_wf w2'
          obtain ⟨yv0, yv1⟩ := u64_wf w3'
          obtain ⟨bb, off, cc, hv, hcell⟩ := Rd.cell HRD.out (by omega)
          simp only [Value.slice.injEq] at hv
          obtain ⟨hv1, -, hv2⟩ := hv
          have c0 := hcell (k * 3) (.int .u8 y.kindF) (by rw [show k * 3 = k * 3 + 0 from rfl, deedCells_at hy (by decide)]; rfl)
          have c1 := hcell (k * 3 + 1) (.int .i64 y.entry) (by rw [deedCells_at hy (by decide)]; rfl)
          have c2 := hcell (k * 3 + 2) (.int .u64 y.v) (by rw [deedCells_at hy (by decide)]; rfl)
          rw [← Nat.add_assoc] at c1 c2
          have HC2 := hid c2
          replace c0 := HKR.out.cell c0 (fun h => h)
          replace c1 := HKR.out.cell c1 (fun h => h)
          replace c2 := HKR.out.cell c2 (fun h => h)
          have k0 : (0 : Int) ≤ (k : Int) := by omega
          have k1 : (k : Int) < (ds.length : Int) := by omega
          have wk1 : IntKind.i64.wrap ((k : Int) + 1) = (k : Int) + 1 := by rw [IntKind.wrap_i64]; omega
          have HY := hid hy
          have hml := HML.out
          obtain ⟨hd1, hd2, hd3⟩ := HD.out
          have em0 : 0 ≤ y.entry % (c.lk : Int) := Int.emod_nonneg _ (by omega)
          have em1 : y.entry % (c.lk : Int) < (c.lk : Int) := Int.emod_lt_of_pos _ (by omega)
          obtain ⟨e, he⟩ : ∃ e : Nat, e = (y.entry % (c.lk : Int)).toNat := ⟨_, rfl⟩
          have hel : e < c.lk := by omega
          have hmod : ∀ W : World, Calls Tryz.prog 29 #[.int .i64 y.entry, .int .i64 (c.lk : Int)] W fun e' w' => e' = .returned (.int .i64 (e : Int)) ∧ W = w' := fun W => by
            have h := mod_ok y.entry (c.lk : Int) en0 en1 (by omega) (by omega) W
            rw [show y.entry % (c.lk : Int) = (e : Int) by omega] at h
            exact h
          have HMOD := hid hmod
          have hgl := HGA.out.len
          obtain ⟨g, hg⟩ : ∃ g, gl[e]? = some g := ⟨_, List.getElem?_eq_getElem (by omega)⟩
          obtain ⟨gn0, gn1⟩ := HGA.out.g0 g (List.mem_of_getElem? hg)
          have HG := hid hg
          have cg : wr.cell? ⟨w1.heap.size, e, none⟩ = some (.int .u64 g) := by rw [cell_of HGB.out]; simp [u64s, hg]
          have HE := hid he
          have x0 : (0 : Int) ≤ (e : Int) := by omega
          have x1 : (e : Int) < (c.lk : Int) := by omega
          have we : IntKind.i64.wrap ((c.descs : Int) + (e : Int)) = (c.descs : Int) + (e : Int) := by rw [IntKind.wrap_i64]; omega
          have wg : IntKind.u64.wrap (g + 1) = g + 1 := by rw [IntKind.wrap_u64]; omega
          have HE16 := hid (show (e : Int) < 16 by omega)
          have HB := hid (show gl.length = c.lk ∧ done.length ≤ 51 ∧ g ≤ 9 from ⟨hgl, by have := HGA.out.dl; omega, by omega⟩)
          clear hcell hy hml hd1 hd2 hd3 em0 em1 he hmod hgl hg w1' w2' w3' hel
          subst hv1 hv2
          by_cases hk0 : y.kindF % 4 = 0
          · have dk : (y.kindF % 4 == 0) = true := beq_iff_eq.2 hk0
            have HGN := hid (HGA.out.v HY.out h8 hk0)
            clear hk0
            go_wp2_with fail
            refine (HMOD.out _).mono ?_
            rintro e' w' ⟨rfl, rfl⟩
            go_wp2_with (at_builtin; refine wpList_app _ rfl (.tmp 81) (.tmp 89) 88 rfl 91 _ 2 16 Tryz.underlying88 infoAt rfl (by decide) (.slice a' done.length cp') done.length (stCells (c.tow 0) c.descs done) rfl ?own (.slice (some ⟨wr.heap.size, 0, none⟩) 1 1) 1 [.int .i64 ((c.tow 0 : Int) + 1), .int .u64 y.v] rfl ?rd ?one ?byt ?len ?_)
            case own => exact row_keep HROW.out ((Keep.refl Nil wr).alloc _) (fun _ _ h => h)
            case rd => exact rd_new _ _ _ _ _ _
            case one => simp [Value.oneCell']
            case byt => have := HB.out; omega
            case len => have := HB.out; unfold maxLen; omega
            intro a2 cp2 w5 ho hgr hs
            have HO := hid ho
            have HKA := hid (show Keep (fun q => q = w1.heap.size) W0 w5 from (HKW.out.alloc _).grown hgr (fun q hq => .inr (HNEW.out q hq)))
            have HGB2 := hid (show w5.heap[w1.heap.size]? = some (.cells (u64s gl).toArray 26 (0, 0)) from by
              have hlt2 : w1.heap.size < wr.heap.size := lt_of_block HGB.out
              refine (hgr.block w1.heap.size (by rw [World.size_alloc]; omega) (fun e => ?_)).trans (alloc_old HGB.out _)
              have := HNEW.out _ e.symm; have := HZ0.out; omega)
            have HN2 := hid (show ∀ q, (Value.slice a2 (done.length + 1) cp2).ownBlock = some q → W0.heap.size ≤ q from fun q hq => by
              rcases hs q hq with h | h
              · exact HNEW.out q h
              · have := HKW.out.size; simp at h; omega)
            clear ho hgr hs
            go_wp2
            go_roundw
            case rel => exact ⟨k + 1, a2, cp2, gl, done ++ [.V y.v], by omega, by go_num, by rw [List.length_append]; rfl, by rw [List.length_append, stCells_app, st_v]; exact HO.out, by rw [List.length_append]; exact HN2.out, HGB2.out, HGN.out, HKA.out⟩
            case measure => simp [intOf]; omega
          · have dk : (y.kindF % 4 == 0) = false := beq_eq_false_iff_ne.2 hk0
            by_cases hk3 : y.kindF % 4 = 3
            · have dk3 : (y.kindF % 4 == 3) = true := beq_iff_eq.2 hk3
              have HAL := hid (HGA.out.last HY.out h8 hk3 HE.out HG.out)
              have HVV := hid (gone_val g gn0 (by omega) e x0 HE16.out)
              clear hk0 hk3
              go_wp2_with fail
              refine (HMOD.out _).mono ?_
              rintro e' w' ⟨rfl, rfl⟩
              go_wp2_with fail
              refine (lstate_ok 4 (e : Int) g (by decide) (by decide) x0 HE16.out gn0 (by have := HB.out; omega) HVV.out.1 (goneW e g) (by unfold goneW; rfl)).mono ?_
              rintro e' w' ⟨rfl, rfl⟩
              go_wp2_with fail
              refine (ldesc_ok g true gn0 (by have := HB.out; omega) (2 * g + 1) rfl).mono ?_
              rintro e' w' ⟨rfl, rfl⟩
              go_wp2_with fail
              refine (lstate_ok 2 0 0 (by decide) (by decide) (by decide) (by decide) (by decide) (by decide) (by decide) 2 (by decide)).mono ?_
              rintro e' w' ⟨rfl, rfl⟩
              go_wp2_with fail
              refine (ldesc_ok (g + 1) false (by omega) (by have := HB.out; omega) (2 * (g + 1)) (by simp)).mono ?_
              rintro e' w' ⟨rfl, rfl⟩
              go_wp2_with (at_builtin; refine wpList_app _ rfl (.tmp 93) (.tmp 115) 88 rfl 91 _ 2 16 Tryz.underlying88 infoAt rfl (by decide) (.slice a' done.length cp') done.length (stCells (c.tow 0) c.descs done) rfl ?own (.slice (some ⟨wr.heap.size, 0, none⟩) 4 4) 4 [.int .i64 ((c.tow 0 : Int) + 4), .int .u64 (goneW e g), .int .i64 ((c.descs : Int) + e), .int .u64 (2 * g + 1), .int .i64 ((c.tow 0 : Int) + 4), .int .u64 2, .int .i64 ((c.descs : Int) + e), .int .u64 (2 * (g + 1))] rfl ?rd ?one ?byt ?len ?_)
              case own => exact row_keep HROW.out ((Keep.refl Nil wr).alloc _) (fun _ _ h => h)
              case rd => exact rd_new _ _ _ _ _ _
              case one => simp [Value.oneCell']
              case byt => have := HB.out; omega
              case len => have := HB.out; unfold maxLen; omega
              intro a2 cp2 w5 ho hgr hs
              have HO := hid ho
              have HKA := hid (show Keep (fun q => q = w1.heap.size) W0 w5 from (HKW.out.alloc _).grown hgr (fun q hq => .inr (HNEW.out q hq)))
              have HN2 := hid (show ∀ q, (Value.slice a2 (done.length + 4) cp2).ownBlock = some q → W0.heap.size ≤ q from fun q hq => by
                rcases hs q hq with h | h
                · exact HNEW.out q h
                · have := HKW.out.size; simp at h; omega)
              clear ho hgr hs
              go_wp2
              go_ret
              have hal := HAL.out
              have hlen : (storesP c.lk false ds).length = done.length + 4 := by rw [← hal, List.length_append]; rfl
              have hcs : stCells (c.tow 0) c.descs (storesP c.lk false ds) = stCells (c.tow 0) c.descs done ++ [.int .i64 ((c.tow 0 : Int) + 4), .int .u64 (goneW e g), .int .i64 ((c.descs : Int) + e), .int .u64 (2 * g + 1), .int .i64 ((c.tow 0 : Int) + 4), .int .u64 2, .int .i64 ((c.descs : Int) + e), .int .u64 (2 * (g + 1))] := by rw [← hal, stCells_app, st_4]
              refine ⟨a2, cp2, by rw [hlen]; rfl, ?_, by rw [hlen]; exact row_cap2 HO.out, HKZ.out.trans HKA.out (fun q hlt e => by have := HZ1.out; omega), fun q hq => ?_⟩
              · rw [hlen, hcs]; exact row_rd HO.out
              · rw [hlen] at hq
                exact ⟨by have := HN2.out q hq; have := HZ2.out; omega, row_lt HO.out q hq⟩
            · have dk3 : (y.kindF % 4 == 3) = false := beq_eq_false_iff_ne.2 hk3
              have HGN := hid (HGA.out.six HY.out h8 hk0 hk3 HE.out HG.out)
              have HVV := hid (gone_val g gn0 (by omega) e x0 HE16.out)
              clear hk0 hk3
              go_wp2_with fail
              refine (HMOD.out _).mono ?_
              rintro e' w' ⟨rfl, rfl⟩
              go_wp2_with fail
              go_region_held3 (fun w' => w'.cell? ⟨bb, off + k * 3 + 2, none⟩ = some (.int .u64 y.v)) (go_keep)
                (first
                  | (refine step_app _ rfl (.tmp 117) (.tmp 153) 88 rfl 91 _ 2 16 Tryz.underlying88 infoAt rfl (by decide) (.slice a' done.length cp') done.length (stCells (c.tow 0) c.descs done) (by simp [Act.eval]) ((row_drew HROW.out).alloc _) _ 6 [.int .i64 ((c.tow 0 : Int) + 2), .int .u64 y.v, .int .i64 ((c.tow 0 : Int) + 4), .int .u64 (swapW e g), .int .i64 ((c.descs : Int) + e), .int .u64 (2 * g + 1), .int .i64 ((c.tow 0 : Int) + 1), .int .u64 y.v, .int .i64 ((c.tow 0 : Int) + 4), .int .u64 1, .int .i64 ((c.descs : Int) + e), .int .u64 (2 * (g + 1))] (by simp [Act.eval]) (rd_new _ _ _ _ _ _) (by simp [Value.oneCell']) (by have := HB.out; omega) (by have := HB.out; unfold maxLen; omega) ?_; intro a2 cp2 w5 ho hgr hs; have hk5 : Keep (fun q => q = w1.heap.size) W0 w5 := ((HKW.out.drew).alloc _).grown hgr (fun q hq => .inr (HNEW.out q hq)); have y2 : w5.cell? ⟨bb, off + k * 3 + 2, none⟩ = some (.int .u64 y.v) := (HKZ.out.trans hk5 (fun q hlt e => by have := HZ1.out; omega)).cell HC2.out (fun h => h); have HO := hid ho; have HKA := hid hk5; have HGR := hid hgr; have HHS := hid hs; clear ho hgr hs hk5)
                  | (go_at_call 38; (with_reducible refine (lstate_ok 5 (e : Int) g (by decide) (by decide) x0 HE16.out gn0 (by have := HB.out; omega) HVV.out.2 (swapW e g) (by unfold swapW; rfl)).mono ?_); rintro e' w' ⟨rfl, rfl⟩)
                  | (go_at_call 38; (with_reducible refine (lstate_ok 1 0 0 (by decide) (by decide) (by decide) (by decide) (by decide) (by decide) (by decide) 1 (by decide)).mono ?_); rintro e' w' ⟨rfl, rfl⟩)
                  | (go_at_call 39; (with_reducible refine (ldesc_ok g true gn0 (by have := HB.out; omega) (2 * g + 1) rfl).mono ?_); rintro e' w' ⟨rfl, rfl⟩)
                  | (go_at_call 39; (with_reducible refine (ldesc_ok (g + 1) false (by omega) (by have := HB.out; omega) (2 * (g + 1)) (by simp)).mono ?_); rintro e' w' ⟨rfl, rfl⟩))
              all_goals
                have HN2 := hid (show ∀ q, (Value.slice a2 (done.length + 6) cp2).ownBlock = some q → W0.heap.size ≤ q from fun q hq => by
                  rcases HHS.out q hq with h | h
                  · exact HNEW.out q h
                  · have := HKW.out.size; simp at h; omega)
                have hlt2 : w1.heap.size < wr.heap.size := lt_of_block HGB.out
                have hgb2 : w5.heap[w1.heap.size]? = some (.cells (u64s gl).toArray 26 (0, 0)) :=
                  (HGR.out.block w1.heap.size (by simp; omega) (fun e => by have := HNEW.out _ e.symm; have := HZ0.out; omega)).trans (alloc_old HGB.out _)
                have cg5 : w5.cell? ⟨w1.heap.size, e, none⟩ = some (.int .u64 g) := by rw [cell_of hgb2]; simp [u64s, HG.out]
                have fg5 : w5.frozen? ⟨w1.heap.size, e, none⟩ = false := free_of hgb2 _
                obtain ⟨W5, hW5⟩ : ∃ W5, W5 = w5.setCell ⟨w1.heap.size, e, none⟩ (.int .u64 (g + 1)) := ⟨_, rfl⟩
                have HGB6 := hid (show W5.heap[w1.heap.size]? = some (.cells (u64s (gl.set e (g + 1))).toArray 26 (0, 0)) from by
                  rw [hW5, set_same hgb2, ← u64s_set]; simp)
                have HO6 := hid (show W5.ownsRow 0 91 2 (.slice a2 (done.length + 6) cp2) (done.length + 6) (stCells (c.tow 0) c.descs (done ++ [.A y.v, .S (swapW e g), .D e (2 * g + 1), .V y.v, .S 1, .D e (2 * (g + 1))])) from by
                  rw [hW5, stCells_app, st_6]
                  refine ownsRow_setCell_other HO.out (fun e => ?_) _
                  have h2 : W0.heap.size ≤ w1.heap.size := HN2.out _ e; have := HZ0.out; omega)
                have HKP6 := hid (show Keep (fun q => q = w1.heap.size) W0 W5 from by
                  rw [hW5]; exact Keep.setCell HKA.out (.inl rfl) _)
                clear hlt2 hgb2 y2
                go_wp2
                rw [← hW5]
                clear hW5 cg5 fg5
                go_roundw
                case rel => exact ⟨k + 1, a2, cp2, gl.set e (g + 1), _, by omega, by go_num, by rw [List.length_append]; rfl, by rw [List.length_append]; exact HO6.out, by rw [List.length_append]; exact HN2.out, HGB6.out, HGN.out, HKP6.out⟩
                case measure => simp [intOf]; omega
        · have d2 : decide ((k : Int) < 8) = false := decide_eq_false (by omega)
          have e2 : decide (k < 8) = false := decide_eq_false h8
          have HOV := hid (HGA.out.over (.inr (by omega)))
          go_wp2
          go_ret
          refine ⟨a', cp', by rw [← HOV.out]; rfl, ?_, by rw [← HOV.out]; exact row_cap2 HROW.out, HKR.out, fun q hq => ?_⟩
          · rw [← HOV.out]; exact row_rd HROW.out
          · rw [← HOV.out] at hq
            exact ⟨by have := HNEW.out q hq; have := HZ2.out; omega, row_lt HROW.out q hq⟩
      · have d1 : decide ((k : Int) < (ds.length : Int)) = false := decide_eq_false (by omega)
        have e1 : decide (k < ds.length) = false := decide_eq_false hlt
        have HOV := hid (HGA.out.over (.inl (by omega)))
        go_wp2
        go_ret
        refine ⟨a', cp', by rw [← HOV.out]; rfl, ?_, by rw [← HOV.out]; exact row_cap2 HROW.out, HKR.out, fun q hq => ?_⟩
        · rw [← HOV.out]; exact row_rd HROW.out
        · rw [← HOV.out] at hq
          exact ⟨by have := HNEW.out q hq; have := HZ2.out; omega, row_lt HROW.out q hq⟩
  · go_wp2_with fail
    refine (ldesc_ok 0 true (by decide) (by decide) 1 (by decide)).mono ?_
    rintro e' w' ⟨rfl, rfl⟩
    go_wp2_with fail
    refine (lstate_ok 1 0 0 (by decide) (by decide) (by decide) (by decide) (by decide) (by decide) (by decide) 1 (by decide)).mono ?_
    rintro e' w' ⟨rfl, rfl⟩
    go_wp2_with fail
    refine (ldesc_ok 1 false (by decide) (by decide) 2 (by decide)).mono ?_
    rintro e' w' ⟨rfl, rfl⟩
    go_wp2_with (at_builtin; refine wpList_app _ rfl (.tmp 37) (.tmp 47) 88 rfl 91 _ 2 16 Tryz.underlying88 infoAt rfl (by decide) (.slice none 0 0) 0 [] rfl ?own (.slice (some ⟨w3.heap.size, 0, none⟩) 3 3) 3 [.int .i64 (c.descs : Int), .int .u64 1, .int .i64 ((c.tow 0 : Int) + 4), .int .u64 1, .int .i64 (c.descs : Int), .int .u64 2] rfl ?rd ?one ?byt ?len ?_)
    case own => exact ⟨rfl, .inl ⟨rfl, rfl⟩⟩
    case rd => exact rd_new _ _ _ _ _ _
    case one => simp [Value.oneCell']
    case byt => omega
    case len => unfold maxLen; omega
    intro a2 cp2 w5 ho hgr hs
    have hbz : w1.heap.size < w3.heap.size := lt_of_block HGB1.out
    have hgb5 : w5.heap[w1.heap.size]? = some (.cells (u64s (List.replicate c.lk 0)).toArray 26 (0, 0)) :=
      (hgr.block w1.heap.size (by rw [World.size_alloc]; omega) (fun e => by cases e)).trans (alloc_old HGB1.out _)
    have cg0 : w5.cell? ⟨w1.heap.size, 0, none⟩ = some (.int .u64 0) := by
      have := HD.out.2.2
      rw [cell_of hgb5]
      simpa using u64s_at (show (List.replicate c.lk (0 : Int))[0]? = some 0 by rw [List.getElem?_replicate, if_pos (by omega)])
    have fg0 : w5.frozen? ⟨w1.heap.size, 0, none⟩ = false := free_of hgb5 0
    have l0 : (0 : Int) < (c.lk : Int) := by have := HD.out.2.2; omega
    obtain ⟨W5, hW5⟩ : ∃ W5, W5 = w5.setCell ⟨w1.heap.size, 0, none⟩ (.int .u64 1) := ⟨_, rfl⟩
    have HGB6 := hid (show W5.heap[w1.heap.size]? = some (.cells (u64s ((List.replicate c.lk 0).set 0 1)).toArray 26 (0, 0)) from by
      rw [hW5, set_same hgb5, ← u64s_set]; simp)
    have hnb : ∀ q, (Value.slice a2 3 cp2).ownBlock = some q → W0.heap.size ≤ q := fun q hq => by
      rcases hs q hq with h | h
      · cases h
      · have := HKP.out.size; simp at h; omega
    have HO6 := hid (show W5.ownsRow 0 91 2 (.slice a2 3 cp2) 3 (stCells (c.tow 0) c.descs [.D 0 1, .S 1, .D 0 2]) from by
      rw [hW5, st_3]
      refine ownsRow_setCell_other ho (fun e => ?_) _
      have h2 : W0.heap.size ≤ w1.heap.size := hnb _ e; have := HZ0.out; omega)
    have HN6 := hid hnb
    have HKP6 := hid (show Keep (fun q => q = w1.heap.size) W0 W5 from by
      rw [hW5]
      exact Keep.setCell (((HKP.out.mono (T := fun q => q = w1.heap.size) (fun _ _ h => h.elim)).alloc _).grown hgr (fun q hq => by cases hq)) (.inl rfl) _)
    clear ho hgr hs hbz hgb5
    go_wp2
    rw [← hW5]
    clear hW5 cg0 fg0 l0 hnb
    have HKZ := hid HK0.out
    go_loopw [9, 15] (fun o i wr => ∃ (k : Nat) (a : Option Addr) (cp : Nat) (gl : List Int) (done : List WSt), k ≤ 8 ∧ i = .int .i64 k ∧ o = .slice a done.length cp ∧ wr.ownsRow 0 91 2 (.slice a done.length cp) done.length (stCells (c.tow 0) c.descs done) ∧ (∀ q, (Value.slice a done.length cp).ownBlock = some q → W0.heap.size ≤ q) ∧ wr.heap[w1.heap.size]? = some (.cells (u64s gl).toArray 26 (0, 0)) ∧ Gath c.lk true ds k gl done ∧ Keep (fun q => q = w1.heap.size) W0 wr) (fun _ i _ => 8 - (intOf i).toNat)
    case atStart => exact ⟨0, a2, cp2, _, _, by decide, rfl, rfl, HO6.out, HN6.out, HGB6.out, Gath.start1 ds HD.out.2.2, HKP6.out⟩
    case round =>
      obtain ⟨k, a', cp', gl, done, hk8, rfl, hoo, hrow, hnew, hgb, hga, hkw⟩ := hrel
      subst hoo
      have HROW := hid hrow
      have HNEW := hid hnew
      have HGB := hid hgb
      have HGA := hid hga
      have HKW := hid hkw
      have HKR := hid (show Keep Nil wo wr from HKZ.out.trans hkw (fun q hlt e => by have := HZ1.out; omega))
      clear hrow hnew hgb hga hkw HGB6 HO6 HN6
      by_cases hlt : k < ds.length
      · have d1 : decide ((k : Int) < (ds.length : Int)) = true := decide_eq_true (by omega)
        have e1 : decide (k < ds.length) = true := decide_eq_true hlt
        by_cases h8 : k < 8
        · have d2 : decide ((k : Int) < 8) = true := decide_eq_true (by omega)
          have e2 : decide (k < 8) = true := decide_eq_true h8
          obtain ⟨y, hy⟩ : ∃ y, ds[k]? = some y := ⟨_, List.getElem?_eq_getElem hlt⟩
          obtain ⟨w1', w2', w3'⟩ := HWF.out y (List.mem_of_getElem? hy)
          obtain ⟨kf0, kf1⟩ := u8_wf w1'
          obtain ⟨en0, en1⟩ := i64_wf w2'
          obtain ⟨yv0, yv1⟩ := u64_wf w3'
          obtain ⟨bb, off, cc, hv, hcell⟩ := Rd.cell HRD.out (by omega)
          simp only [Value.slice.injEq] at hv
          obtain ⟨hv1, -, hv2⟩ := hv
          have c0 := hcell (k * 3) (.int .u8 y.kindF) (by rw [show k * 3 = k * 3 + 0 from rfl, deedCells_at hy (by decide)]; rfl)
          have c1 := hcell (k * 3 + 1) (.int .i64 y.entry) (by rw [deedCells_at hy (by decide)]; rfl)
          have c2 := hcell (k * 3 + 2) (.int .u64 y.v) (by rw [deedCells_at hy (by decide)]; rfl)
          rw [← Nat.add_assoc] at c1 c2
          have HC2 := hid c2
          replace c0 := HKR.out.cell c0 (fun h => h)
          replace c1 := HKR.out.cell c1 (fun h => h)
          replace c2 := HKR.out.cell c2 (fun h => h)
          have k0 : (0 : Int) ≤ (k : Int) := by omega
          have k1 : (k : Int) < (ds.length : Int) := by omega
          have wk1 : IntKind.i64.wrap ((k : Int) + 1) = (k : Int) + 1 := by rw [IntKind.wrap_i64]; omega
          have HY := hid hy
          have hml := HML.out
          obtain ⟨hd1, hd2, hd3⟩ := HD.out
          have em0 : 0 ≤ y.entry % (c.lk : Int) := Int.emod_nonneg _ (by omega)
          have em1 : y.entry % (c.lk : Int) < (c.lk : Int) := Int.emod_lt_of_pos _ (by omega)
          obtain ⟨e, he⟩ : ∃ e : Nat, e = (y.entry % (c.lk : Int)).toNat := ⟨_, rfl⟩
          have hel : e < c.lk := by omega
          have hmod : ∀ W : World, Calls Tryz.prog 29 #[.int .i64 y.entry, .int .i64 (c.lk : Int)] W fun e' w' => e' = .returned (.int .i64 (e : Int)) ∧ W = w' := fun W => by
            have h := mod_ok y.entry (c.lk : Int) en0 en1 (by omega) (by omega) W
            rw [show y.entry % (c.lk : Int) = (e : Int) by omega] at h
            exact h
          have HMOD := hid hmod
          have hgl := HGA.out.len
          obtain ⟨g, hg⟩ : ∃ g, gl[e]? = some g := ⟨_, List.getElem?_eq_getElem (by omega)⟩
          obtain ⟨gn0, gn1⟩ := HGA.out.g0 g (List.mem_of_getElem? hg)
          have HG := hid hg
          have cg : wr.cell? ⟨w1.heap.size, e, none⟩ = some (.int .u64 g) := by rw [cell_of HGB.out]; simp [u64s, hg]
          have HE := hid he
          have x0 : (0 : Int) ≤ (e : Int) := by omega
          have x1 : (e : Int) < (c.lk : Int) := by omega
          have we : IntKind.i64.wrap ((c.descs : Int) + (e : Int)) = (c.descs : Int) + (e : Int) := by rw [IntKind.wrap_i64]; omega
          have wg : IntKind.u64.wrap (g + 1) = g + 1 := by rw [IntKind.wrap_u64]; omega
          have HE16 := hid (show (e : Int) < 16 by omega)
          have HB := hid (show gl.length = c.lk ∧ done.length ≤ 51 ∧ g ≤ 9 from ⟨hgl, by have := HGA.out.dl; omega, by omega⟩)
          clear hcell hy hml hd1 hd2 hd3 em0 em1 he hmod hgl hg w1' w2' w3' hel
          subst hv1 hv2
          by_cases hk0 : y.kindF % 4 = 0
          · have dk : (y.kindF % 4 == 0) = true := beq_iff_eq.2 hk0
            have HGN := hid (HGA.out.v HY.out h8 hk0)
            clear hk0
            go_wp2_with fail
            refine (HMOD.out _).mono ?_
            rintro e' w' ⟨rfl, rfl⟩
            go_wp2_with (at_builtin; refine wpList_app _ rfl (.tmp 81) (.tmp 89) 88 rfl 91 _ 2 16 Tryz.underlying88 infoAt rfl (by decide) (.slice a' done.length cp') done.length (stCells (c.tow 0) c.descs done) rfl ?own (.slice (some ⟨wr.heap.size, 0, none⟩) 1 1) 1 [.int .i64 ((c.tow 0 : Int) + 1), .int .u64 y.v] rfl ?rd ?one ?byt ?len ?_)
            case own => exact row_keep HROW.out ((Keep.refl Nil wr).alloc _) (fun _ _ h => h)
            case rd => exact rd_new _ _ _ _ _ _
            case one => simp [Value.oneCell']
            case byt => have := HB.out; omega
            case len => have := HB.out; unfold maxLen; omega
            intro a2 cp2 w5 ho hgr hs
            have HO := hid ho
            have HKA := hid (show Keep (fun q => q = w1.heap.size) W0 w5 from (HKW.out.alloc _).grown hgr (fun q hq => .inr (HNEW.out q hq)))
            have HGB2 := hid (show w5.heap[w1.heap.size]? = some (.cells (u64s gl).toArray 26 (0, 0)) from by
              have hlt2 : w1.heap.size < wr.heap.size := lt_of_block HGB.out
              refine (hgr.block w1.heap.size (by rw [World.size_alloc]; omega) (fun e => ?_)).trans (alloc_old HGB.out _)
              have := HNEW.out _ e.symm; have := HZ0.out; omega)
            have HN2 := hid (show ∀ q, (Value.slice a2 (done.length + 1) cp2).ownBlock = some q → W0.heap.size ≤ q from fun q hq => by
              rcases hs q hq with h | h
              · exact HNEW.out q h
              · have := HKW.out.size; simp at h; omega)
            clear ho hgr hs
            go_wp2
            go_roundw
            case rel => exact ⟨k + 1, a2, cp2, gl, done ++ [.V y.v], by omega, by go_num, by rw [List.length_append]; rfl, by rw [List.length_append, stCells_app, st_v]; exact HO.out, by rw [List.length_append]; exact HN2.out, HGB2.out, HGN.out, HKA.out⟩
            case measure => simp [intOf]; omega
          · have dk : (y.kindF % 4 == 0) = false := beq_eq_false_iff_ne.2 hk0
            by_cases hk3 : y.kindF % 4 = 3
            · have dk3 : (y.kindF % 4 == 3) = true := beq_iff_eq.2 hk3
              have HAL := hid (HGA.out.last HY.out h8 hk3 HE.out HG.out)
              have HVV := hid (gone_val g gn0 (by omega) e x0 HE16.out)
              clear hk0 hk3
              go_wp2_with fail
              refine (HMOD.out _).mono ?_
              rintro e' w' ⟨rfl, rfl⟩
              go_wp2_with fail
              refine (lstate_ok 4 (e : Int) g (by decide) (by decide) x0 HE16.out gn0 (by have := HB.out; omega) HVV.out.1 (goneW e g) (by unfold goneW; rfl)).mono ?_
              rintro e' w' ⟨rfl, rfl⟩
              go_wp2_with fail
              refine (ldesc_ok g true gn0 (by have := HB.out; omega) (2 * g + 1) rfl).mono ?_
              rintro e' w' ⟨rfl, rfl⟩
              go_wp2_with fail
              refine (lstate_ok 2 0 0 (by decide) (by decide) (by decide) (by decide) (by decide) (by decide) (by decide) 2 (by decide)).mono ?_
              rintro e' w' ⟨rfl, rfl⟩
              go_wp2_with fail
              refine (ldesc_ok (g + 1) false (by omega) (by have := HB.out; omega) (2 * (g + 1)) (by simp)).mono ?_
              rintro e' w' ⟨rfl, rfl⟩
              go_wp2_with (at_builtin; refine wpList_app _ rfl (.tmp 93) (.tmp 115) 88 rfl 91 _ 2 16 Tryz.underlying88 infoAt rfl (by decide) (.slice a' done.length cp') done.length (stCells (c.tow 0) c.descs done) rfl ?own (.slice (some ⟨wr.heap.size, 0, none⟩) 4 4) 4 [.int .i64 ((c.tow 0 : Int) + 4), .int .u64 (goneW e g), .int .i64 ((c.descs : Int) + e), .int .u64 (2 * g + 1), .int .i64 ((c.tow 0 : Int) + 4), .int .u64 2, .int .i64 ((c.descs : Int) + e), .int .u64 (2 * (g + 1))] rfl ?rd ?one ?byt ?len ?_)
              case own => exact row_keep HROW.out ((Keep.refl Nil wr).alloc _) (fun _ _ h => h)
              case rd => exact rd_new _ _ _ _ _ _
              case one => simp [Value.oneCell']
              case byt => have := HB.out; omega
              case len => have := HB.out; unfold maxLen; omega
              intro a2 cp2 w5 ho hgr hs
              have HO := hid ho
              have HKA := hid (show Keep (fun q => q = w1.heap.size) W0 w5 from (HKW.out.alloc _).grown hgr (fun q hq => .inr (HNEW.out q hq)))
              have HN2 := hid (show ∀ q, (Value.slice a2 (done.length + 4) cp2).ownBlock = some q → W0.heap.size ≤ q from fun q hq => by
                rcases hs q hq with h | h
                · exact HNEW.out q h
                · have := HKW.out.size; simp at h; omega)
              clear ho hgr hs
              go_wp2
              go_ret
              have hal := HAL.out
              have hlen : (storesP c.lk true ds).length = done.length + 4 := by rw [← hal, List.length_append]; rfl
              have hcs : stCells (c.tow 0) c.descs (storesP c.lk true ds) = stCells (c.tow 0) c.descs done ++ [.int .i64 ((c.tow 0 : Int) + 4), .int .u64 (goneW e g), .int .i64 ((c.descs : Int) + e), .int .u64 (2 * g + 1), .int .i64 ((c.tow 0 : Int) + 4), .int .u64 2, .int .i64 ((c.descs : Int) + e), .int .u64 (2 * (g + 1))] := by rw [← hal, stCells_app, st_4]
              refine ⟨a2, cp2, by rw [hlen]; rfl, ?_, by rw [hlen]; exact row_cap2 HO.out, HKZ.out.trans HKA.out (fun q hlt e => by have := HZ1.out; omega), fun q hq => ?_⟩
              · rw [hlen, hcs]; exact row_rd HO.out
              · rw [hlen] at hq
                exact ⟨by have := HN2.out q hq; have := HZ2.out; omega, row_lt HO.out q hq⟩
            · have dk3 : (y.kindF % 4 == 3) = false := beq_eq_false_iff_ne.2 hk3
              have HGN := hid (HGA.out.six HY.out h8 hk0 hk3 HE.out HG.out)
              have HVV := hid (gone_val g gn0 (by omega) e x0 HE16.out)
              clear hk0 hk3
              go_wp2_with fail
              refine (HMOD.out _).mono ?_
              rintro e' w' ⟨rfl, rfl⟩
              go_wp2_with fail
              go_region_held3 (fun w' => w'.cell? ⟨bb, off + k * 3 + 2, none⟩ = some (.int .u64 y.v)) (go_keep)
                (first
                  | (refine step_app _ rfl (.tmp 117) (.tmp 153) 88 rfl 91 _ 2 16 Tryz.underlying88 infoAt rfl (by decide) (.slice a' done.length cp') done.length (stCells (c.tow 0) c.descs done) (by simp [Act.eval]) ((row_drew HROW.out).alloc _) _ 6 [.int .i64 ((c.tow 0 : Int) + 2), .int .u64 y.v, .int .i64 ((c.tow 0 : Int) + 4), .int .u64 (swapW e g), .int .i64 ((c.descs : Int) + e), .int .u64 (2 * g + 1), .int .i64 ((c.tow 0 : Int) + 1), .int .u64 y.v, .int .i64 ((c.tow 0 : Int) + 4), .int .u64 1, .int .i64 ((c.descs : Int) + e), .int .u64 (2 * (g + 1))] (by simp [Act.eval]) (rd_new _ _ _ _ _ _) (by simp [Value.oneCell']) (by have := HB.out; omega) (by have := HB.out; unfold maxLen; omega) ?_; intro a2 cp2 w5 ho hgr hs; have hk5 : Keep (fun q => q = w1.heap.size) W0 w5 := ((HKW.out.drew).alloc _).grown hgr (fun q hq => .inr (HNEW.out q hq)); have y2 : w5.cell? ⟨bb, off + k * 3 + 2, none⟩ = some (.int .u64 y.v) := (HKZ.out.trans hk5 (fun q hlt e => by have := HZ1.out; omega)).cell HC2.out (fun h => h); have HO := hid ho; have HKA := hid hk5; have HGR := hid hgr; have HHS := hid hs; clear ho hgr hs hk5)
                  | (go_at_call 38; (with_reducible refine (lstate_ok 5 (e : Int) g (by decide) (by decide) x0 HE16.out gn0 (by have := HB.out; omega) HVV.out.2 (swapW e g) (by unfold swapW; rfl)).mono ?_); rintro e' w' ⟨rfl, rfl⟩)
                  | (go_at_call 38; (with_reducible refine (lstate_ok 1 0 0 (by decide) (by decide) (by decide) (by decide) (by decide) (by decide) (by decide) 1 (by decide)).mono ?_); rintro e' w' ⟨rfl, rfl⟩)
                  | (go_at_call 39; (with_reducible refine (ldesc_ok g true gn0 (by have := HB.out; omega) (2 * g + 1) rfl).mono ?_); rintro e' w' ⟨rfl, rfl⟩)
                  | (go_at_call 39; (with_reducible refine (ldesc_ok (g + 1) false (by omega) (by have := HB.out; omega) (2 * (g + 1)) (by simp)).mono ?_); rintro e' w' ⟨rfl, rfl⟩))
              all_goals
                have HN2 := hid (show ∀ q, (Value.slice a2 (done.length + 6) cp2).ownBlock = some q → W0.heap.size ≤ q from fun q hq => by
                  rcases HHS.out q hq with h | h
                  · exact HNEW.out q h
                  · have := HKW.out.size; simp at h; omega)
                have hlt2 : w1.heap.size < wr.heap.size := lt_of_block HGB.out
                have hgb2 : w5.heap[w1.heap.size]? = some (.cells (u64s gl).toArray 26 (0, 0)) :=
                  (HGR.out.block w1.heap.size (by simp; omega) (fun e => by have := HNEW.out _ e.symm; have := HZ0.out; omega)).trans (alloc_old HGB.out _)
                have cg5 : w5.cell? ⟨w1.heap.size, e, none⟩ = some (.int .u64 g) := by rw [cell_of hgb2]; simp [u64s, HG.out]
                have fg5 : w5.frozen? ⟨w1.heap.size, e, none⟩ = false := free_of hgb2 _
                obtain ⟨W5, hW5⟩ : ∃ W5, W5 = w5.setCell ⟨w1.heap.size, e, none⟩ (.int .u64 (g + 1)) := ⟨_, rfl⟩
                have HGB6 := hid (show W5.heap[w1.heap.size]? = some (.cells (u64s (gl.set e (g + 1))).toArray 26 (0, 0)) from by
                  rw [hW5, set_same hgb2, ← u64s_set]; simp)
                have HO6 := hid (show W5.ownsRow 0 91 2 (.slice a2 (done.length + 6) cp2) (done.length + 6) (stCells (c.tow 0) c.descs (done ++ [.A y.v, .S (swapW e g), .D e (2 * g + 1), .V y.v, .S 1, .D e (2 * (g + 1))])) from by
                  rw [hW5, stCells_app, st_6]
                  refine ownsRow_setCell_other HO.out (fun e => ?_) _
                  have h2 : W0.heap.size ≤ w1.heap.size := HN2.out _ e; have := HZ0.out; omega)
                have HKP6 := hid (show Keep (fun q => q = w1.heap.size) W0 W5 from by
                  rw [hW5]; exact Keep.setCell HKA.out (.inl rfl) _)
                clear hlt2 hgb2 y2
                go_wp2
                rw [← hW5]
                clear hW5 cg5 fg5
                go_roundw
                case rel => exact ⟨k + 1, a2, cp2, gl.set e (g + 1), _, by omega, by go_num, by rw [List.length_append]; rfl, by rw [List.length_append]; exact HO6.out, by rw [List.length_append]; exact HN2.out, HGB6.out, HGN.out, HKP6.out⟩
                case measure => simp [intOf]; omega
        · have d2 : decide ((k : Int) < 8) = false := decide_eq_false (by omega)
          have e2 : decide (k < 8) = false := decide_eq_false h8
          have HOV := hid (HGA.out.over (.inr (by omega)))
          go_wp2
          go_ret
          refine ⟨a', cp', by rw [← HOV.out]; rfl, ?_, by rw [← HOV.out]; exact row_cap2 HROW.out, HKR.out, fun q hq => ?_⟩
          · rw [← HOV.out]; exact row_rd HROW.out
          · rw [← HOV.out] at hq
            exact ⟨by have := HNEW.out q hq; have := HZ2.out; omega, row_lt HROW.out q hq⟩
      · have d1 : decide ((k : Int) < (ds.length : Int)) = false := decide_eq_false (by omega)
        have e1 : decide (k < ds.length) = false := decide_eq_false hlt
        have HOV := hid (HGA.out.over (.inl (by omega)))
        go_wp2
        go_ret
        refine ⟨a', cp', by rw [← HOV.out]; rfl, ?_, by rw [← HOV.out]; exact row_cap2 HROW.out, HKR.out, fun q hq => ?_⟩
        · rw [← HOV.out]; exact row_rd HROW.out
        · rw [← HOV.out] at hq
          exact ⟨by have := HNEW.out q hq; have := HZ2.out; omega, row_lt HROW.out q hq⟩
end
end Go.Proofs.YtmafdjhjmnghcaaGreat
