/- event.Sections and event.Waits: the walks (printed by a program, once for each). -/
import Derived.Test.YtldjlcdccnnogaaGreatEvC
import Derived.Test.YtldjlcdccnnogaaGreatIMap
import Derived.StillTailTactics
set_option linter.unusedVariables false
set_option linter.unusedSimpArgs false
namespace Go.Lf
open Go.RowKit
def PrR.cells (p : PrR) : List Value := [.int .i64 p.th, .int .u64 p.val, .int .i64 p.a, .int .i64 p.b]
def prCells (l : List PrR) : List Value := l.flatMap PrR.cells
theorem prCells_len (l : List PrR) : (prCells l).length = l.length * 4 := by
  induction l with
  | nil => rfl
  | cons p l ih => simp only [prCells, List.flatMap_cons, List.length_append, List.length_cons] at ih ⊢; rw [ih]; show 4 + _ = _; omega
theorem prCells_snoc (l : List PrR) (p : PrR) : prCells (l ++ [p]) = prCells l ++ p.cells := by simp [prCells]
theorem prCells_at {l : List PrR} {k j : Nat} {x : PrR} {u : Value} (hx : l[k]? = some x) (hu : x.cells[j]? = some u) : (prCells l)[k * 4 + j]? = some u := by
  induction l generalizing k with
  | nil => cases hx
  | cons y l ih =>
    cases k with
    | zero =>
      have e : y = x := by simpa using hx
      subst e
      have hj : j < y.cells.length := (List.getElem?_eq_some_iff.1 hu).1
      simp only [prCells, List.flatMap_cons, Nat.zero_mul, Nat.zero_add]
      rw [List.getElem?_append_left hj]; exact hu
    | succ k =>
      have h1 : l[k]? = some x := by simpa using hx
      have h2 := ih h1
      simp only [prCells, List.flatMap_cons] at h2 ⊢
      rw [List.getElem?_append_right (by show 4 ≤ _; omega), show (k + 1) * 4 + j - y.cells.length = k * 4 + j by show _ - 4 = _; omega]
      exact h2
theorem prCells_set (l : List PrR) (i : Nat) (s : Int) (hi : i < l.length) : (prCells l).set (i * 4 + 3) (.int .i64 s) = prCells (l.modify i fun p => { p with b := s }) := by
  induction l generalizing i with
  | nil => simp at hi
  | cons p l ih =>
    cases i with
    | zero => simp only [List.modify_zero_cons]; rfl
    | succ i =>
      have h := ih i (by simpa using hi)
      simp only [prCells, List.flatMap_cons, List.modify_succ_cons] at h ⊢
      rw [List.set_append_right _ _ (by show 4 ≤ _; omega), show (i + 1) * 4 + 3 - p.cells.length = i * 4 + 3 by show _ - 4 = _; omega, h]
end Go.Lf
namespace Go.Proofs.YtldjlcdccnnogaaGreat
open Go.RowKit Go.Lf
/-- The map from threads to the index of their last pair. -/
def EMap (w : World) (r : Nat) (S : PrS) : Prop := ∃ ml, IMap .i64 w r ml ∧ ∀ t, mlook ml t = Option.map (fun i : Nat => Value.int .i64 (i : Int)) (S.last t)
structure ESec (w wz : World) (T : TypeId) (r : Nat) (v : Value) (S : PrS) : Prop where
  row : wz.ownsRow 0 T 4 v S.out.length (prCells S.out)
  own : ∀ q, v.ownBlock = some q → w.heap.size ≤ q
  map : EMap wz r S
  ltr : w.heap.size ≤ r
  kp : Keep Nil w wz
def PairsTo (w : World) (T : TypeId) (l : List PrR) (e : Ending) (w' : World) : Prop := ∃ a cp, e = .returned (.tuple #[.slice a l.length cp, .int .i64 0]) ∧ w'.ownsRow 0 T 4 (.slice a l.length cp) l.length (prCells l) ∧ Keep Nil w w' ∧ ∀ k, (Value.slice a l.length cp).ownBlock = some k → w.heap.size ≤ k
theorem imap_nrow {w : World} {r : Nat} {ml : List (Int × Value)} (h : IMap .i64 w r ml) {e : TypeId} {size n : Nat} {v : Value} {ys : List Value} (ho : w.ownsRow 0 e size v n ys) : v.ownBlock ≠ some r := by
  intro hv
  rcases ho.2 with ⟨rfl, -⟩ | ⟨g, cap, cur, rfl, -, hg, -⟩
  · cases hv
  · obtain rfl : g = r := by simpa [Value.ownBlock] using hv
    exact h.ne hg rfl
theorem ESec.keep {w wz w' : World} {T : TypeId} {r : Nat} {v : Value} {S : PrS} (h : ESec w wz T r v S) (hk : Keep Nil wz w') : ESec w w' T r v S := by
  obtain ⟨ml, hm, he⟩ := h.map
  exact ⟨row_keep h.row hk (fun _ _ h => h), h.own, ⟨ml, hm.keep hk (fun h => h), he⟩, h.ltr, h.kp.trans hk (fun _ _ h => h)⟩
theorem zInt (w : World) : (zeroValue 3).run Tryz.prog w = .ok (.int .i64 0) w := by kernel_rfl
section
variable {w w' : World}

theorem infoSection : (Tryz.prog.info? 81).map (fun i => (i.zero, i.size, i.bytes)) = some (some (.agg #[.int .i64 0, .int .u64 0, .int .i64 0, .int .i64 0]), 4, 32) := by kernel_rfl
theorem sizeSection : (Tryz.prog.info? 81).map (·.size) = some 4 := by kernel_rfl
set_option maxHeartbeats 1000000 in
theorem mkSection_ok (s t k v : Int) (w : World) : Calls Tryz.prog 70 #[.agg #[.int .i64 s, .int .i64 t, .int .u8 k, .int .u64 v]] w fun e w' => e = .returned (.agg #[.int .i64 t, .int .u64 v, .int .i64 s, .int .i64 (-1)]) ∧ Keep Nil w w' := by
  have HA := hid (Keep.refl Nil w)
  go_enter Tryz.func70, Tryz.ntmps70
  go_wp2
  have hh := heap_alloc_new (w.alloc (.cells #[.int .i64 s, .int .i64 t, .int .u8 k, .int .u64 v] 43)) (.cells #[.int .i64 t, .int .u64 v, .int .i64 s, .int .i64 (-1)] 81)
  rw [World.size_alloc] at hh
  refine bodyPost_ret (results_cell_row rfl _ _ (w.heap.size + 1) _ _ (0, 0) _ rfl hh Tryz.underlying81 rfl sizeSection) rfl ⟨rfl, (HA.out.alloc _).alloc _⟩
set_option maxHeartbeats 1000000 in
theorem endSection_ok (g o : Nat) (b s : Int) (hc : w.cell? ⟨g, o + 3, none⟩ = some (.int .i64 b)) (hf : w.frozen? ⟨g, o + 3, none⟩ = false) (hz : g < w.heap.size) : Calls Tryz.prog 71 #[.pointer (some ⟨g, o, none⟩), .int .i64 s] w fun e w' => e = .returned (.tuple #[]) ∧ w' = w.setCell ⟨g, o + 3, none⟩ (.int .i64 s) := by
  go_enter Tryz.func71, Tryz.ntmps71
  go_wp2
  go_end0
  exact ⟨rfl, rfl⟩
set_option maxRecDepth 100000 in
set_option maxHeartbeats 8000000 in
theorem pairsSection_ok (l : List EvR) (h : EvGood l) (v : Value) (rd : Rd w 4 v l.length (evCells l)) (hm : l.length ≤ 100000) : Calls Tryz.prog 69 #[v, .int .u8 1, .int .u8 2, .func (.func 70) #[] #[], .func (.func 71) #[] #[]] w (PairsTo w 81 (prs 1 2 l)) := by
  obtain ⟨a, cp, rfl, -, -⟩ := id rd
  have HRD := hid rd
  have HG := hid h
  have HCK := hid (echeck_ok l h _ rd hm)
  have hmm := @run_makeMap Tryz.prog
  clear rd h
  go_enter Tryz.func69, Tryz.ntmps69
  go_wp2_with fail
  refine HCK.out.mono ?_
  rintro e w1 ⟨rfl, hk1⟩
  have HS0 := hid (show ESec w (w1.alloc (.map #[] 0)) 81 w1.heap.size (.slice none 0 0) (prS 1 2 (l.take 0)) from ⟨World.ownsRow_nil _ _ _ _, fun q e => (by cases e), ⟨[], imap_new w1, fun t => rfl⟩, hk1.size, hk1.alloc _⟩)
  clear hk1 HCK
  go_upto_region 6 with fail
  generalize w1.alloc (Obj.map #[] 0) = W1 at HS0 ⊢
  generalize w1.heap.size = r at HS0 ⊢
  go_wp2
  go_loopw [14, 29] (fun ov iv wz => ∃ (k : Nat) (vo : Value), k ≤ l.length ∧ iv = .int .i64 (k : Int) ∧ ov = vo ∧ Hid (ESec w wz 81 r vo (prS 1 2 (l.take k)))) (fun _ iv _ => l.length - (intOf iv).toNat)
  case atStart => exact ⟨0, _, Nat.zero_le _, rfl, rfl, HS0⟩
  case round =>
    obtain ⟨k, vo, hk, rfl, hvo, HS⟩ := hrel
    obtain rfl : vo = _ := hvo.symm
    clear HS0
    by_cases hlt : k < l.length
    · have i1 : ((k : Int) < (l.length : Int)) = True := eq_true (by omega)
      have d1 : decide ((k : Int) < (l.length : Int)) = true := decide_eq_true (by omega)
      have wi : IntKind.i64.wrap ((k : Int) + 1) = (k : Int) + 1 := by rw [IntKind.wrap_i64]; omega
      obtain ⟨x, hx⟩ : ∃ x, l[k]? = some x := ⟨_, List.getElem?_eq_getElem hlt⟩
      obtain ⟨hwf, -, hrl, -⟩ := HG.out.at hx
      have HINV := hid (PrInv.of (bk := 1) (ek := 2) (by simp) (HG.out.take k))
      obtain ⟨ab, ao, ac, hve, hcl⟩ := Rd.cell HRD.out (by omega)
      simp only [Value.slice.injEq] at hve
      obtain ⟨rfl, -, rfl⟩ := hve
      have q : ∀ j u, x.cells[j]? = some u → wr.cell? ⟨ab, ao + k * 4 + j, none⟩ = some u := fun j u hu => by rw [Nat.add_assoc]; exact HS.out.kp.cell (hcl _ _ (evCells_at hx hu)) (fun h => h)
      have HTK := hid (take_snoc_ev hx)
      have HGET := hid (x.to_get (bk := 1) (ek := 2) (by simp) hrl)
      obtain ⟨s, t, kd, u⟩ := x
      have q0 : wr.cell? ⟨ab, ao + k * 4, none⟩ = some (.int .i64 s) := q 0 _ rfl
      have q1 : wr.cell? ⟨ab, ao + k * 4 + 1, none⟩ = some (.int .i64 t) := q 1 _ rfl
      have q2 : wr.cell? ⟨ab, ao + k * 4 + 2, none⟩ = some (.int .u8 kd) := q 2 _ rfl
      have q3 : wr.cell? ⟨ab, ao + k * 4 + 3, none⟩ = some (.int .u64 u) := q 3 _ rfl
      have i0 : (0 : Int) ≤ (k : Int) := by omega
      clear q hcl hrl hx hwf
      go_upto_region 9 with fail
      obtain ⟨W, hW⟩ : ∃ W, W = wr.alloc (.cells #[.int .i64 s, .int .i64 t, .int .u8 kd, .int .u64 u] 43) := ⟨_, rfl⟩
      rw [← hW]
      have hkW : Keep Nil wr W := hW ▸ (Keep.refl Nil wr).alloc _
      have hxb : W.heap[wr.heap.size]? = some (.cells #[.int .i64 s, .int .i64 t, .int .u8 kd, .int .u64 u] 43 (0, 0)) := hW ▸ heap_alloc_new wr _
      obtain ⟨xb, hxbe⟩ : ∃ xb, xb = wr.heap.size := ⟨_, rfl⟩
      rw [← hxbe] at hxb ⊢
      have HW := hid (HS.out.keep hkW)
      have HXB := hid hxb
      have x0 : W.cell? ⟨xb, 0, none⟩ = some (.int .i64 s) := by rw [cell_of hxb]; rfl
      have x1 : W.cell? ⟨xb, 1, none⟩ = some (.int .i64 t) := by rw [cell_of hxb]; rfl
      have x2 : W.cell? ⟨xb, 2, none⟩ = some (.int .u8 kd) := by rw [cell_of hxb]; rfl
      have x3 : W.cell? ⟨xb, 3, none⟩ = some (.int .u64 u) := by rw [cell_of hxb]; rfl
      have zx : xb < W.heap.size := lt_of_block hxb
      have HNW := hid (show w.heap.size ≤ xb by have := HS.out.kp.size; omega)
      have HNR := hid (show r ≠ xb by obtain ⟨ml, hm, -⟩ := HS.out.map; have := hm.lt; omega)
      have HNV := hid (show ∀ q, vo.ownBlock = some q → q ≠ xb from fun q hq => by have := (HS.out.row.lt q hq).2; omega)
      clear hW hkW hxb hxbe q0 q1 q2 q3 HS
      rcases HGET.out with ⟨hk, g1, g2⟩ | ⟨hk, hk2, ⟨f0, g1⟩, g2⟩ | ⟨hk, hk2, g1, g2⟩
      · as_aux_lemma =>
          simp only at hk
          subst hk
          have HST := hid (show (prS 1 2 (l.take (k + 1))) = ⟨(prS 1 2 (l.take k)).out ++ [⟨t, u, s, -1⟩], fun t' => if t' = t then some (prS 1 2 (l.take k)).out.length else (prS 1 2 (l.take k)).last t'⟩ by rw [HTK.out, prS_snoc]; rfl)
          obtain ⟨S, hS⟩ : ∃ S, S = prS 1 2 (l.take k) := ⟨_, rfl⟩
          rw [← hS] at HW HINV HST
          have hlen : S.out.length ≤ k := by have := HINV.out.len; rw [List.length_take] at this; omega
          obtain ⟨oa, oc, rfl⟩ := row_slice HW.out.row
          clear HGET g1 g2 hS
          obtain ⟨ml, hml, hme⟩ := HW.out.map
          obtain ⟨W3, hrun, hm3, k3, z3⟩ := put_run hml Tryz.underlying206 Tryz.underlying3 t (.int .i64 (S.out.length : Int))
          have HM3 := hid hm3
          have HME := hid hme
          have HK3 := hid k3
          have x0 := k3.cell x0 (fun e => HNR.out e.symm)
          have x1 := k3.cell x1 (fun e => HNR.out e.symm)
          have x2 := k3.cell x2 (fun e => HNR.out e.symm)
          have x3 := k3.cell x3 (fun e => HNR.out e.symm)
          have zx3 : xb < W3.heap.size := by omega
          have HR3 := hid (row_keep HW.out.row k3 (fun q hq e => imap_nrow hml HW.out.row (e ▸ hq)))
          clear hm3 hme k3 hml
          go_wp2_with fail
          refine (mkSection_ok s t 1 u _).mono ?_
          rintro e w4 ⟨rfl, hk4⟩
          have HK4 := hid hk4
          have HR4 := hid (row_keep HR3.out hk4 (fun _ _ h => h))
          clear hk4 hrun
          go_wp2_with (at_builtin; refine wpList_app _ rfl _ _ 71 rfl 81 _ 4 32 Tryz.underlying71 infoSection rfl (by decide) (.slice oa S.out.length oc) S.out.length (prCells S.out) rfl ?own _ 1 [.int .i64 t, .int .u64 u, .int .i64 s, .int .i64 (-1)] rfl ?rd ?one ?byt ?len ?_)
          case own => exact row_keep HR4.out ((Keep.refl Nil w4).alloc _) (fun _ _ h => h)
          case rd => exact rd_new _ _ _ _ _ _
          case one => simp [Value.oneCell']
          case byt => omega
          case len => unfold maxLen; omega
          intro a3 c3 w5 ho hg hs
          have hk5 : Keep (fun k => (Value.slice oa S.out.length oc).ownBlock = some k) w4 w5 := Keep.grown ((Keep.refl _ w4).alloc _) hg (fun j hj => .inl hj)
          have HF := hid (show ESec w w5 81 r (.slice a3 (S.out.length + 1) c3) (prS 1 2 (l.take (k + 1))) from by
            rw [HST.out]
            refine ⟨by rw [List.length_append, prCells_snoc]; exact ho, fun q hq => ?_, ⟨_, (HM3.out.keep HK4.out (fun h => h)).keep hk5 (fun e => ?_), fun t' => ?_⟩, HW.out.ltr, ?_⟩
            · rcases hs q hq with e | e
              · exact HW.out.own q e
              · have h1 := HK4.out.size; have h2 := HK3.out.size; have h3 := HW.out.kp.size; simp at e; omega
            · exact imap_nrow (HM3.out.keep HK4.out (fun h => h)) HR4.out e
            · rw [mlook_put]
              show (if t' = t then some (Value.int .i64 (S.out.length : Int)) else mlook ml t') = Option.map (fun i : Nat => Value.int .i64 (i : Int)) (if t' = t then some S.out.length else S.last t')
              by_cases e : t' = t
              · rw [if_pos e, if_pos e]; rfl
              · rw [if_neg e, if_neg e]; exact HME.out t'
            · exact ((HW.out.kp.trans HK3.out (fun q hq e => by have := HW.out.ltr; have e' : q = r := e; omega)).trans HK4.out (fun _ _ h => h)).trans hk5 (fun q hq e => by have := HW.out.own q e; omega))
          clear ho hg hs hk5
          go_wp2
          go_roundw
          case rel => exact ⟨k + 1, _, by omega, by go_num, rfl, HF⟩
          case measure => simp [intOf]; omega
      · as_aux_lemma =>
          simp only at hk hk2
          subst hk2
          obtain ⟨j, hj, hpj⟩ := HINV.out.op _ _ _ g1
          have HST := hid (show (prS 1 2 (l.take (k + 1))) = ⟨(prS 1 2 (l.take k)).out.modify j fun p => { p with b := s }, (prS 1 2 (l.take k)).last⟩ by
            rw [HTK.out, prS_snoc]
            unfold PrS.step
            rw [if_neg (by simp), if_pos rfl]
            simp only [hj])
          obtain ⟨S, hS⟩ : ∃ S, S = prS 1 2 (l.take k) := ⟨_, rfl⟩
          rw [← hS] at HW HINV HST hj hpj
          have hlen : S.out.length ≤ k := by have := HINV.out.len; rw [List.length_take] at this; omega
          have hjl := (List.getElem?_eq_some_iff.1 hpj).1
          obtain ⟨ml, hml, hme⟩ := HW.out.map
          have hlk : mlook ml t = some (.int .i64 (j : Int)) := by rw [hme t]; simp only at hj; rw [hj]; rfl
          obtain ⟨oa, oc, rfl⟩ := row_slice HW.out.row
          obtain ⟨gb, hgb⟩ : ∃ gb, oa = some ⟨gb, 0, none⟩ := by
            rcases HW.out.row.2 with ⟨hv, h0⟩ | ⟨q, cap, cur, hv, _⟩
            · omega
            · simp only [Value.slice.injEq] at hv; exact ⟨q, hv.1⟩
          subst hgb
          have HJB := hid (show (W.cell? ⟨gb, j * 4 + 3, none⟩ = some (.int .i64 (-1))) ∧ W.frozen? ⟨gb, j * 4 + 3, none⟩ = false ∧ gb < W.heap.size from ⟨by rw [HW.out.row.cellAt (j * 4 + 3) (by omega)]; exact prCells_at hpj rfl, HW.out.row.frozenAt _, (HW.out.row.lt gb rfl).2⟩)
          have hgx : gb ≠ xb := HNV.out gb rfl
          have HLK := hid (fun (W' : World) (h : IMap .i64 W' r ml) => look_one h Tryz.underlying206 Tryz.underlying3 (zInt W') t)
          rw [hlk] at HLK
          have HML := hid hml
          have HME := hid hme
          have j0 : (0 : Int) ≤ (j : Int) := by omega
          have j1 : (j : Int) < (S.out.length : Int) := by omega
          have nb : ((2 : Int) == 1) = false := by decide
          clear HGET g1 g2 hj hlk hml hme hS
          go_upto_region 14 with fail
          have hl1 := HLK.out W HML.out
          have hl2 := HLK.out W.drew (HML.out.keep (Keep.refl Nil W).drew (fun h => h))
          simp only [Option.getD_some] at hl1 hl2
          have HEND := hid (fun (W' : World) (hk' : Keep Nil W W') => endSection_ok (w := W') gb (j * 4) (-1) s (hk'.cell HJB.out.1 (fun h => h)) ((row_keep HW.out.row hk' (fun _ _ h => h)).frozenAt _) (by have := hk'.size; have := HJB.out.2.2; omega))
          go_still_tail 9, (by kernel_rfl)
          change wpList _ _ _ _ _ W.drew
          go_wp2_with fail
          refine (HEND.out W.drew ((Keep.refl Nil W).drew)).mono ?_
          rintro e w5 ⟨rfl, rfl⟩
          have hst := (row_keep HW.out.row ((Keep.refl Nil W).drew) (fun _ _ h => h)).stored (j * 4 + 3) (.int .i64 s)
          have hk5 : Keep (fun k => k = gb) W (W.drew.setCell ⟨gb, j * 4 + 3, none⟩ (.int .i64 s)) := ((Keep.refl (fun k => k = gb) W).drew).setCell (.inl rfl) _
          have hrg : r ≠ gb := fun e => imap_nrow HML.out HW.out.row (e ▸ rfl)
          have HF := hid (show ESec w (W.drew.setCell ⟨gb, j * 4 + 3, none⟩ (.int .i64 s)) 81 r (.slice (some ⟨gb, 0, none⟩) S.out.length oc) (prS 1 2 (l.take (k + 1))) from by
            rw [HST.out]
            refine ⟨?_, HW.out.own, ⟨ml, HML.out.keep hk5 hrg, HME.out⟩, HW.out.ltr, HW.out.kp.trans hk5 (fun q hq e => by have := HW.out.own gb rfl; omega)⟩
            rw [List.length_modify, ← prCells_set _ _ _ hjl]
            exact hst.1)
          clear hst hk5
          go_wp2
          go_roundw
          case rel => exact ⟨k + 1, _, by omega, by go_num, rfl, HF⟩
          case measure => simp [intOf]; omega
      · as_aux_lemma =>
          simp only at hk hk2
          have n1 : (kd == 1) = false := beq_eq_false_iff_ne.2 hk
          have n2 : (kd == 2) = false := beq_eq_false_iff_ne.2 hk2
          have HST := hid (show prS 1 2 (l.take (k + 1)) = prS 1 2 (l.take k) by rw [HTK.out, prS_snoc]; unfold PrS.step; rw [if_neg hk, if_neg hk2])
          have HF := hid (HST.out ▸ HW.out)
          clear HGET g1 g2 hk hk2
          go_wp2
          go_roundw
          case rel => exact ⟨k + 1, _, by omega, by go_num, rfl, HF⟩
          case measure => simp [intOf]; omega
    · obtain rfl : k = l.length := by omega
      have i1 : ((l.length : Int) < (l.length : Int)) = False := eq_false (by omega)
      have d1 : decide ((l.length : Int) < (l.length : Int)) = false := decide_eq_false (by omega)
      rw [List.take_length] at HS
      obtain ⟨oa, oc, rfl⟩ := row_slice HS.out.row
      go_wp2
      go_ret2
      exact ⟨oa, oc, rfl, HS.out.row, HS.out.kp, HS.out.own⟩
set_option maxHeartbeats 1000000 in
theorem Sections_ok (l : List EvR) (h : EvGood l) (v : Value) (rd : Rd w 4 v l.length (evCells l)) (hm : l.length ≤ 100000) : Calls Tryz.prog 42 #[v] w (PairsTo w 81 (prs 1 2 l)) := by
  have HP := hid (pairsSection_ok l h v rd hm)
  clear rd h
  go_enter Tryz.func42, Tryz.ntmps42
  go_wp2_with fail
  refine HP.out.mono ?_
  rintro e w1 ⟨a, cp, rfl, h1, h2, h3⟩
  go_wp2
  go_ret2
  exact ⟨a, cp, rfl, h1, h2, h3⟩

theorem infoWait : (Tryz.prog.info? 76).map (fun i => (i.zero, i.size, i.bytes)) = some (some (.agg #[.int .i64 0, .int .u64 0, .int .i64 0, .int .i64 0]), 4, 32) := by kernel_rfl
theorem sizeWait : (Tryz.prog.info? 76).map (·.size) = some 4 := by kernel_rfl
set_option maxHeartbeats 1000000 in
theorem mkWait_ok (s t k v : Int) (w : World) : Calls Tryz.prog 73 #[.agg #[.int .i64 s, .int .i64 t, .int .u8 k, .int .u64 v]] w fun e w' => e = .returned (.agg #[.int .i64 t, .int .u64 v, .int .i64 s, .int .i64 (-1)]) ∧ Keep Nil w w' := by
  have HA := hid (Keep.refl Nil w)
  go_enter Tryz.func73, Tryz.ntmps73
  go_wp2
  have hh := heap_alloc_new (w.alloc (.cells #[.int .i64 s, .int .i64 t, .int .u8 k, .int .u64 v] 43)) (.cells #[.int .i64 t, .int .u64 v, .int .i64 s, .int .i64 (-1)] 76)
  rw [World.size_alloc] at hh
  refine bodyPost_ret (results_cell_row rfl _ _ (w.heap.size + 1) _ _ (0, 0) _ rfl hh Tryz.underlying76 rfl sizeWait) rfl ⟨rfl, (HA.out.alloc _).alloc _⟩
set_option maxHeartbeats 1000000 in
theorem endWait_ok (g o : Nat) (b s : Int) (hc : w.cell? ⟨g, o + 3, none⟩ = some (.int .i64 b)) (hf : w.frozen? ⟨g, o + 3, none⟩ = false) (hz : g < w.heap.size) : Calls Tryz.prog 74 #[.pointer (some ⟨g, o, none⟩), .int .i64 s] w fun e w' => e = .returned (.tuple #[]) ∧ w' = w.setCell ⟨g, o + 3, none⟩ (.int .i64 s) := by
  go_enter Tryz.func74, Tryz.ntmps74
  go_wp2
  go_end0
  exact ⟨rfl, rfl⟩
set_option maxRecDepth 100000 in
set_option maxHeartbeats 8000000 in
theorem pairsWait_ok (l : List EvR) (h : EvGood l) (v : Value) (rd : Rd w 4 v l.length (evCells l)) (hm : l.length ≤ 100000) : Calls Tryz.prog 72 #[v, .int .u8 3, .int .u8 4, .func (.func 73) #[] #[], .func (.func 74) #[] #[]] w (PairsTo w 76 (prs 3 4 l)) := by
  obtain ⟨a, cp, rfl, -, -⟩ := id rd
  have HRD := hid rd
  have HG := hid h
  have HCK := hid (echeck_ok l h _ rd hm)
  have hmm := @run_makeMap Tryz.prog
  clear rd h
  go_enter Tryz.func72, Tryz.ntmps72
  go_wp2_with fail
  refine HCK.out.mono ?_
  rintro e w1 ⟨rfl, hk1⟩
  have HS0 := hid (show ESec w (w1.alloc (.map #[] 0)) 76 w1.heap.size (.slice none 0 0) (prS 3 4 (l.take 0)) from ⟨World.ownsRow_nil _ _ _ _, fun q e => (by cases e), ⟨[], imap_new w1, fun t => rfl⟩, hk1.size, hk1.alloc _⟩)
  clear hk1 HCK
  go_upto_region 6 with fail
  generalize w1.alloc (Obj.map #[] 0) = W1 at HS0 ⊢
  generalize w1.heap.size = r at HS0 ⊢
  go_wp2
  go_loopw [14, 29] (fun ov iv wz => ∃ (k : Nat) (vo : Value), k ≤ l.length ∧ iv = .int .i64 (k : Int) ∧ ov = vo ∧ Hid (ESec w wz 76 r vo (prS 3 4 (l.take k)))) (fun _ iv _ => l.length - (intOf iv).toNat)
  case atStart => exact ⟨0, _, Nat.zero_le _, rfl, rfl, HS0⟩
  case round =>
    obtain ⟨k, vo, hk, rfl, hvo, HS⟩ := hrel
    obtain rfl : vo = _ := hvo.symm
    clear HS0
    by_cases hlt : k < l.length
    · have i1 : ((k : Int) < (l.length : Int)) = True := eq_true (by omega)
      have d1 : decide ((k : Int) < (l.length : Int)) = true := decide_eq_true (by omega)
      have wi : IntKind.i64.wrap ((k : Int) + 1) = (k : Int) + 1 := by rw [IntKind.wrap_i64]; omega
      obtain ⟨x, hx⟩ : ∃ x, l[k]? = some x := ⟨_, List.getElem?_eq_getElem hlt⟩
      obtain ⟨hwf, -, hrl, -⟩ := HG.out.at hx
      have HINV := hid (PrInv.of (bk := 3) (ek := 4) (by simp) (HG.out.take k))
      obtain ⟨ab, ao, ac, hve, hcl⟩ := Rd.cell HRD.out (by omega)
      simp only [Value.slice.injEq] at hve
      obtain ⟨rfl, -, rfl⟩ := hve
      have q : ∀ j u, x.cells[j]? = some u → wr.cell? ⟨ab, ao + k * 4 + j, none⟩ = some u := fun j u hu => by rw [Nat.add_assoc]; exact HS.out.kp.cell (hcl _ _ (evCells_at hx hu)) (fun h => h)
      have HTK := hid (take_snoc_ev hx)
      have HGET := hid (x.to_get (bk := 3) (ek := 4) (by simp) hrl)
      obtain ⟨s, t, kd, u⟩ := x
      have q0 : wr.cell? ⟨ab, ao + k * 4, none⟩ = some (.int .i64 s) := q 0 _ rfl
      have q1 : wr.cell? ⟨ab, ao + k * 4 + 1, none⟩ = some (.int .i64 t) := q 1 _ rfl
      have q2 : wr.cell? ⟨ab, ao + k * 4 + 2, none⟩ = some (.int .u8 kd) := q 2 _ rfl
      have q3 : wr.cell? ⟨ab, ao + k * 4 + 3, none⟩ = some (.int .u64 u) := q 3 _ rfl
      have i0 : (0 : Int) ≤ (k : Int) := by omega
      clear q hcl hrl hx hwf
      go_upto_region 9 with fail
      obtain ⟨W, hW⟩ : ∃ W, W = wr.alloc (.cells #[.int .i64 s, .int .i64 t, .int .u8 kd, .int .u64 u] 43) := ⟨_, rfl⟩
      rw [← hW]
      have hkW : Keep Nil wr W := hW ▸ (Keep.refl Nil wr).alloc _
      have hxb : W.heap[wr.heap.size]? = some (.cells #[.int .i64 s, .int .i64 t, .int .u8 kd, .int .u64 u] 43 (0, 0)) := hW ▸ heap_alloc_new wr _
      obtain ⟨xb, hxbe⟩ : ∃ xb, xb = wr.heap.size := ⟨_, rfl⟩
      rw [← hxbe] at hxb ⊢
      have HW := hid (HS.out.keep hkW)
      have HXB := hid hxb
      have x0 : W.cell? ⟨xb, 0, none⟩ = some (.int .i64 s) := by rw [cell_of hxb]; rfl
      have x1 : W.cell? ⟨xb, 1, none⟩ = some (.int .i64 t) := by rw [cell_of hxb]; rfl
      have x2 : W.cell? ⟨xb, 2, none⟩ = some (.int .u8 kd) := by rw [cell_of hxb]; rfl
      have x3 : W.cell? ⟨xb, 3, none⟩ = some (.int .u64 u) := by rw [cell_of hxb]; rfl
      have zx : xb < W.heap.size := lt_of_block hxb
      have HNW := hid (show w.heap.size ≤ xb by have := HS.out.kp.size; omega)
      have HNR := hid (show r ≠ xb by obtain ⟨ml, hm, -⟩ := HS.out.map; have := hm.lt; omega)
      have HNV := hid (show ∀ q, vo.ownBlock = some q → q ≠ xb from fun q hq => by have := (HS.out.row.lt q hq).2; omega)
      clear hW hkW hxb hxbe q0 q1 q2 q3 HS
      rcases HGET.out with ⟨hk, g1, g2⟩ | ⟨hk, hk2, ⟨f0, g1⟩, g2⟩ | ⟨hk, hk2, g1, g2⟩
      · as_aux_lemma =>
          simp only at hk
          subst hk
          have HST := hid (show (prS 3 4 (l.take (k + 1))) = ⟨(prS 3 4 (l.take k)).out ++ [⟨t, u, s, -1⟩], fun t' => if t' = t then some (prS 3 4 (l.take k)).out.length else (prS 3 4 (l.take k)).last t'⟩ by rw [HTK.out, prS_snoc]; rfl)
          obtain ⟨S, hS⟩ : ∃ S, S = prS 3 4 (l.take k) := ⟨_, rfl⟩
          rw [← hS] at HW HINV HST
          have hlen : S.out.length ≤ k := by have := HINV.out.len; rw [List.length_take] at this; omega
          obtain ⟨oa, oc, rfl⟩ := row_slice HW.out.row
          clear HGET g1 g2 hS
          obtain ⟨ml, hml, hme⟩ := HW.out.map
          obtain ⟨W3, hrun, hm3, k3, z3⟩ := put_run hml Tryz.underlying206 Tryz.underlying3 t (.int .i64 (S.out.length : Int))
          have HM3 := hid hm3
          have HME := hid hme
          have HK3 := hid k3
          have x0 := k3.cell x0 (fun e => HNR.out e.symm)
          have x1 := k3.cell x1 (fun e => HNR.out e.symm)
          have x2 := k3.cell x2 (fun e => HNR.out e.symm)
          have x3 := k3.cell x3 (fun e => HNR.out e.symm)
          have zx3 : xb < W3.heap.size := by omega
          have HR3 := hid (row_keep HW.out.row k3 (fun q hq e => imap_nrow hml HW.out.row (e ▸ hq)))
          clear hm3 hme k3 hml
          go_wp2_with fail
          refine (mkWait_ok s t 3 u _).mono ?_
          rintro e w4 ⟨rfl, hk4⟩
          have HK4 := hid hk4
          have HR4 := hid (row_keep HR3.out hk4 (fun _ _ h => h))
          clear hk4 hrun
          go_wp2_with (at_builtin; refine wpList_app _ rfl _ _ 72 rfl 76 _ 4 32 Tryz.underlying72 infoWait rfl (by decide) (.slice oa S.out.length oc) S.out.length (prCells S.out) rfl ?own _ 1 [.int .i64 t, .int .u64 u, .int .i64 s, .int .i64 (-1)] rfl ?rd ?one ?byt ?len ?_)
          case own => exact row_keep HR4.out ((Keep.refl Nil w4).alloc _) (fun _ _ h => h)
          case rd => exact rd_new _ _ _ _ _ _
          case one => simp [Value.oneCell']
          case byt => omega
          case len => unfold maxLen; omega
          intro a3 c3 w5 ho hg hs
          have hk5 : Keep (fun k => (Value.slice oa S.out.length oc).ownBlock = some k) w4 w5 := Keep.grown ((Keep.refl _ w4).alloc _) hg (fun j hj => .inl hj)
          have HF := hid (show ESec w w5 76 r (.slice a3 (S.out.length + 1) c3) (prS 3 4 (l.take (k + 1))) from by
            rw [HST.out]
            refine ⟨by rw [List.length_append, prCells_snoc]; exact ho, fun q hq => ?_, ⟨_, (HM3.out.keep HK4.out (fun h => h)).keep hk5 (fun e => ?_), fun t' => ?_⟩, HW.out.ltr, ?_⟩
            · rcases hs q hq with e | e
              · exact HW.out.own q e
              · have h1 := HK4.out.size; have h2 := HK3.out.size; have h3 := HW.out.kp.size; simp at e; omega
            · exact imap_nrow (HM3.out.keep HK4.out (fun h => h)) HR4.out e
            · rw [mlook_put]
              show (if t' = t then some (Value.int .i64 (S.out.length : Int)) else mlook ml t') = Option.map (fun i : Nat => Value.int .i64 (i : Int)) (if t' = t then some S.out.length else S.last t')
              by_cases e : t' = t
              · rw [if_pos e, if_pos e]; rfl
              · rw [if_neg e, if_neg e]; exact HME.out t'
            · exact ((HW.out.kp.trans HK3.out (fun q hq e => by have := HW.out.ltr; have e' : q = r := e; omega)).trans HK4.out (fun _ _ h => h)).trans hk5 (fun q hq e => by have := HW.out.own q e; omega))
          clear ho hg hs hk5
          go_wp2
          go_roundw
          case rel => exact ⟨k + 1, _, by omega, by go_num, rfl, HF⟩
          case measure => simp [intOf]; omega
      · as_aux_lemma =>
          simp only at hk hk2
          subst hk2
          obtain ⟨j, hj, hpj⟩ := HINV.out.op _ _ _ g1
          have HST := hid (show (prS 3 4 (l.take (k + 1))) = ⟨(prS 3 4 (l.take k)).out.modify j fun p => { p with b := s }, (prS 3 4 (l.take k)).last⟩ by
            rw [HTK.out, prS_snoc]
            unfold PrS.step
            rw [if_neg (by simp), if_pos rfl]
            simp only [hj])
          obtain ⟨S, hS⟩ : ∃ S, S = prS 3 4 (l.take k) := ⟨_, rfl⟩
          rw [← hS] at HW HINV HST hj hpj
          have hlen : S.out.length ≤ k := by have := HINV.out.len; rw [List.length_take] at this; omega
          have hjl := (List.getElem?_eq_some_iff.1 hpj).1
          obtain ⟨ml, hml, hme⟩ := HW.out.map
          have hlk : mlook ml t = some (.int .i64 (j : Int)) := by rw [hme t]; simp only at hj; rw [hj]; rfl
          obtain ⟨oa, oc, rfl⟩ := row_slice HW.out.row
          obtain ⟨gb, hgb⟩ : ∃ gb, oa = some ⟨gb, 0, none⟩ := by
            rcases HW.out.row.2 with ⟨hv, h0⟩ | ⟨q, cap, cur, hv, _⟩
            · omega
            · simp only [Value.slice.injEq] at hv; exact ⟨q, hv.1⟩
          subst hgb
          have HJB := hid (show (W.cell? ⟨gb, j * 4 + 3, none⟩ = some (.int .i64 (-1))) ∧ W.frozen? ⟨gb, j * 4 + 3, none⟩ = false ∧ gb < W.heap.size from ⟨by rw [HW.out.row.cellAt (j * 4 + 3) (by omega)]; exact prCells_at hpj rfl, HW.out.row.frozenAt _, (HW.out.row.lt gb rfl).2⟩)
          have hgx : gb ≠ xb := HNV.out gb rfl
          have HLK := hid (fun (W' : World) (h : IMap .i64 W' r ml) => look_one h Tryz.underlying206 Tryz.underlying3 (zInt W') t)
          rw [hlk] at HLK
          have HML := hid hml
          have HME := hid hme
          have j0 : (0 : Int) ≤ (j : Int) := by omega
          have j1 : (j : Int) < (S.out.length : Int) := by omega
          have nb : ((4 : Int) == 3) = false := by decide
          clear HGET g1 g2 hj hlk hml hme hS
          go_upto_region 14 with fail
          have hl1 := HLK.out W HML.out
          have hl2 := HLK.out W.drew (HML.out.keep (Keep.refl Nil W).drew (fun h => h))
          simp only [Option.getD_some] at hl1 hl2
          have HEND := hid (fun (W' : World) (hk' : Keep Nil W W') => endWait_ok (w := W') gb (j * 4) (-1) s (hk'.cell HJB.out.1 (fun h => h)) ((row_keep HW.out.row hk' (fun _ _ h => h)).frozenAt _) (by have := hk'.size; have := HJB.out.2.2; omega))
          go_still_tail 9, (by kernel_rfl)
          change wpList _ _ _ _ _ W.drew
          go_wp2_with fail
          refine (HEND.out W.drew ((Keep.refl Nil W).drew)).mono ?_
          rintro e w5 ⟨rfl, rfl⟩
          have hst := (row_keep HW.out.row ((Keep.refl Nil W).drew) (fun _ _ h => h)).stored (j * 4 + 3) (.int .i64 s)
          have hk5 : Keep (fun k => k = gb) W (W.drew.setCell ⟨gb, j * 4 + 3, none⟩ (.int .i64 s)) := ((Keep.refl (fun k => k = gb) W).drew).setCell (.inl rfl) _
          have hrg : r ≠ gb := fun e => imap_nrow HML.out HW.out.row (e ▸ rfl)
          have HF := hid (show ESec w (W.drew.setCell ⟨gb, j * 4 + 3, none⟩ (.int .i64 s)) 76 r (.slice (some ⟨gb, 0, none⟩) S.out.length oc) (prS 3 4 (l.take (k + 1))) from by
            rw [HST.out]
            refine ⟨?_, HW.out.own, ⟨ml, HML.out.keep hk5 hrg, HME.out⟩, HW.out.ltr, HW.out.kp.trans hk5 (fun q hq e => by have := HW.out.own gb rfl; omega)⟩
            rw [List.length_modify, ← prCells_set _ _ _ hjl]
            exact hst.1)
          clear hst hk5
          go_wp2
          go_roundw
          case rel => exact ⟨k + 1, _, by omega, by go_num, rfl, HF⟩
          case measure => simp [intOf]; omega
      · as_aux_lemma =>
          simp only at hk hk2
          have n1 : (kd == 3) = false := beq_eq_false_iff_ne.2 hk
          have n2 : (kd == 4) = false := beq_eq_false_iff_ne.2 hk2
          have HST := hid (show prS 3 4 (l.take (k + 1)) = prS 3 4 (l.take k) by rw [HTK.out, prS_snoc]; unfold PrS.step; rw [if_neg hk, if_neg hk2])
          have HF := hid (HST.out ▸ HW.out)
          clear HGET g1 g2 hk hk2
          go_wp2
          go_roundw
          case rel => exact ⟨k + 1, _, by omega, by go_num, rfl, HF⟩
          case measure => simp [intOf]; omega
    · obtain rfl : k = l.length := by omega
      have i1 : ((l.length : Int) < (l.length : Int)) = False := eq_false (by omega)
      have d1 : decide ((l.length : Int) < (l.length : Int)) = false := decide_eq_false (by omega)
      rw [List.take_length] at HS
      obtain ⟨oa, oc, rfl⟩ := row_slice HS.out.row
      go_wp2
      go_ret2
      exact ⟨oa, oc, rfl, HS.out.row, HS.out.kp, HS.out.own⟩
set_option maxHeartbeats 1000000 in
theorem Waits_ok (l : List EvR) (h : EvGood l) (v : Value) (rd : Rd w 4 v l.length (evCells l)) (hm : l.length ≤ 100000) : Calls Tryz.prog 43 #[v] w (PairsTo w 76 (prs 3 4 l)) := by
  have HP := hid (pairsWait_ok l h v rd hm)
  clear rd h
  go_enter Tryz.func43, Tryz.ntmps43
  go_wp2_with fail
  refine HP.out.mono ?_
  rintro e w1 ⟨a, cp, rfl, h1, h2, h3⟩
  go_wp2
  go_ret2
  exact ⟨a, cp, rfl, h1, h2, h3⟩
end
end Go.Proofs.YtldjlcdccnnogaaGreat
