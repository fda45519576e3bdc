/- GateSteps: the walk. -/
import Derived.Test.YtihgfklajhhikaaGateJ
import Derived.Test.YtihgfklajhhikaaEv
import Derived.Test.YtihgfklajhhikaaSizesWalk
import Derived.Test.YtihgfklajhhikaaLogRd
import Derived.Test.YtihgfklajhhikaaKit
import Derived.Test.YtihgfklajhhikaaKitInts
import Derived.Test.YtihgfklajhhikaaIndex
set_option linter.unusedVariables false
set_option linter.unusedSimpArgs false
namespace Go.Proofs.Ytihgfklajhhikaa
open Go.RowKit Go.Lf
section
variable {w wr : World} {g sm mb h rb : Nat}
theorem infoOp : (Try.prog.info? 128).map (fun i => (i.zero, i.size, i.bytes)) = some (some (.agg #[.pointer none, .pointer none, .pointer none, .pointer none]), 4, 32) := by kernel_rfl
/-- The blocks of a row that the walk itself owns. -/
def RowL (v : Value) : Nat → Prop := fun q => v.ownBlock = some q
/-- Between two events. -/
def SJ (w : World) (g sm mb h rb : Nat) (b0 n k : Nat) (v : Value) (wr : World) : Prop :=
  ∃ S rows, GJ w g sm mb h rb b0 n k (RowL v) S rows wr ∧ rows.length ≤ k ∧ wr.ownsRow 0 128 4 v rows.length (opsCells rows)
theorem SJ.quiet {b0 n k : Nat} {v : Value} (hs : SJ w g sm mb h rb b0 n k v wr) {w' : World} (hk : Keep Nil wr w') : SJ w g sm mb h rb b0 n k v w' := by
  obtain ⟨S, rows, h1, h2, h3⟩ := hs
  exact ⟨S, rows, h1.quiet hk, h2, row_keep h3 hk (fun _ _ h => h)⟩
theorem SJ.own {b0 n k : Nat} {v : Value} (hs : SJ w g sm mb h rb b0 n k v wr) : Keep Nil w wr := by
  obtain ⟨S, rows, h1, -⟩ := hs
  exact h1.own
/-- The event lies in a block of its own. -/
theorem SJ.boxed {b0 n k : Nat} {v : Value} {o : Obj} {S : GSt} {rows : List (Nat × Nat × Bool)} (h1 : GJ w g sm mb h rb b0 n k (RowL v) S rows wr) : GJ w g sm mb h rb b0 n k (fun q => RowL v q ∨ q = wr.heap.size) S rows (wr.alloc o) :=
  h1.loc ((Keep.refl _ wr).alloc o) (fun q hq => hq.elim .inl (fun e => .inr (by simp; omega)))
theorem SJ.back {b0 n k : Nat} {v : Value} {S : GSt} {rows : List (Nat × Nat × Bool)} {bx : Nat} {w0 w' : World} (h1 : GJ w g sm mb h rb b0 n k (fun q => RowL v q ∨ q = bx) S rows w') (hl : rows.length ≤ k) (hk : Keep (Out w (fun q => RowL v q ∨ q = bx)) w0 w') (hr : w0.ownsRow 0 128 4 v rows.length (opsCells rows)) : SJ w g sm mb h rb b0 n k v w' :=
  ⟨S, rows, h1.loc (Keep.refl _ _) (fun q hq => .inl (.inl hq)), hl, row_keep hr hk (fun q hq hO => hO.1 (.inl hq))⟩
/-- A row has been appended. -/
theorem SJ.grown {b0 n k : Nat} {v v' : Value} {S : GSt} {rows : List (Nat × Nat × Bool)} {p : Nat × Nat × Bool} {bx : Nat} {w7 w8 : World} (h1 : GJ w g sm mb h rb b0 n k (fun q => RowL v q ∨ q = bx) S (rows ++ [p]) w7) (hl : rows.length + 1 ≤ k) (hk : Keep (RowL v) w7 w8)
    (ho : w8.ownsRow 0 128 4 v' (rows ++ [p]).length (opsCells (rows ++ [p]))) (hn : ∀ q, v'.ownBlock = some q → v.ownBlock = some q ∨ w7.heap.size ≤ q) : SJ w g sm mb h rb b0 n k v' w8 := by
  refine ⟨S, rows ++ [p], h1.loc (hk.mono fun q _ hq => .inl hq) (fun q hq => ?_), by simp; omega, ho⟩
  rcases hn q hq with e | e
  · exact .inl (.inl e)
  · refine .inr ⟨e, ?_⟩
    rcases ho.2 with ⟨hv, _⟩ | ⟨q', cap, cur, hv, _, hc, _⟩
    · rw [RowL, hv] at hq; cases hq
    · rw [RowL, hv] at hq; simp only [Value.ownBlock, Option.some.injEq] at hq; subst hq; exact lt_of_block hc
theorem sjopen {b0 n k : Nat} {v : Value} (hs : SJ w g sm mb h rb b0 n k v wr) (hn : n ≤ 9) :
    Calls Try.prog 22 #[.pointer (some ⟨g, 0, none⟩)] wr fun e w' => ∃ (l : List Int) (v1 : Value), e = .returned v1 ∧ Rd w' 1 v1 l.length (l.map (Value.int .i64)) ∧ Keep Nil wr w' ∧ l.length ≤ 64 ∧
      ∀ w'', Keep Nil w' w'' → Calls Try.prog 64 #[.pointer (some ⟨h, 0, none⟩)] w'' fun e w3 => ∃ v2, e = .returned v2 ∧ Rd w3 1 v2 l.length (l.map (Value.int .i64)) ∧ Keep Nil w'' w3 := by
  obtain ⟨S, rows, h1, -⟩ := hs
  refine (gjopen h1 hn).mono ?_
  rintro e w' ⟨l, v1, h1, h2, h3, h4, h5⟩
  exact ⟨l, v1, h1, h2, h3, by omega, h5⟩

set_option maxRecDepth 100000 in
set_option maxHeartbeats 6000000 in
theorem steps_ok (bN nN : Nat) (hb : bN ≤ 20) (hn0 : 1 ≤ nN) (hn1 : nN ≤ 9) (a : Option Addr) (cc : Nat) (l : List EvE) (hrd : Rd w 6 (.slice a l.length cc) l.length (eveCells l)) (hwf : ∀ x ∈ l, x.wf) (hl : l.length ≤ 300) :
    Calls Try.prog 14 #[.int .i64 bN, .int .i64 nN, .slice a l.length cc] w fun e w' => e = .returned (.bool true) ∧ Keep Nil w w' := by
  have HD := hid hrd
  have HW := hid hwf
  have dl : decide (300 < (l.length : Int)) = false := decide_eq_false (by omega)
  have dn0 : decide ((nN : Int) < 1) = false := decide_eq_false (by omega)
  have dn1 : decide (9 < (nN : Int)) = false := decide_eq_false (by omega)
  have db0 : decide ((bN : Int) < 0) = false := decide_eq_false (by omega)
  have db1 : decide (20 < (bN : Int)) = false := decide_eq_false (by omega)
  obtain ⟨m, hm⟩ : ∃ m : Nat, m = bN + 4 * nN + 1 := ⟨_, rfl⟩
  have hmi : (bN : Int) + 4 * (nN : Int) + 1 = (m : Int) := by omega
  have hm30 : m ≤ 70 := by omega
  have hn9 : nN ≤ 9 := hn1
  have hm0 : 0 < m := by omega
  have HMM := hid hm
  clear hrd hwf hm
  go_enter Try.func14, Try.ntmps14
  go_wp2_with (at_make; refine wpList_mk _ rfl _ _ 26 rfl 49 _ 1 8 Try.underlying26 infoU64 _ _ (m : Int) rfl rfl ?p0 ?p1 ?p2 ?_)
  case p0 => omega
  case p1 => omega
  case p2 => omega
  intro w1 hh hk hz
  have hrd := zeros_rd hh
  have HK := hid hk
  have HRD := hid hrd
  clear hh hk hz hrd
  go_wp2_with fail
  refine (new_ok _ _ _ HRD.out (by simp; omega) (by simp; omega)).mono ?_
  rintro e w2 ⟨mb, F, rfl, hmm, k2, f2⟩
  have HM := hid hmm
  have HO := hid (Own.fresh HK.out k2 f2)
  have HRD2 := hid (rd_keep HRD.out k2 (fun _ _ h => h))
  clear hmm k2 f2 HRD
  go_wp2_with fail
  refine (rnew_ok _ _ _ HRD2.out (by simp; omega) (by simp; omega)).mono ?_
  rintro e w3 ⟨rb, G, rfl, hr, k3, f3⟩
  have HM3 := hid (HM.out.keep k3 (fun _ _ h => h))
  have HO3 := hid (HO.out.quiet k3)
  have HR := hid hr
  have FG := hid (show Foot w2 Nil G from f3)
  have LF := hid HM.out.lt
  have Z2 := hid HO.out.1.size
  clear hr k3 f3 HM HO HRD2
  have he : pErr 4 16 (bN : Int) nN (List.replicate m (0 : Int)).length = 0 := by unfold pErr; rw [if_neg (by omega), if_neg (by have := HMM.out; simp; omega)]
  have HE := hid he
  go_wp2_with fail
  refine (gnew_ok HM3.out (by simp; omega) (bN : Int) nN HE.out).mono ?_
  rintro e w4 ⟨g, sm, rfl, hg, k4, l1, l2⟩
  have HG := hid hg
  have K4 := hid k4
  have HR4 := hid (HR.out.keep k4 (fun _ _ h => h))
  have LL := hid (And.intro l1 l2)
  clear hg k4 l1 l2
  go_wp2_with fail
  refine (rgnew18_ok HR4.out (by simp; omega) (bN : Int) nN HE.out).mono ?_
  rintro e w5 ⟨h, rfl, hh, k5, l4⟩
  have hS0 : SJ w g sm mb h rb bN nN 0 (.slice none 0 0) w5 := by
    have s0 := HO3.out.1.size
    have s3 := K4.out.size
    have s4 := k5.size
    have ltG := HR.out.lt
    have nFge : ∀ k : Nat, w2.heap.size ≤ k → ¬ F k := fun k hk hF => by have := LF.out k hF; omega
    have nGge : ∀ k : Nat, w3.heap.size ≤ k → ¬ G k := fun k hk hG => by have := ltG k hG; omega
    obtain ⟨l1, l2⟩ := LL.out
    have z23 : w2.heap.size ≤ w3.heap.size := by
      have := HR.out.has
      have h2 := ltG _ this
      rcases FG.out _ this with e | e
      · exact e.elim
      · omega
    have geF : ∀ k, F k → w.heap.size ≤ k := fun k hk => (HO3.out.2 k hk).elim (fun e => e.elim) id
    have geG : ∀ k, G k → w2.heap.size ≤ k := fun k hk => (FG.out k hk).elim (fun e => e.elim) id
    have z02 : w.heap.size ≤ w2.heap.size := Z2.out
    have zg := lt_of_block HG.out.head
    have him : IMap .i64 w5 sm [] := ⟨#[], 0, k5.at HG.out.map (fun h => h), rfl, MapKept.stamped_empty 0⟩
    have zm : sm < w4.heap.size := lt_of_block HG.out.map
    have emp : ∀ {s : Nat} {x : GSl}, (List.replicate 64 (⟨0, 0, 0, 0⟩ : GSl))[s]? = some x → x = ⟨0, 0, 0, 0⟩ := fun h => by
      rw [List.getElem?_replicate] at h
      split at h
      · exact (Option.some.inj h).symm
      · cases h
    have er : (List.replicate 64 (⟨0, 0, 0, 0⟩ : GSl)).map GSl.r = List.replicate 64 ⟨false, false, 0, 0⟩ := by rw [List.map_replicate]; rfl
    refine ⟨⟨List.replicate 64 ⟨0, 0, 0, 0⟩, List.replicate m 0, [], []⟩, [], ⟨⟨[], [], ⟨⟨fun k => F k ∨ k = g ∨ k = sm, fun k => G k ∨ k = h, ⟨_, [], ObjsB.init ⟨F, (HM3.out.keep K4.out (fun _ _ h => h)).keep k5 (fun _ _ h => h), ⟨k5.at HG.out.head (fun h => h), him⟩, nFge g (by omega), nFge sm (by omega), fun _ => Iff.rfl⟩, rfl, by simp [mkeys], fun k => ?_⟩, ⟨_, ObjsB.init ⟨G, ⟨HR4.out.keep k5 (fun _ _ h => h), by rw [er]; exact hh, nGge h (by omega)⟩, fun _ => Iff.rfl⟩, rfl⟩, fun k hk => ?_, fun k hk => ?_⟩, fun k hk => by simp [RowL, Value.ownBlock] at hk, (HO3.out.1.trans K4.out (fun _ _ h => h)).trans k5 (fun _ _ h => h)⟩, rfl, rfl⟩, ⟨by simp, by have := HMM.out; simp; omega, fun x hx => by rw [List.eq_of_mem_replicate hx]; omega, fun i hi => ⟨0, by omega, ?_⟩, fun i o b ho => by simp at ho, by simp, fun i o ho => by simp at ho, fun s x hx => by rw [emp hx]; exact ⟨by simp, by simp, by simp, fun h => absurd rfl h⟩⟩, rfl⟩, by simp, World.ownsRow_nil _ _ _ _⟩
    · show none = _
      split
      · rfl
      · cases hx : (List.replicate 64 (⟨0, 0, 0, 0⟩ : GSl))[k.toNat]? with
        | none => rfl
        | some x => rw [emp hx]; rfl
    · refine ⟨fun hB => ?_, fun hl => by simp [RowL, Value.ownBlock] at hl, ?_⟩
      · rcases hk with e | e | e
        · have := LF.out k e
          rcases hB with e' | e'
          · have := geG k e'; omega
          · omega
        · rcases hB with e' | e'
          · have := ltG k e'; omega
          · omega
        · rcases hB with e' | e'
          · have := ltG k e'; omega
          · omega
      · rcases hk with e | e | e
        · exact geF k e
        · omega
        · omega
    · refine ⟨fun hl => by simp [RowL, Value.ownBlock] at hl, ?_⟩
      rcases hk with e | e
      · have := geG k e; omega
      · omega
    · have : bN + 4 * i < m := by have := HMM.out; omega
      simp [this]
  have HS0 := hid hS0
  clear hS0 hh k5 l4 HG K4 HR4 LL HM3 HO3 HR FG LF HE he HK
  go_wp2
  go_loopw [15, 16] (fun v' i wr => ∃ (k : Nat) (v : Value), k ≤ l.length ∧ i = .int .i64 k ∧ v' = v ∧ Hid (SJ w g sm mb h rb bN nN k v wr)) (fun _ i _ => l.length - (intOf i).toNat)
  case atStart => exact ⟨0, _, Nat.zero_le _, rfl, rfl, HS0⟩
  case round =>
    obtain ⟨k, v, hk, rfl, hvv, HR⟩ := hrel
    obtain rfl : v = _ := hvv.symm
    clear HS0
    by_cases hlt : k < l.length
    · obtain ⟨x, hx⟩ : ∃ x, l[k]? = some x := ⟨_, List.getElem?_eq_getElem hlt⟩
      obtain ⟨w1', w2', w3', w4', w5', w6'⟩ := HW.out x (List.mem_of_getElem? hx)
      obtain ⟨xb, xo, xc, hve, hc⟩ := Rd.cell HD.out (by omega)
      simp only [Value.slice.injEq] at hve
      obtain ⟨rfl, -, rfl⟩ := hve
      obtain ⟨x0, x1⟩ := u8_wf w1'
      have hkk : Keep Nil w wr := HR.out.own
      have q : ∀ j u, x.cells[j]? = some u → wr.cell? ⟨xb, xo + k * 6 + j, none⟩ = some u := fun j u hu => by rw [Nat.add_assoc]; exact hkk.cell (hc _ _ (eveCells_at hx hu)) (fun h => h)
      have q0 : wr.cell? ⟨xb, xo + k * 6, none⟩ = some (.int .u8 x.d) := q 0 _ rfl
      have q1 : wr.cell? ⟨xb, xo + k * 6 + 1, none⟩ = some (.int .i64 x.t) := q 1 _ rfl
      have q2 : wr.cell? ⟨xb, xo + k * 6 + 2, none⟩ = some (.int .i64 x.s) := q 2 _ rfl
      have q3 : wr.cell? ⟨xb, xo + k * 6 + 3, none⟩ = some (.int .i64 x.v) := q 3 _ rfl
      have q4 : wr.cell? ⟨xb, xo + k * 6 + 4, none⟩ = some (.int .i64 x.r) := q 4 _ rfl
      have q5 : wr.cell? ⟨xb, xo + k * 6 + 5, none⟩ = some (.int .u64 x.e) := q 5 _ rfl
      clear q hc hx hkk
      by_cases d0 : x.d % 6 = 0
      · have e0 : (x.d % 6 == 0) = true := beq_iff_eq.2 d0
        clear d0
        obtain ⟨S, rows, hj0, hlo, hrow⟩ := HR.out
        have hJ := SJ.boxed (o := .cells #[.int .u8 x.d, .int .i64 x.t, .int .i64 x.s, .int .i64 x.v, .int .i64 x.r, .int .u64 x.e] 122) hj0
        have hxb := heap_alloc_new wr (.cells #[.int .u8 x.d, .int .i64 x.t, .int .i64 x.s, .int .i64 x.v, .int .i64 x.r, .int .u64 x.e] 122)
        have hrow1 := hrow.alloc (.cells #[.int .u8 x.d, .int .i64 x.t, .int .i64 x.s, .int .i64 x.v, .int .i64 x.r, .int .u64 x.e] 122)
        have hs1 : SJ w g sm mb h rb bN nN (k + 1) v (wr.alloc (.cells #[.int .u8 x.d, .int .i64 x.t, .int .i64 x.s, .int .i64 x.v, .int .i64 x.r, .int .u64 x.e] 122)) := SJ.back (hJ.mono (by omega)) (by omega) (Keep.refl _ _) hrow1
        have hcase := gjenter_cases hJ x.t x.s x.v
        rcases hcase with ⟨e0, he0, hA, hB⟩ | hok
        · have HA := hid hA
          have HB := hid hB
          have de : (e0 != e0) = false := by simp
          have HSJ := hid hs1
          have HS9 := hid hs1
          clear hA hB hJ hs1
          go_wp2_with fail
          refine HA.out.mono ?_
          rintro e w6 ⟨rfl, rfl⟩
          go_wp2_with fail
          refine HB.out.mono ?_
          rintro e w6 ⟨rfl, rfl⟩
          clear HA HB
          have HA := hid (sjopen HSJ.out hn9)
          clear HSJ
          go_wp2_with fail
          refine HA.out.mono ?_
          rintro e w8 ⟨li, v8, rfl, rd8, k8, lL, hb8⟩
          have HB := hid (hb8 w8 (Keep.refl _ _))
          have S8 := hid (HS9.out.quiet k8)
          have RD8 := hid rd8
          clear HA rd8 k8 hb8 HS9
          go_wp2_with fail
          refine HB.out.mono ?_
          rintro e w9 ⟨v9, rfl, rd9, k9⟩
          have S9 := hid (S8.out.quiet k9)
          have RD9 := hid (rd_keep RD8.out k9 (fun _ _ h => h))
          have RE9 := hid rd9
          clear rd9 k9 S8 RD8 HB
          go_wp2_with fail
          refine (eqI_yes _ _ li _ RD9.out RE9.out (by omega)).mono ?_
          rintro e w10 ⟨rfl, k10⟩
          have S10 := hid (S9.out.quiet k10)
          clear k10 S9 RD9 RE9
          go_wp2
          go_roundw
          case rel => exact ⟨k + 1, _, by omega, by go_num, rfl, S10⟩
          case measure => simp [intOf]; omega
        · obtain ⟨t0, t1, v0, v1, i, hi, z, hz, hph⟩ := hok
          obtain ⟨vN, hvN⟩ := Int.eq_ofNat_of_zero_le v0
          have ha := gjenter_ok hJ hb hn0 hn1 t0 t1 (v := vN) (by omega) hz hph
          rw [← hi, ← hvN] at ha
          have HA := hid ha
          have HXB := hid hxb
          have ROW1 := hid hrow1
          clear ha hj0 hJ hs1 hxb hrow hrow1 hz hi hph hvN
          go_wp2_with fail
          refine HA.out.mono ?_
          rintro e w6 ⟨ea, rfl, k6, hb⟩
          have hx6 := k6.loc HXB.out (.inr rfl)
          have y1 : w6.cell? ⟨wr.heap.size, 1, none⟩ = some (.int .i64 x.t) := by rw [cell_of hx6]; rfl
          have y2 : w6.cell? ⟨wr.heap.size, 2, none⟩ = some (.int .i64 x.s) := by rw [cell_of hx6]; rfl
          have y3 : w6.cell? ⟨wr.heap.size, 3, none⟩ = some (.int .i64 x.v) := by rw [cell_of hx6]; rfl
          have HB := hid hb
          clear hb hx6 k6 HA
          go_wp2_with fail
          refine HB.out.mono ?_
          rintro e w7 ⟨eb, rfl, hj, kk⟩
          have J2 := hid hj
          have ROW := hid (row_keep ROW1.out kk (fun q hq hO => hO.1 (.inl hq)))
          clear hj kk ROW1 HXB HB y1 y2 y3
          go_wp2_with (at_builtin; refine wpList_app _ rfl (.tmp 155) (.tmp 159) 121 rfl 128 _ 4 32 Try.underlying121 infoOp rfl (by decide) v rows.length (opsCells rows) rfl ?own _ 1 (opCells (ea, eb, false)) rfl ?rd ?one ?byt ?len ?_)
          case own => exact ROW.out.alloc _
          case rd => exact rd_new _ _ _ _ _ _
          case one => simp [opCells, Value.oneCell']
          case byt => omega
          case len => unfold maxLen; omega
          intro a' c' w8 ho hg hs
          have hsj : SJ w g sm mb h rb bN nN (k + 1) (.slice a' (rows.length + 1) c') w8 := by
            have kg : Keep (RowL v) w7 w8 := Keep.grown ((Keep.refl (RowL v) w7).alloc _) hg (fun j hj => .inl hj)
            exact SJ.grown J2.out (by omega) kg (by rw [List.length_append, opsCells_snoc]; exact ho) (fun q hq => (hs q hq).elim .inl (fun h => .inr (by simp at h; omega)))
          have HSJ := hid hsj
          have HS9 := hid hsj
          clear ho hg hs hsj J2 ROW
          have HA := hid (sjopen HSJ.out hn9)
          clear HSJ
          go_wp2_with fail
          refine HA.out.mono ?_
          rintro e w8 ⟨li, v8, rfl, rd8, k8, lL, hb8⟩
          have HB := hid (hb8 w8 (Keep.refl _ _))
          have S8 := hid (HS9.out.quiet k8)
          have RD8 := hid rd8
          clear HA rd8 k8 hb8 HS9
          go_wp2_with fail
          refine HB.out.mono ?_
          rintro e w9 ⟨v9, rfl, rd9, k9⟩
          have S9 := hid (S8.out.quiet k9)
          have RD9 := hid (rd_keep RD8.out k9 (fun _ _ h => h))
          have RE9 := hid rd9
          clear rd9 k9 S8 RD8 HB
          go_wp2_with fail
          refine (eqI_yes _ _ li _ RD9.out RE9.out (by omega)).mono ?_
          rintro e w10 ⟨rfl, k10⟩
          have S10 := hid (S9.out.quiet k10)
          clear k10 S9 RD9 RE9
          go_wp2
          go_roundw
          case rel => exact ⟨k + 1, _, by omega, by go_num, rfl, S10⟩
          case measure => simp [intOf]; omega
      by_cases d1 : x.d % 6 = 1
      · have e0 : (x.d % 6 == 0) = false := beq_eq_false_iff_ne.2 d0
        have e1 : (x.d % 6 == 1) = true := beq_iff_eq.2 d1
        clear d0 d1
        obtain ⟨S, rows, hj0, hlo, hrow⟩ := HR.out
        have hJ := SJ.boxed (o := .cells #[.int .u8 x.d, .int .i64 x.t, .int .i64 x.s, .int .i64 x.v, .int .i64 x.r, .int .u64 x.e] 122) hj0
        have hxb := heap_alloc_new wr (.cells #[.int .u8 x.d, .int .i64 x.t, .int .i64 x.s, .int .i64 x.v, .int .i64 x.r, .int .u64 x.e] 122)
        have hrow1 := hrow.alloc (.cells #[.int .u8 x.d, .int .i64 x.t, .int .i64 x.s, .int .i64 x.v, .int .i64 x.r, .int .u64 x.e] 122)
        have hs1 : SJ w g sm mb h rb bN nN (k + 1) v (wr.alloc (.cells #[.int .u8 x.d, .int .i64 x.t, .int .i64 x.s, .int .i64 x.v, .int .i64 x.r, .int .u64 x.e] 122)) := SJ.back (hJ.mono (by omega)) (by omega) (Keep.refl _ _) hrow1
        have hcase := gjexit_cases hJ x.t x.s
        rcases hcase with ⟨e0, he0, hA, hB⟩ | hok
        · have HA := hid hA
          have HB := hid hB
          have de : (e0 != e0) = false := by simp
          have HSJ := hid hs1
          have HS9 := hid hs1
          clear hA hB hJ hs1
          go_wp2_with fail
          refine HA.out.mono ?_
          rintro e w6 ⟨rfl, rfl⟩
          go_wp2_with fail
          refine HB.out.mono ?_
          rintro e w6 ⟨rfl, rfl⟩
          clear HA HB
          have HA := hid (sjopen HSJ.out hn9)
          clear HSJ
          go_wp2_with fail
          refine HA.out.mono ?_
          rintro e w8 ⟨li, v8, rfl, rd8, k8, lL, hb8⟩
          have HB := hid (hb8 w8 (Keep.refl _ _))
          have S8 := hid (HS9.out.quiet k8)
          have RD8 := hid rd8
          clear HA rd8 k8 hb8 HS9
          go_wp2_with fail
          refine HB.out.mono ?_
          rintro e w9 ⟨v9, rfl, rd9, k9⟩
          have S9 := hid (S8.out.quiet k9)
          have RD9 := hid (rd_keep RD8.out k9 (fun _ _ h => h))
          have RE9 := hid rd9
          clear rd9 k9 S8 RD8 HB
          go_wp2_with fail
          refine (eqI_yes _ _ li _ RD9.out RE9.out (by omega)).mono ?_
          rintro e w10 ⟨rfl, k10⟩
          have S10 := hid (S9.out.quiet k10)
          clear k10 S9 RD9 RE9
          go_wp2
          go_roundw
          case rel => exact ⟨k + 1, _, by omega, by go_num, rfl, S10⟩
          case measure => simp [intOf]; omega
        · obtain ⟨t0, t1, i, hi, z, hz, hph⟩ := hok
          have ha := gjexit_ok hJ hb hn1 (by omega) t0 t1 hz hph
          rw [← hi] at ha
          have HA := hid ha
          have HXB := hid hxb
          have ROW1 := hid hrow1
          clear ha hj0 hJ hs1 hxb hrow hrow1 hz hi hph
          go_wp2_with fail
          refine HA.out.mono ?_
          rintro e w6 ⟨rfl, k6, hb⟩
          have hx6 := k6.loc HXB.out (.inr rfl)
          have y1 : w6.cell? ⟨wr.heap.size, 1, none⟩ = some (.int .i64 x.t) := by rw [cell_of hx6]; rfl
          have y2 : w6.cell? ⟨wr.heap.size, 2, none⟩ = some (.int .i64 x.s) := by rw [cell_of hx6]; rfl
          have HB := hid hb
          clear hb hx6 k6 HA
          go_wp2_with fail
          refine HB.out.mono ?_
          rintro e w7 ⟨rfl, S7, hj, kk⟩
          have hsj := SJ.back hj (by omega) kk ROW1.out
          have HSJ := hid hsj
          have HS9 := hid hsj
          clear hj kk hsj HB y1 y2 HXB ROW1
          have HA := hid (sjopen HSJ.out hn9)
          clear HSJ
          go_wp2_with fail
          refine HA.out.mono ?_
          rintro e w8 ⟨li, v8, rfl, rd8, k8, lL, hb8⟩
          have HB := hid (hb8 w8 (Keep.refl _ _))
          have S8 := hid (HS9.out.quiet k8)
          have RD8 := hid rd8
          clear HA rd8 k8 hb8 HS9
          go_wp2_with fail
          refine HB.out.mono ?_
          rintro e w9 ⟨v9, rfl, rd9, k9⟩
          have S9 := hid (S8.out.quiet k9)
          have RD9 := hid (rd_keep RD8.out k9 (fun _ _ h => h))
          have RE9 := hid rd9
          clear rd9 k9 S8 RD8 HB
          go_wp2_with fail
          refine (eqI_yes _ _ li _ RD9.out RE9.out (by omega)).mono ?_
          rintro e w10 ⟨rfl, k10⟩
          have S10 := hid (S9.out.quiet k10)
          clear k10 S9 RD9 RE9
          go_wp2
          go_roundw
          case rel => exact ⟨k + 1, _, by omega, by go_num, rfl, S10⟩
          case measure => simp [intOf]; omega
      by_cases d2 : x.d % 6 = 2
      · have e0 : (x.d % 6 == 0) = false := beq_eq_false_iff_ne.2 d0
        have e1 : (x.d % 6 == 1) = false := beq_eq_false_iff_ne.2 d1
        have e2 : (x.d % 6 == 2) = true := beq_iff_eq.2 d2
        clear d0 d1 d2
        obtain ⟨S, rows, hj0, hlo, hrow⟩ := HR.out
        have hJ := SJ.boxed (o := .cells #[.int .u8 x.d, .int .i64 x.t, .int .i64 x.s, .int .i64 x.v, .int .i64 x.r, .int .u64 x.e] 122) hj0
        have hxb := heap_alloc_new wr (.cells #[.int .u8 x.d, .int .i64 x.t, .int .i64 x.s, .int .i64 x.v, .int .i64 x.r, .int .u64 x.e] 122)
        have hrow1 := hrow.alloc (.cells #[.int .u8 x.d, .int .i64 x.t, .int .i64 x.s, .int .i64 x.v, .int .i64 x.r, .int .u64 x.e] 122)
        have hs1 : SJ w g sm mb h rb bN nN (k + 1) v (wr.alloc (.cells #[.int .u8 x.d, .int .i64 x.t, .int .i64 x.s, .int .i64 x.v, .int .i64 x.r, .int .u64 x.e] 122)) := SJ.back (hJ.mono (by omega)) (by omega) (Keep.refl _ _) hrow1
        have hcase := gjwait_cases (g := g) (h := h) (wr := (wr.alloc (.cells #[.int .u8 x.d, .int .i64 x.t, .int .i64 x.s, .int .i64 x.v, .int .i64 x.r, .int .u64 x.e] 122))) x.t x.e
        rcases hcase with ⟨e0, he0, hA, hB⟩ | hok
        · have HA := hid hA
          have HB := hid hB
          have de : (e0 != e0) = false := by simp
          have HSJ := hid hs1
          have HS9 := hid hs1
          clear hA hB hJ hs1
          go_wp2_with fail
          refine HA.out.mono ?_
          rintro e w6 ⟨rfl, rfl⟩
          go_wp2_with fail
          refine HB.out.mono ?_
          rintro e w6 ⟨rfl, rfl⟩
          clear HA HB
          have HA := hid (sjopen HSJ.out hn9)
          clear HSJ
          go_wp2_with fail
          refine HA.out.mono ?_
          rintro e w8 ⟨li, v8, rfl, rd8, k8, lL, hb8⟩
          have HB := hid (hb8 w8 (Keep.refl _ _))
          have S8 := hid (HS9.out.quiet k8)
          have RD8 := hid rd8
          clear HA rd8 k8 hb8 HS9
          go_wp2_with fail
          refine HB.out.mono ?_
          rintro e w9 ⟨v9, rfl, rd9, k9⟩
          have S9 := hid (S8.out.quiet k9)
          have RD9 := hid (rd_keep RD8.out k9 (fun _ _ h => h))
          have RE9 := hid rd9
          clear rd9 k9 S8 RD8 HB
          go_wp2_with fail
          refine (eqI_yes _ _ li _ RD9.out RE9.out (by omega)).mono ?_
          rintro e w10 ⟨rfl, k10⟩
          have S10 := hid (S9.out.quiet k10)
          clear k10 S9 RD9 RE9
          go_wp2
          go_roundw
          case rel => exact ⟨k + 1, _, by omega, by go_num, rfl, S10⟩
          case measure => simp [intOf]; omega
        · obtain ⟨t0, t1, hne⟩ := hok
          obtain ⟨e0', e1'⟩ := u64_wf w6'
          obtain ⟨sN, hsN⟩ := Int.eq_ofNat_of_zero_le e0'
          have ha := gjwait_ok hJ hb hn0 hn1 t0 t1 (set := sN) (by omega) (by omega)
          rw [← hsN] at ha
          have HA := hid ha
          have HXB := hid hxb
          have ROW1 := hid hrow1
          clear ha hj0 hJ hs1 hxb hrow hrow1 hne hsN
          go_wp2_with fail
          refine HA.out.mono ?_
          rintro e w6 ⟨ea, rfl, k6, hb⟩
          have hx6 := k6.loc HXB.out (.inr rfl)
          have y1 : w6.cell? ⟨wr.heap.size, 1, none⟩ = some (.int .i64 x.t) := by rw [cell_of hx6]; rfl
          have y5 : w6.cell? ⟨wr.heap.size, 5, none⟩ = some (.int .u64 x.e) := by rw [cell_of hx6]; rfl
          have HB := hid hb
          clear hb hx6 k6 HA
          go_wp2_with fail
          refine HB.out.mono ?_
          rintro e w7 ⟨eb, rfl, hj, kk⟩
          have J2 := hid hj
          have ROW := hid (row_keep ROW1.out kk (fun q hq hO => hO.1 (.inl hq)))
          clear hj kk ROW1 HXB HB y1 y5
          go_wp2_with (at_builtin; refine wpList_app _ rfl (.tmp 221) (.tmp 225) 121 rfl 128 _ 4 32 Try.underlying121 infoOp rfl (by decide) v rows.length (opsCells rows) rfl ?own _ 1 (opCells (ea, eb, true)) rfl ?rd ?one ?byt ?len ?_)
          case own => exact ROW.out.alloc _
          case rd => exact rd_new _ _ _ _ _ _
          case one => simp [opCells, Value.oneCell']
          case byt => omega
          case len => unfold maxLen; omega
          intro a' c' w8 ho hg hs
          have hsj : SJ w g sm mb h rb bN nN (k + 1) (.slice a' (rows.length + 1) c') w8 := by
            have kg : Keep (RowL v) w7 w8 := Keep.grown ((Keep.refl (RowL v) w7).alloc _) hg (fun j hj => .inl hj)
            exact SJ.grown J2.out (by omega) kg (by rw [List.length_append, opsCells_snoc]; exact ho) (fun q hq => (hs q hq).elim .inl (fun h => .inr (by simp at h; omega)))
          have HSJ := hid hsj
          have HS9 := hid hsj
          clear ho hg hs hsj J2 ROW
          have HA := hid (sjopen HSJ.out hn9)
          clear HSJ
          go_wp2_with fail
          refine HA.out.mono ?_
          rintro e w8 ⟨li, v8, rfl, rd8, k8, lL, hb8⟩
          have HB := hid (hb8 w8 (Keep.refl _ _))
          have S8 := hid (HS9.out.quiet k8)
          have RD8 := hid rd8
          clear HA rd8 k8 hb8 HS9
          go_wp2_with fail
          refine HB.out.mono ?_
          rintro e w9 ⟨v9, rfl, rd9, k9⟩
          have S9 := hid (S8.out.quiet k9)
          have RD9 := hid (rd_keep RD8.out k9 (fun _ _ h => h))
          have RE9 := hid rd9
          clear rd9 k9 S8 RD8 HB
          go_wp2_with fail
          refine (eqI_yes _ _ li _ RD9.out RE9.out (by omega)).mono ?_
          rintro e w10 ⟨rfl, k10⟩
          have S10 := hid (S9.out.quiet k10)
          clear k10 S9 RD9 RE9
          go_wp2
          go_roundw
          case rel => exact ⟨k + 1, _, by omega, by go_num, rfl, S10⟩
          case measure => simp [intOf]; omega
      have e0 : (x.d % 6 == 0) = false := beq_eq_false_iff_ne.2 d0
      have e1 : (x.d % 6 == 1) = false := beq_eq_false_iff_ne.2 d1
      have e2 : (x.d % 6 == 2) = false := beq_eq_false_iff_ne.2 d2
      clear d0 d1 d2
      obtain ⟨S, rows, hj0, hlo, hrow⟩ := HR.out
      have hJ := SJ.boxed (o := .cells #[.int .u8 x.d, .int .i64 x.t, .int .i64 x.s, .int .i64 x.v, .int .i64 x.r, .int .u64 x.e] 122) hj0
      have hxb := heap_alloc_new wr (.cells #[.int .u8 x.d, .int .i64 x.t, .int .i64 x.s, .int .i64 x.v, .int .i64 x.r, .int .u64 x.e] 122)
      have hrow1 := hrow.alloc (.cells #[.int .u8 x.d, .int .i64 x.t, .int .i64 x.s, .int .i64 x.v, .int .i64 x.r, .int .u64 x.e] 122)
      have hs1 : SJ w g sm mb h rb bN nN (k + 1) v (wr.alloc (.cells #[.int .u8 x.d, .int .i64 x.t, .int .i64 x.s, .int .i64 x.v, .int .i64 x.r, .int .u64 x.e] 122)) := SJ.back (hJ.mono (by omega)) (by omega) (Keep.refl _ _) hrow1
      obtain ⟨va, vc, rfl⟩ := row_slice hrow
      by_cases ho : rows.length = 0
      · have dz : decide (0 < (rows.length : Int)) = false := decide_eq_false (by omega)
        have dz' : decide (0 < rows.length) = false := decide_eq_false (by omega)
        have HSJ := hid hs1
        have HS9 := hid hs1
        clear ho hj0 hJ hs1 hxb hrow hrow1
        have HA := hid (sjopen HSJ.out hn9)
        clear HSJ
        go_wp2_with fail
        refine HA.out.mono ?_
        rintro e w8 ⟨li, v8, rfl, rd8, k8, lL, hb8⟩
        have HB := hid (hb8 w8 (Keep.refl _ _))
        have S8 := hid (HS9.out.quiet k8)
        have RD8 := hid rd8
        clear HA rd8 k8 hb8 HS9
        go_wp2_with fail
        refine HB.out.mono ?_
        rintro e w9 ⟨v9, rfl, rd9, k9⟩
        have S9 := hid (S8.out.quiet k9)
        have RD9 := hid (rd_keep RD8.out k9 (fun _ _ h => h))
        have RE9 := hid rd9
        clear rd9 k9 S8 RD8 HB
        go_wp2_with fail
        refine (eqI_yes _ _ li _ RD9.out RE9.out (by omega)).mono ?_
        rintro e w10 ⟨rfl, k10⟩
        have S10 := hid (S9.out.quiet k10)
        clear k10 S9 RD9 RE9
        go_wp2
        go_roundw
        case rel => exact ⟨k + 1, _, by omega, by go_num, rfl, S10⟩
        case measure => simp [intOf]; omega
      · have dz : decide (0 < (rows.length : Int)) = true := decide_eq_true (by omega)
        have dz' : decide (0 < rows.length) = true := decide_eq_true (by omega)
        obtain ⟨r0, r1⟩ := i64_wf w5'
        obtain ⟨t, ht⟩ : ∃ t : Nat, x.r % (rows.length : Int) = t := ⟨(x.r % (rows.length : Int)).toNat, by have := Int.emod_nonneg x.r (show (rows.length : Int) ≠ 0 by omega); omega⟩
        have htl : t < rows.length := by have := Int.emod_lt_of_pos x.r (show (0 : Int) < rows.length by omega); omega
        obtain ⟨o, hot⟩ : ∃ o, rows[t]? = some o := ⟨_, List.getElem?_eq_getElem htl⟩
        have hi := index18_any x.r (rows.length : Int) r0 r1 (by omega) (by omega) (wr.alloc (.cells #[.int .u8 x.d, .int .i64 x.t, .int .i64 x.s, .int .i64 x.v, .int .i64 x.r, .int .u64 x.e] 122))
        rw [ht] at hi
        have HI := hid hi
        have HSt := hid (gjstep hJ (by omega) (by omega) (by omega) hot)
        obtain ⟨q, rfl⟩ : ∃ q, va = some ⟨q, 0, none⟩ := by
          rcases hrow.2 with ⟨hv, h0⟩ | ⟨q, cap, cur, hv, _⟩
          · omega
          · simp only [Value.slice.injEq] at hv; exact ⟨q, hv.1⟩
        have cell : ∀ j u, (opCells o)[j]? = some u → ((wr.alloc (.cells #[.int .u8 x.d, .int .i64 x.t, .int .i64 x.s, .int .i64 x.v, .int .i64 x.r, .int .u64 x.e] 122))).cell? ⟨q, t * 4 + j, none⟩ = some u := fun j u hu => by
          have hj : j < 4 := by have := (List.getElem?_eq_some_iff.1 hu).1; rw [opCells_len] at this; exact this
          rw [hrow1.cellAt (t * 4 + j) (by omega)]
          have := flatn_at opCells 4 opCells_len rows hot hj
          exact this.trans hu
        have tz0 : (0 : Int) ≤ (t : Int) := by omega
        have tz1 : (t : Int) < (rows.length : Int) := by omega
        have ROW1 := hid hrow1
        have CELL := hid cell
        clear hi hot ht ho hj0 hJ hs1 hxb hrow hrow1 cell
        go_wp2_with fail
        refine HI.out.mono ?_
        rintro e w6 ⟨rfl, rfl⟩
        obtain ⟨oa, ob, ok⟩ := o
        cases ok with
        | false =>
          have p0 := CELL.out 0 _ rfl
          have p1 := CELL.out 1 _ rfl
          have p2 := CELL.out 2 _ rfl
          have p3 := CELL.out 3 _ rfl
          simp only [Nat.add_zero] at p0
          clear CELL HI
          go_wp2_with fail
          refine HSt.out.mono ?_
          rintro e w7 ⟨rfl, S7, hj, kk⟩
          have hsj := SJ.back hj (by omega) kk ROW1.out
          have HSJ := hid hsj
          have HS9 := hid hsj
          clear hj kk hsj HSt p0 p1 p2 p3 ROW1
          have HA := hid (sjopen HSJ.out hn9)
          clear HSJ
          go_wp2_with fail
          refine HA.out.mono ?_
          rintro e w8 ⟨li, v8, rfl, rd8, k8, lL, hb8⟩
          have HB := hid (hb8 w8 (Keep.refl _ _))
          have S8 := hid (HS9.out.quiet k8)
          have RD8 := hid rd8
          clear HA rd8 k8 hb8 HS9
          go_wp2_with fail
          refine HB.out.mono ?_
          rintro e w9 ⟨v9, rfl, rd9, k9⟩
          have S9 := hid (S8.out.quiet k9)
          have RD9 := hid (rd_keep RD8.out k9 (fun _ _ h => h))
          have RE9 := hid rd9
          clear rd9 k9 S8 RD8 HB
          go_wp2_with fail
          refine (eqI_yes _ _ li _ RD9.out RE9.out (by omega)).mono ?_
          rintro e w10 ⟨rfl, k10⟩
          have S10 := hid (S9.out.quiet k10)
          clear k10 S9 RD9 RE9
          go_wp2
          go_roundw
          case rel => exact ⟨k + 1, _, by omega, by go_num, rfl, S10⟩
          case measure => simp [intOf]; omega
        | true =>
          have p0 := CELL.out 0 _ rfl
          have p1 := CELL.out 1 _ rfl
          have p2 := CELL.out 2 _ rfl
          have p3 := CELL.out 3 _ rfl
          simp only [Nat.add_zero] at p0
          clear CELL HI
          go_wp2_with fail
          refine HSt.out.mono ?_
          rintro e w7 ⟨rfl, S7, hj, kk⟩
          have hsj := SJ.back hj (by omega) kk ROW1.out
          have HSJ := hid hsj
          have HS9 := hid hsj
          clear hj kk hsj HSt p0 p1 p2 p3 ROW1
          have HA := hid (sjopen HSJ.out hn9)
          clear HSJ
          go_wp2_with fail
          refine HA.out.mono ?_
          rintro e w8 ⟨li, v8, rfl, rd8, k8, lL, hb8⟩
          have HB := hid (hb8 w8 (Keep.refl _ _))
          have S8 := hid (HS9.out.quiet k8)
          have RD8 := hid rd8
          clear HA rd8 k8 hb8 HS9
          go_wp2_with fail
          refine HB.out.mono ?_
          rintro e w9 ⟨v9, rfl, rd9, k9⟩
          have S9 := hid (S8.out.quiet k9)
          have RD9 := hid (rd_keep RD8.out k9 (fun _ _ h => h))
          have RE9 := hid rd9
          clear rd9 k9 S8 RD8 HB
          go_wp2_with fail
          refine (eqI_yes _ _ li _ RD9.out RE9.out (by omega)).mono ?_
          rintro e w10 ⟨rfl, k10⟩
          have S10 := hid (S9.out.quiet k10)
          clear k10 S9 RD9 RE9
          go_wp2
          go_roundw
          case rel => exact ⟨k + 1, _, by omega, by go_num, rfl, S10⟩
          case measure => simp [intOf]; omega
    · obtain rfl : k = l.length := by omega
      obtain ⟨S, rows, hJ, hlo, hrow⟩ := HR.out
      obtain ⟨pb, rq, T, -⟩ := hJ.two
      obtain ⟨A, F, ml, hP⟩ := T.has1
      obtain ⟨B, G, hR⟩ := T.has2
      change GPAt _ _ _ _ _ _ _ S pb _ _ at hP
      change GRAt _ _ _ _ _ _ S rq _ at hR
      obtain ⟨F2, hs⟩ := hP.sys
      obtain ⟨G2, hs2, -⟩ := hR.sys
      have hmem := hs.mem
      obtain ⟨gw, wc, la, lc, hr, hF⟩ := hs2.mem.rep
      have hll : S.log.length < 1000000000000 := by have := hJ.ok.llog; omega
      have hown := hJ.own
      clear hP hR hs hs2 T
      have s1 := hr.cell1
      have HRR := hid hr
      have HMM2 := hid hmem
      have HOW := hid hown
      obtain ⟨lg, hlg⟩ : ∃ lg, lg = S.log := ⟨_, rfl⟩
      rw [← hlg] at HRR HMM2 s1 hll
      have hll' : lg.length ≤ 1000000000000 := by omega
      clear hJ hr hF hrow HR hlt hk hlo hlg hmem
      obtain ⟨wo, rfl⟩ : ∃ wo : World, wo = wr := ⟨_, rfl⟩
      go_wp2
      go_region_held3 (fun w' => w'.cell? ⟨rb, 1, none⟩ = some (.slice la lg.length lc)) (go_keep)
        (first
          | (go_at_call 47; refine (log_all (HMM2.out.keep (Keep.refl Nil wo).drew (fun _ _ h => h)) hll).mono ?_; rintro e wA ⟨gA, cA, rfl, rdA, kA', -⟩; have kA : Keep Nil wo wA := (Keep.refl Nil wo).drew.trans kA' (fun _ _ h => h); have pA1 := kA.cell s1 (fun h => h); have RA := hid rdA; clear rdA kA')
          | (go_at_call 46; refine (eqA_yes _ _ lg _ RA.out (rd_keep (row_rd HRR.out.lrow) kA (fun _ _ h => h)) hll').mono ?_; rintro e wD ⟨rfl, kD'⟩; have kD : Keep Nil wo wD := kA.trans kD' (fun _ _ h => h); have pD1 := kD.cell s1 (fun h => h); clear kD'))
      go_wp2
      go_ret
      exact ⟨rfl, HOW.out.trans kD (fun _ _ h => h)⟩
set_option maxRecDepth 100000 in
set_option maxHeartbeats 4000000 in
theorem walk_steps (w : World) (base : Int) (_b0 : (Lit.int .i64 base).wf = true) (n : Int) (_b1 : (Lit.int .i64 n).wf = true) (v : Value) (l : List EvE) (hrd : Rd w 6 v l.length (eveCells l)) (hwf : ∀ x ∈ l, EvE.wf x) (hm : l.length ≤ maxLen) :
    Calls Try.prog 14 #[.int .i64 base, .int .i64 n, v] w fun e w' => e = .returned (.bool true) ∧ Keep Nil w w' := by
  obtain ⟨a, cc, rfl, -, -⟩ := id hrd
  unfold maxLen at hm
  by_cases h1 : n < 1
  · have d1 : decide (n < 1) = true := decide_eq_true h1
    clear h1 hwf hrd
    go_enter Try.func14, Try.ntmps14
    go_wp2
    go_ret
    exact ⟨rfl, Keep.refl _ _⟩
  have d1 : decide (n < 1) = false := decide_eq_false h1
  by_cases h2 : 9 < n
  · have d2 : decide (9 < n) = true := decide_eq_true h2
    clear h1 h2 hwf hrd
    go_enter Try.func14, Try.ntmps14
    go_wp2
    go_ret
    exact ⟨rfl, Keep.refl _ _⟩
  have d2 : decide (9 < n) = false := decide_eq_false h2
  by_cases h3 : base < 0
  · have d3 : decide (base < 0) = true := decide_eq_true h3
    clear h1 h2 h3 hwf hrd
    go_enter Try.func14, Try.ntmps14
    go_wp2
    go_ret
    exact ⟨rfl, Keep.refl _ _⟩
  have d3 : decide (base < 0) = false := decide_eq_false h3
  by_cases h4 : 20 < base
  · have d4 : decide (20 < base) = true := decide_eq_true h4
    clear h1 h2 h3 h4 hwf hrd
    go_enter Try.func14, Try.ntmps14
    go_wp2
    go_ret
    exact ⟨rfl, Keep.refl _ _⟩
  have d4 : decide (20 < base) = false := decide_eq_false h4
  by_cases h5 : 300 < l.length
  · have d5 : decide (300 < (l.length : Int)) = true := decide_eq_true (by omega)
    clear h1 h2 h3 h4 h5 hwf hrd
    go_enter Try.func14, Try.ntmps14
    go_wp2
    go_ret
    exact ⟨rfl, Keep.refl _ _⟩
  obtain ⟨bN, rfl⟩ := Int.eq_ofNat_of_zero_le (show 0 ≤ base by omega)
  obtain ⟨nN, rfl⟩ := Int.eq_ofNat_of_zero_le (show 0 ≤ n by omega)
  exact steps_ok bN nN (by omega) (by omega) (by omega) a cc l hrd hwf (by omega)
end
end Go.Proofs.Ytihgfklajhhikaa
