/- FullSteps: the walk. -/
import Derived.Test.YtckopbjejjeknaaFullJ3
import Derived.Test.YtckopbjejjeknaaSizesWalk
import Derived.Test.YtckopbjejjeknaaLogRd
import Derived.Test.YtckopbjejjeknaaKit
import Derived.Test.YtckopbjejjeknaaKitInts
import Derived.Test.YtckopbjejjeknaaDo
namespace Go.Lf
open Go.RowKit
/-- An event. -/
structure EvD where
  d : Int
  t : Int
  s : Int
  v : Int
  r : Int
  e : Int
def EvD.cells (x : EvD) : List Value := [.int .u8 x.d, .int .i64 x.t, .int .i64 x.s, .int .i64 x.v, .int .i64 x.r, .int .u64 x.e]
def EvD.wf (x : EvD) : Prop := (Lit.int .u8 x.d).wf = true ∧ (Lit.int .i64 x.t).wf = true ∧ (Lit.int .i64 x.s).wf = true ∧ (Lit.int .i64 x.v).wf = true ∧ (Lit.int .i64 x.r).wf = true ∧ (Lit.int .u64 x.e).wf = true
def evCells (l : List EvD) : List Value := l.flatMap EvD.cells
theorem evCells_at {l : List EvD} {k j : Nat} {x : EvD} {u : Value} (hx : l[k]? = some x) (hu : x.cells[j]? = some u) : (evCells l)[k * 6 + j]? = some u := flat_get (size := 6) (fun _ => rfl) hx hu
end Go.Lf
namespace Go.Proofs.Ytckopbjejjeknaa
open Go.RowKit Go.Lf
section
variable {w wr : World} {g nb bb mb h sb rb : Nat} {base : Int} {n : Nat}
theorem infoOp : (Try.prog.info? 106).map (fun i => (i.zero, i.size, i.bytes)) = some (some (.agg #[.pointer none, .pointer none, .pointer none, .pointer none]), 4, 32) := by kernel_rfl
/-- Between two events. -/
def SJ (w : World) (g nb bb mb h sb rb : Nat) (base : Int) (n k : Nat) (v : Value) (wr : World) : Prop :=
  ∃ F G c ws log ops, J w wr g nb bb mb h sb rb F G base n c ws log ops k ∧ ops.length ≤ k ∧ wr.ownsRow 0 106 4 v ops.length (opsCells ops) ∧ ∀ q, v.ownBlock = some q → ¬ F q ∧ ¬ G q ∧ w.heap.size ≤ q
theorem row_beyond {wr w' : World} {e : TypeId} {size m : Nat} {v : Value} {xs : List Value} (ho : wr.ownsRow 0 e size v m xs) (hk : ∀ (k : Nat) (cs : Array Value), v.ownBlock = some k → wr.heap[k]? = some (.cells cs e (0, 0)) → w'.heap[k]? = some (.cells cs e (0, 0))) : w'.ownsRow 0 e size v m xs := by
  refine ⟨ho.1, ?_⟩
  rcases ho.2 with hz | ⟨q, cap, cur, rfl, h1, h2, h3⟩
  · exact .inl hz
  · exact .inr ⟨q, cap, cur, rfl, h1, hk q cur rfl h2, h3⟩
theorem SJ.quiet {k : Nat} {v : Value} (hs : SJ w g nb bb mb h sb rb base n k v wr) {w' : World} (hk : Keep Nil wr w') : SJ w g nb bb mb h sb rb base n k v w' := by
  obtain ⟨F, G, c, ws, log, ops, h1, h2, h3, h4⟩ := hs
  exact ⟨F, G, c, ws, log, ops, h1.quiet hk, h2, row_keep h3 hk (fun _ _ h => h), h4⟩
theorem SJ.of_to {k : Nat} {v : Value} {F G : Nat → Prop} {ops : List OpD} {w' : World} (hlo : ops.length ≤ k) (hrow : wr.ownsRow 0 106 4 v ops.length (opsCells ops)) (hblk : ∀ q, v.ownBlock = some q → ¬ F q ∧ ¬ G q ∧ w.heap.size ≤ q) (hj : JTo w wr g nb bb mb h sb rb F G base n ops (k + 1) w') : SJ w g nb bb mb h sb rb base n (k + 1) v w' := by
  obtain ⟨F', G', c', ws', log', ops', h1, h2, h3, h4⟩ := hj
  have hin : ∀ q, v.ownBlock = some q → ∃ cs, wr.heap[q]? = some (.cells cs 106 (0, 0)) := fun q hq => by
    rcases hrow.2 with ⟨hv, _⟩ | ⟨q', cap, cur, hv, _, hc, _⟩
    · rw [hv] at hq; cases hq
    · rw [hv] at hq; simp only [Value.ownBlock, Option.some.injEq] at hq; subst hq; exact ⟨cur, hc⟩
  refine ⟨F', G', c', ws', log', ops', h1, by omega, ?_, fun q hq => ?_⟩
  · rw [h2, h3]
    exact row_beyond hrow (fun q cs hq hc => (h4 q cs hc (hblk q hq).1 (hblk q hq).2.1).1)
  · obtain ⟨cs, hc⟩ := hin q hq
    obtain ⟨-, e2, e3⟩ := h4 q cs hc (hblk q hq).1 (hblk q hq).2.1
    exact ⟨e2, e3, (hblk q hq).2.2⟩
theorem SJ.grown {k : Nat} {v v' : Value} {F G : Nat → Prop} {c : List (Int × Nat)} {ws : List Int} {log : List Acc} {ops : List OpD} {o : OpD} {w7 w8 : World} (hJ : J w w7 g nb bb mb h sb rb F G base n c ws log (ops ++ [o]) k) (hlo : ops.length + 1 ≤ k + 1)
    (hrow : w7.ownsRow 0 106 4 v ops.length (opsCells ops)) (hblk : ∀ q, v.ownBlock = some q → ¬ F q ∧ ¬ G q ∧ w.heap.size ≤ q) (hk : Keep (fun q => v.ownBlock = some q) w7 w8)
    (ho : w8.ownsRow 0 106 4 v' (ops ++ [o]).length (opsCells (ops ++ [o]))) (hn : ∀ q, v'.ownBlock = some q → v.ownBlock = some q ∨ w7.heap.size ≤ q) : SJ w g nb bb mb h sb rb base n (k + 1) v' w8 := by
  have hin : ∀ q, v.ownBlock = some q → ∃ cs, w7.heap[q]? = some (.cells cs 106 (0, 0)) := fun q hq => by
    rcases hrow.2 with ⟨hv, _⟩ | ⟨q', cap, cur, hv, _, hc, _⟩
    · rw [hv] at hq; cases hq
    · rw [hv] at hq; simp only [Value.ownBlock, Option.some.injEq] at hq; subst hq; exact ⟨cur, hc⟩
  have out : ∀ (q : Nat) (cs : Array Value) (ty : TypeId), w7.heap[q]? = some (.cells cs ty (0, 0)) → ty ≠ 106 → ¬ v.ownBlock = some q := fun q cs ty hc ht hq => by
    obtain ⟨cs', hc'⟩ := hin q hq
    exact type_ne hc hc' ht rfl
  refine ⟨F, G, c, ws, log, ops ++ [o], ⟨hJ.prog.keep hk (fun q hF hq => (hblk q hq).1 hF) (out _ _ _ hJ.prog.eng.head (by decide)) (out _ _ _ hJ.prog.eng.hnums (by decide)) (out _ _ _ hJ.prog.eng.hbeg (by decide)), hJ.ref.keep hk (fun q hG hq => (hblk q hq).2.1 hG) (out _ _ _ hJ.ref.eng.head (by decide)) (out _ _ _ hJ.ref.eng.slots (by decide)),
    hJ.own.trans hk (fun j hj hq => by have := (hblk j hq).2.2; omega), hJ.ff, hJ.fg, hJ.ob, hJ.dis, hJ.dF, hJ.dG, hJ.lc, hJ.lw, hJ.wpos, by have := hJ.llog; omega, fun i p hp => by obtain ⟨a1, a2, a3, a4⟩ := hJ.cok i p hp; exact ⟨a1, by omega, a3, a4⟩, fun i p hp => ?_, hJ.apart, hJ.solo⟩, by simp; omega, ho, fun q hq => ?_⟩
  · obtain ⟨j, hok⟩ := hJ.objs i p hp
    refine ⟨⟨j.at_.keep hk (fun hq => ?_) (fun hq => ?_), j.fa, j.ga, j.fb, j.gb, j.la, j.lb⟩, hok⟩
    · obtain ⟨cs', hc'⟩ := hin _ hq; exact j.at_.a_ne hc' (by decide) (by decide) rfl
    · obtain ⟨cs', hc'⟩ := hin _ hq; exact j.at_.b_ne hc' (by decide) (by decide) rfl
  · rcases hn q hq with e | e
    · exact hblk q e
    · exact ⟨fun hF => by have := hJ.prog.mem.lt q hF; omega, fun hG => by have := hJ.ref.mem.lt q hG; omega, by have := hJ.own.size; omega⟩
/-- Open by both returns the same list. -/
theorem open_both {k : Nat} {v : Value} (hs : SJ w g nb bb mb h sb rb base n k v wr) (hn : n ≤ 9) :
    Calls Try.prog 20 #[.pointer (some ⟨g, 0, none⟩)] wr fun e w' => ∃ (L : List Int) (v1 : Value), e = .returned v1 ∧ Rd w' 1 v1 L.length (L.map (Value.int .i64)) ∧ Keep Nil wr w' ∧ L.length ≤ 9 ∧
      ∀ w'', Keep Nil w' w'' → Calls Try.prog 52 #[.pointer (some ⟨h, 0, none⟩)] w'' fun e w3 => ∃ v2, e = .returned v2 ∧ Rd w3 1 v2 L.length (L.map (Value.int .i64)) ∧ Keep Nil w'' w3 := by
  obtain ⟨F, G, c, ws, log, ops, hJ, -⟩ := hs
  have l1 : (cnum c).length = n := by simp [cnum, hJ.lc]
  have l2 : (cref c).length = n := by simp [cref, hJ.lc]
  refine (fopen_ok hJ.prog.eng (fun x hx => ?_) (by omega)).mono ?_
  · obtain ⟨i, hi⟩ := List.getElem?_of_mem hx
    simp only [cnum, List.getElem?_map, Option.map_eq_some_iff] at hi
    obtain ⟨p, hp, rfl⟩ := hi
    exact (hJ.cok i p hp).1
  · rintro e w' ⟨v1, rfl, ho, hk, -⟩
    refine ⟨fopens (cnum c) (cnum c).length, v1, rfl, row_rd ho, hk, by have := fopens_len (cnum c) (cnum c).length; omega, fun w'' hk2 => ?_⟩
    refine (rfopen_ok ((hJ.ref.eng.quiet hk).quiet hk2) (cnum c) (by rw [l1, l2]) (fun i x b d hx => ?_) (by omega)).mono ?_
    · simp only [cref, List.getElem?_map, Option.map_eq_some_iff, Prod.mk.injEq] at hx
      obtain ⟨p, hp, e1, e2, e3⟩ := hx
      obtain ⟨-, -, -, a4⟩ := hJ.cok i p hp
      refine ⟨by rw [cnum_at hp, e1], ?_⟩
      rw [← e3, ← e1, beq_iff_eq]
      exact a4
    · rintro e w3 ⟨v2, rfl, ho2, hk3, -⟩
      exact ⟨v2, rfl, row_rd ho2, hk3⟩

set_option maxRecDepth 100000 in
set_option maxHeartbeats 16000000 in
theorem steps_ok (bN nN : Nat) (hb : bN ≤ 20) (hn0 : 1 ≤ nN) (hn1 : nN ≤ 9) (a : Option Addr) (cc : Nat) (l : List EvD) (hrd : Rd w 6 (.slice a l.length cc) l.length (evCells l)) (hwf : ∀ x ∈ l, x.wf) (hl : l.length ≤ 300) :
    Calls Try.prog 12 #[.int .i64 bN, .int .i64 nN, .slice a l.length cc] w fun e w' => e = .returned (.bool true) ∧ Keep Nil w w' := by
  have HD := hid hrd
  have HW := hid hwf
  have dl : decide (300 < (l.length : Int)) = false := decide_eq_false (by omega)
  have dn0 : decide ((nN : Int) < 1) = false := decide_eq_false (by omega)
  have dn1 : decide (9 < (nN : Int)) = false := decide_eq_false (by omega)
  have db0 : decide ((bN : Int) < 0) = false := decide_eq_false (by omega)
  have db1 : decide (20 < (bN : Int)) = false := decide_eq_false (by omega)
  obtain ⟨m, hm⟩ : ∃ m : Nat, m = bN + nN + 1 := ⟨_, rfl⟩
  have hmi : (bN : Int) + (nN : Int) + 1 = (m : Int) := by omega
  have hm30 : m ≤ 30 := by omega
  have hn9 : nN ≤ 9 := hn1
  have hm0 : 0 < m := by omega
  have HMM := hid hm
  clear hrd hwf hm
  go_enter Try.func12, Try.ntmps12
  go_wp2_with (at_make; refine wpList_mk _ rfl _ _ 26 rfl 42 _ 1 8 Try.underlying26 infoU64 _ _ (m : Int) rfl rfl ?p0 ?p1 ?p2 ?_)
  case p0 => omega
  case p1 => omega
  case p2 => omega
  intro w1 hh hk hz
  have hrd := zeros_rd hh
  have HK := hid hk
  have HRD := hid hrd
  clear hh hk hz hrd
  go_wp2_with fail
  refine (new_ok _ _ _ HRD.out (by simp; omega) (by simp; omega)).mono ?_
  rintro e w2 ⟨mb, F, rfl, hmm, k2, f2⟩
  have HM := hid hmm
  have HO := hid (Own.fresh HK.out k2 f2)
  have HRD2 := hid (rd_keep HRD.out k2 (fun _ _ h => h))
  clear hmm k2 f2 HRD
  go_wp2_with fail
  refine (rnew_ok _ _ _ HRD2.out (by simp; omega) (by simp; omega)).mono ?_
  rintro e w3 ⟨rb, G, rfl, hr, k3, f3⟩
  have HM3 := hid (HM.out.keep k3 (fun _ _ h => h))
  have HO3 := hid (HO.out.quiet k3)
  have HR := hid hr
  have FG := hid (show Foot w2 Nil G from f3)
  have LF := hid HM.out.lt
  have Z2 := hid HO.out.1.size
  clear hr k3 f3 HM HO HRD2
  have he : fErr (bN : Int) nN (List.replicate m (0 : Int)).length = 0 := by unfold fErr; rw [if_neg (by omega), if_neg (by have := HMM.out; simp; omega)]
  have HE := hid he
  go_wp2_with fail
  refine (fnew_ok HM3.out (by simp; omega) (bN : Int) nN HE.out).mono ?_
  rintro e w4 ⟨g, nb, bb, rfl, hg, k4, l1, l2, l3⟩
  have HG := hid hg
  have K4 := hid k4
  have HR4 := hid (HR.out.keep k4 (fun _ _ h => h))
  have LL := hid (And.intro l1 (And.intro l2 l3))
  clear hg k4 l1 l2 l3
  go_wp2_with fail
  refine (rfnew_ok HR4.out (by simp; omega) (bN : Int) nN HE.out).mono ?_
  rintro e w5 ⟨h, sb, rfl, hh, k5, l4, l5⟩
  have hS0 : SJ w g nb bb mb h sb rb bN nN 0 (.slice none 0 0) w5 := by
    have s0 := HO3.out.1.size
    have s3 := K4.out.size
    have s4 := k5.size
    have ltG := HR.out.lt
    have nFge : ∀ k : Nat, w2.heap.size ≤ k → ¬ F k := fun k hk hF => by have := LF.out k hF; omega
    have nGge : ∀ k : Nat, w3.heap.size ≤ k → ¬ G k := fun k hk hG => by have := ltG k hG; omega
    obtain ⟨l1, l2, l3⟩ := LL.out
    have z23 : w2.heap.size ≤ w3.heap.size := by
      have := HR.out.has
      have h2 := ltG _ this
      rcases FG.out _ this with e | e
      · exact e.elim
      · omega
    have e1 : cnum (List.replicate nN (0, 0)) = List.replicate nN 0 := by simp [cnum]
    have e2 : cbeg (List.replicate nN (0, 0)) = List.replicate nN false := by simp [cbeg]
    have e3 : cref (List.replicate nN (0, 0)) = List.replicate nN (0, false, false) := by simp [cref]
    refine ⟨F, G, List.replicate nN (0, 0), List.replicate m 0, [], [], ⟨?_, ?_, ?_, ?_, ?_, ⟨by omega, by omega, by omega⟩, ?_, ⟨nFge _ (by omega), nFge _ (by omega)⟩, ⟨nGge _ l1, nGge _ l2, nGge _ l3⟩, by simp, by have := HMM.out; simp; omega, fun x hx => by rw [List.eq_of_mem_replicate hx]; omega, by simp, ?_, fun i o ho => by simp at ho, fun i j o p ho => by simp at ho, fun i j o p s ho => by simp at ho⟩, by simp, World.ownsRow_nil _ _ _ _, by simp [Value.ownBlock]⟩
    · rw [e1, e2]; exact ⟨(HM3.out.keep K4.out (fun _ _ h => h)).keep k5 (fun _ _ h => h), HG.out.keep k5 (fun h => h) (fun h => h) (fun h => h), nFge _ (by omega), nFge _ (by omega), nFge _ (by omega)⟩
    · rw [e3]; exact ⟨HR4.out.keep k5 (fun _ _ h => h), hh, nGge _ (by omega), nGge _ (by omega)⟩
    · exact (HO3.out.1.trans K4.out (fun _ _ h => h)).trans k5 (fun _ _ h => h)
    · exact HO3.out.2
    · exact fun k hk => .inr (by rcases FG.out k hk with e | e; exact e.elim; have := Z2.out; omega)
    · intro k hF hG
      have := LF.out k hF
      rcases FG.out k hG with e | e
      · exact e
      · omega
    · intro i p hp
      rw [List.getElem?_replicate] at hp
      split at hp
      · rw [← Option.some.inj hp]; exact ⟨by simp, by simp, by simp, by simp⟩
      · cases hp
  have HS0 := hid hS0
  clear hS0 hh k5 l4 l5 HG K4 HR4 LL HM3 HO3 HR FG LF HE he HK
  go_wp2
  go_loopw [15, 16] (fun v' i wr => ∃ (k : Nat) (v : Value), k ≤ l.length ∧ i = .int .i64 k ∧ v' = v ∧ Hid (SJ w g nb bb mb h sb rb bN nN k v wr)) (fun _ i _ => l.length - (intOf i).toNat)
  case atStart => exact ⟨0, _, Nat.zero_le _, rfl, rfl, HS0⟩
  case round =>
    obtain ⟨k, v, hk, rfl, hvv, HR⟩ := hrel
    obtain rfl : v = _ := hvv.symm
    clear HS0
    by_cases hlt : k < l.length
    · obtain ⟨x, hx⟩ : ∃ x, l[k]? = some x := ⟨_, List.getElem?_eq_getElem hlt⟩
      obtain ⟨w1', w2', w3', w4', w5', w6'⟩ := HW.out x (List.mem_of_getElem? hx)
      obtain ⟨xb, xo, xc, hve, hc⟩ := Rd.cell HD.out (by omega)
      simp only [Value.slice.injEq] at hve
      obtain ⟨rfl, -, rfl⟩ := hve
      obtain ⟨x0, x1⟩ := u8_wf w1'
      have hkk : Keep Nil w wr := by obtain ⟨_, _, _, _, _, _, hj, -⟩ := HR.out; exact hj.own
      have q : ∀ j u, x.cells[j]? = some u → wr.cell? ⟨xb, xo + k * 6 + j, none⟩ = some u := fun j u hu => by rw [Nat.add_assoc]; exact hkk.cell (hc _ _ (evCells_at hx hu)) (fun h => h)
      have q0 : wr.cell? ⟨xb, xo + k * 6, none⟩ = some (.int .u8 x.d) := q 0 _ rfl
      have q1 : wr.cell? ⟨xb, xo + k * 6 + 1, none⟩ = some (.int .i64 x.t) := q 1 _ rfl
      have q2 : wr.cell? ⟨xb, xo + k * 6 + 2, none⟩ = some (.int .i64 x.s) := q 2 _ rfl
      have q3 : wr.cell? ⟨xb, xo + k * 6 + 3, none⟩ = some (.int .i64 x.v) := q 3 _ rfl
      have q4 : wr.cell? ⟨xb, xo + k * 6 + 4, none⟩ = some (.int .i64 x.r) := q 4 _ rfl
      have q5 : wr.cell? ⟨xb, xo + k * 6 + 5, none⟩ = some (.int .u64 x.e) := q 5 _ rfl
      clear q hc hx hkk
      by_cases d0 : x.d % 6 = 0
      · have e0 : (x.d % 6 == 0) = true := beq_iff_eq.2 d0
        clear d0
        obtain ⟨F1, G1, c1, ws1, log1, ops1, hj0, hlo, hrow, hblk⟩ := HR.out
        have hJ := hj0.quiet ((Keep.refl Nil wr).alloc (.cells #[.int .u8 x.d, .int .i64 x.t, .int .i64 x.s, .int .i64 x.v, .int .i64 x.r, .int .u64 x.e] 100))
        have hs1 : SJ w g nb bb mb h sb rb bN nN (k + 1) v (wr.alloc (.cells #[.int .u8 x.d, .int .i64 x.t, .int .i64 x.s, .int .i64 x.v, .int .i64 x.r, .int .u64 x.e] 100)) := ⟨F1, G1, c1, ws1, log1, ops1, hJ.mono (by omega), by omega, hrow.alloc _, hblk⟩
        have hxb := heap_alloc_new wr (.cells #[.int .u8 x.d, .int .i64 x.t, .int .i64 x.s, .int .i64 x.v, .int .i64 x.r, .int .u64 x.e] 100)
        have nFx : ¬ F1 wr.heap.size := fun e => by have := hj0.prog.mem.lt _ e; omega
        have hrow1 := hrow.alloc (.cells #[.int .u8 x.d, .int .i64 x.t, .int .i64 x.s, .int .i64 x.v, .int .i64 x.r, .int .u64 x.e] 100)
        have hcase := jenter_cases hJ x.t x.s x.v
        have hcase' : True := trivial
        rcases hcase with ⟨e0, he0, hA, hB⟩ | hok
        · have HA := hid hA
          have HB := hid hB
          have de : (e0 != e0) = false := by simp
          have HSJ := hid hs1
          have HS9 := hid hs1
          clear hA hB hcase' hJ hs1
          go_wp2_with fail
          refine HA.out.mono ?_
          rintro e w6 ⟨rfl, rfl⟩
          go_wp2_with fail
          refine HB.out.mono ?_
          rintro e w6 ⟨rfl, rfl⟩
          clear HA HB
          have HA := hid (open_both HSJ.out hn9)
          clear HSJ
          go_wp2_with fail
          refine HA.out.mono ?_
          rintro e w8 ⟨L, v8, rfl, rd8, k8, lL, hb8⟩
          have HB := hid (hb8 w8 (Keep.refl _ _))
          have S8 := hid (HS9.out.quiet k8)
          have RD8 := hid rd8
          clear HA rd8 k8 hb8 HS9
          go_wp2_with fail
          refine HB.out.mono ?_
          rintro e w9 ⟨v9, rfl, rd9, k9⟩
          have S9 := hid (S8.out.quiet k9)
          have RD9 := hid (rd_keep RD8.out k9 (fun _ _ h => h))
          have RE9 := hid rd9
          clear rd9 k9 S8 RD8 HB
          go_wp2_with fail
          refine (eqI_yes _ _ L _ RD9.out RE9.out (by omega)).mono ?_
          rintro e w10 ⟨rfl, k10⟩
          have S10 := hid (S9.out.quiet k10)
          clear k10 S9 RD9 RE9
          go_wp2
          go_roundw
          case rel => exact ⟨k + 1, _, by omega, by go_num, rfl, S10⟩
          case measure => simp [intOf]; omega
        · obtain ⟨t0, t1, v0, v1, i, hi, z, hz⟩ := hok
          have z0 := (hJ.cok i _ hz).1
          have z2 := (hJ.cok i _ hz).2.2.2
          simp only at z0 z2
          have hev : z % 2 = 0 := by have : ¬ z % 2 = 1 := fun e => by have := z2.2 e; omega
                                     omega
          have ha := fenter_ok hJ.prog x.v t0 t1 v0 v1 z (cnum_at hz) z0 hev (cbeg_at hz)
          rw [← hi] at ha
          have HA := hid ha
          have HJ := hid hJ
          have HXB := hid hxb
          have ROW1 := hid hrow1
          have HZ := hid hz
          have HI := hid hi
          clear ha hcase' hj0 hJ hs1 hxb hrow hrow1 hz hi z2 hev
          go_wp2_with fail
          refine HA.out.mono ?_
          rintro e w6 hp
          have hp1 := hp.1
          subst hp1
          have ex : ∀ q, (q = bb) → q < _ → F1 q ∨ q = nb ∨ q = bb ∨ ∃ o, ops1[ops1.length]? = some o ∧ q = o.a := fun q hq (_ : q < wr.heap.size + 1) => .inr (.inr (.inl hq))
          have k6 := hp.2.2.2.1
          have hx6 := k6.at HXB.out (HJ.out.out1 (S1 := fun q => q = bb) (t := ops1.length) (fun q hq _ => .inr (.inr (.inl hq))) HXB.out nFx (by decide) (by decide) (by decide) (by decide))
          have y1 : w6.cell? ⟨wr.heap.size, 1, none⟩ = some (.int .i64 x.t) := by rw [cell_of hx6]; rfl
          have y2 : w6.cell? ⟨wr.heap.size, 2, none⟩ = some (.int .i64 x.s) := by rw [cell_of hx6]; rfl
          have y3 : w6.cell? ⟨wr.heap.size, 3, none⟩ = some (.int .i64 x.v) := by rw [cell_of hx6]; rfl
          have hr6 := HJ.out.refAt (t := ops1.length) k6 (fun q hq _ => .inr (.inr (.inl hq)))
          have hck : ckE x.t (i : Int) x.v (cref c1).length false = 0 := by
            have := lt_of_at HZ.out
            unfold ckE
            rw [if_neg (by omega), if_neg (by simp [cref]; omega), if_neg (by omega)]; rfl
          have hb := rfenter_ok hr6 (cref_at HZ.out) hck
          rw [← HI.out] at hb
          have HB := hid hb
          have HP := hid hp
          clear hb hck hr6 hx6 k6 ex hp HA
          go_wp2_with fail
          refine HB.out.mono ?_
          rintro e w7 hr
          have hr1 := hr.1
          subst hr1
          have J2 := hid (HJ.out.entered t0 t1 HZ.out HP.out hr)
          have kk : Keep (fun q => q = bb ∨ q = sb) (wr.alloc (.cells #[.int .u8 x.d, .int .i64 x.t, .int .i64 x.s, .int .i64 x.v, .int .i64 x.r, .int .u64 x.e] 100)) w7 := (HP.out.2.2.2.1.mono (T := fun q => q = bb ∨ q = sb) (fun _ _ h => .inl h)).trans (hr.2.2.2.1.mono (T := fun q => q = bb ∨ q = sb) (fun _ _ h => .inr h)) (fun _ _ h => h)
          have ROW := hid (row_beyond ROW1.out (fun q cs _ hc => kk.at hc (fun e => by
            rcases e with e | e
            · subst e; exact type_ne hc HJ.out.prog.eng.hbeg (by decide) rfl
            · subst e; exact type_ne hc HJ.out.ref.eng.slots (by decide) rfl)))
          have BLK := hid hblk
          rw [World.size_alloc] at J2
          have zb : w6.heap.size = w6.heap.size := rfl
          clear hr kk ROW1 HXB HB HP y1 y2 y3 hblk zb
          generalize w6.heap.size = eb at *
          go_wp2_with (at_builtin; refine wpList_app _ rfl (.tmp 154) (.tmp 158) 98 rfl 106 _ 4 32 Try.underlying98 infoOp rfl (by decide) v ops1.length (opsCells ops1) rfl ?own _ 1 (opCells (.en (wr.heap.size + 1) eb x.t i true)) rfl ?rd ?one ?byt ?len ?_)
          case own => exact ROW.out.alloc _
          case rd => exact rd_new _ _ _ _ _ _
          case one => simp [opCells, Value.oneCell']
          case byt => omega
          case len => unfold maxLen; omega
          intro a' c' w8 ho hg hs
          have hsj : SJ w g nb bb mb h sb rb bN nN (k + 1) (.slice a' (ops1.length + 1) c') w8 := by
            have kg : Keep (fun q => v.ownBlock = some q) w7 w8 := Keep.grown ((Keep.refl (fun q => v.ownBlock = some q) w7).alloc _) hg (fun j hj => .inl hj)
            exact SJ.grown J2.out (by omega) ROW.out BLK.out kg (by rw [List.length_append, opsCells_snoc]; exact ho) (fun q hq => (hs q hq).elim .inl (fun h => .inr (by simp at h; omega)))
          have HSJ := hid hsj
          have HS9 := hid hsj
          clear ho hg hs hsj J2 ROW BLK
          have HA := hid (open_both HSJ.out hn9)
          clear HSJ
          go_wp2_with fail
          refine HA.out.mono ?_
          rintro e w8 ⟨L, v8, rfl, rd8, k8, lL, hb8⟩
          have HB := hid (hb8 w8 (Keep.refl _ _))
          have S8 := hid (HS9.out.quiet k8)
          have RD8 := hid rd8
          clear HA rd8 k8 hb8 HS9
          go_wp2_with fail
          refine HB.out.mono ?_
          rintro e w9 ⟨v9, rfl, rd9, k9⟩
          have S9 := hid (S8.out.quiet k9)
          have RD9 := hid (rd_keep RD8.out k9 (fun _ _ h => h))
          have RE9 := hid rd9
          clear rd9 k9 S8 RD8 HB
          go_wp2_with fail
          refine (eqI_yes _ _ L _ RD9.out RE9.out (by omega)).mono ?_
          rintro e w10 ⟨rfl, k10⟩
          have S10 := hid (S9.out.quiet k10)
          clear k10 S9 RD9 RE9
          go_wp2
          go_roundw
          case rel => exact ⟨k + 1, _, by omega, by go_num, rfl, S10⟩
          case measure => simp [intOf]; omega
      by_cases d1 : x.d % 6 = 1
      · have e0 : (x.d % 6 == 0) = false := beq_eq_false_iff_ne.2 d0
        have e1 : (x.d % 6 == 1) = true := beq_iff_eq.2 d1
        clear d0 d1
        obtain ⟨F1, G1, c1, ws1, log1, ops1, hj0, hlo, hrow, hblk⟩ := HR.out
        have hJ := hj0.quiet ((Keep.refl Nil wr).alloc (.cells #[.int .u8 x.d, .int .i64 x.t, .int .i64 x.s, .int .i64 x.v, .int .i64 x.r, .int .u64 x.e] 100))
        have hs1 : SJ w g nb bb mb h sb rb bN nN (k + 1) v (wr.alloc (.cells #[.int .u8 x.d, .int .i64 x.t, .int .i64 x.s, .int .i64 x.v, .int .i64 x.r, .int .u64 x.e] 100)) := ⟨F1, G1, c1, ws1, log1, ops1, hJ.mono (by omega), by omega, hrow.alloc _, hblk⟩
        have hxb := heap_alloc_new wr (.cells #[.int .u8 x.d, .int .i64 x.t, .int .i64 x.s, .int .i64 x.v, .int .i64 x.r, .int .u64 x.e] 100)
        have nFx : ¬ F1 wr.heap.size := fun e => by have := hj0.prog.mem.lt _ e; omega
        have hrow1 := hrow.alloc (.cells #[.int .u8 x.d, .int .i64 x.t, .int .i64 x.s, .int .i64 x.v, .int .i64 x.r, .int .u64 x.e] 100)
        have hcase := jexit_cases hJ x.t x.s
        have hcase' : True := trivial
        rcases hcase with ⟨e0, he0, hA, hB⟩ | hok
        · have HA := hid hA
          have HB := hid hB
          have de : (e0 != e0) = false := by simp
          have HSJ := hid hs1
          have HS9 := hid hs1
          clear hA hB hcase' hJ hs1
          go_wp2_with fail
          refine HA.out.mono ?_
          rintro e w6 ⟨rfl, rfl⟩
          go_wp2_with fail
          refine HB.out.mono ?_
          rintro e w6 ⟨rfl, rfl⟩
          clear HA HB
          have HA := hid (open_both HSJ.out hn9)
          clear HSJ
          go_wp2_with fail
          refine HA.out.mono ?_
          rintro e w8 ⟨L, v8, rfl, rd8, k8, lL, hb8⟩
          have HB := hid (hb8 w8 (Keep.refl _ _))
          have S8 := hid (HS9.out.quiet k8)
          have RD8 := hid rd8
          clear HA rd8 k8 hb8 HS9
          go_wp2_with fail
          refine HB.out.mono ?_
          rintro e w9 ⟨v9, rfl, rd9, k9⟩
          have S9 := hid (S8.out.quiet k9)
          have RD9 := hid (rd_keep RD8.out k9 (fun _ _ h => h))
          have RE9 := hid rd9
          clear rd9 k9 S8 RD8 HB
          go_wp2_with fail
          refine (eqI_yes _ _ L _ RD9.out RE9.out (by omega)).mono ?_
          rintro e w10 ⟨rfl, k10⟩
          have S10 := hid (S9.out.quiet k10)
          clear k10 S9 RD9 RE9
          go_wp2
          go_roundw
          case rel => exact ⟨k + 1, _, by omega, by go_num, rfl, S10⟩
          case measure => simp [intOf]; omega
        · obtain ⟨t0, t1, i, hi, z, hz⟩ := hok
          obtain ⟨P, ha, hb, hc⟩ := jexit_ok hJ (by omega) (by omega) (by omega) hn1 t0 t1 hz
          rw [← hi] at ha hc
          have HA := hid ha
          have HB := hid hb
          have HC := hid hc
          have HXB := hid hxb
          have ROW1 := hid hrow1
          have BLK := hid hblk
          clear ha hb hc hcase' hj0 hJ hs1 hxb hrow hrow1 hz hi hblk
          go_wp2_with fail
          refine HA.out.mono ?_
          rintro e w6 ⟨rfl, hp⟩
          have hx6 := HB.out w6 hp _ _ _ HXB.out nFx (by decide) (by decide) (by decide) (by decide)
          have y1 : w6.cell? ⟨wr.heap.size, 1, none⟩ = some (.int .i64 x.t) := by rw [cell_of hx6]; rfl
          have y2 : w6.cell? ⟨wr.heap.size, 2, none⟩ = some (.int .i64 x.s) := by rw [cell_of hx6]; rfl
          have HC6 := hid (HC.out w6 hp)
          clear hp hx6 HA HB HC
          go_wp2_with fail
          refine HC6.out.mono ?_
          rintro e w7 ⟨rfl, hj⟩
          have hsj := SJ.of_to hlo ROW1.out BLK.out hj
          have HSJ := hid hsj
          have HS9 := hid hsj
          clear hj hsj HC6 y1 y2 HXB ROW1 BLK
          have HA := hid (open_both HSJ.out hn9)
          clear HSJ
          go_wp2_with fail
          refine HA.out.mono ?_
          rintro e w8 ⟨L, v8, rfl, rd8, k8, lL, hb8⟩
          have HB := hid (hb8 w8 (Keep.refl _ _))
          have S8 := hid (HS9.out.quiet k8)
          have RD8 := hid rd8
          clear HA rd8 k8 hb8 HS9
          go_wp2_with fail
          refine HB.out.mono ?_
          rintro e w9 ⟨v9, rfl, rd9, k9⟩
          have S9 := hid (S8.out.quiet k9)
          have RD9 := hid (rd_keep RD8.out k9 (fun _ _ h => h))
          have RE9 := hid rd9
          clear rd9 k9 S8 RD8 HB
          go_wp2_with fail
          refine (eqI_yes _ _ L _ RD9.out RE9.out (by omega)).mono ?_
          rintro e w10 ⟨rfl, k10⟩
          have S10 := hid (S9.out.quiet k10)
          clear k10 S9 RD9 RE9
          go_wp2
          go_roundw
          case rel => exact ⟨k + 1, _, by omega, by go_num, rfl, S10⟩
          case measure => simp [intOf]; omega
      by_cases d2 : x.d % 6 = 2
      · have e0 : (x.d % 6 == 0) = false := beq_eq_false_iff_ne.2 d0
        have e1 : (x.d % 6 == 1) = false := beq_eq_false_iff_ne.2 d1
        have e2 : (x.d % 6 == 2) = true := beq_iff_eq.2 d2
        clear d0 d1 d2
        obtain ⟨F1, G1, c1, ws1, log1, ops1, hj0, hlo, hrow, hblk⟩ := HR.out
        have hJ := hj0.quiet ((Keep.refl Nil wr).alloc (.cells #[.int .u8 x.d, .int .i64 x.t, .int .i64 x.s, .int .i64 x.v, .int .i64 x.r, .int .u64 x.e] 100))
        have hs1 : SJ w g nb bb mb h sb rb bN nN (k + 1) v (wr.alloc (.cells #[.int .u8 x.d, .int .i64 x.t, .int .i64 x.s, .int .i64 x.v, .int .i64 x.r, .int .u64 x.e] 100)) := ⟨F1, G1, c1, ws1, log1, ops1, hJ.mono (by omega), by omega, hrow.alloc _, hblk⟩
        have hxb := heap_alloc_new wr (.cells #[.int .u8 x.d, .int .i64 x.t, .int .i64 x.s, .int .i64 x.v, .int .i64 x.r, .int .u64 x.e] 100)
        have nFx : ¬ F1 wr.heap.size := fun e => by have := hj0.prog.mem.lt _ e; omega
        have hrow1 := hrow.alloc (.cells #[.int .u8 x.d, .int .i64 x.t, .int .i64 x.s, .int .i64 x.v, .int .i64 x.r, .int .u64 x.e] 100)
        have hcase := jwait_cases hJ x.t x.e
        have hcase' : True := trivial
        rcases hcase with ⟨e0, he0, hA, hB⟩ | hok
        · have HA := hid hA
          have HB := hid hB
          have de : (e0 != e0) = false := by simp
          have HSJ := hid hs1
          have HS9 := hid hs1
          clear hA hB hcase' hJ hs1
          go_wp2_with fail
          refine HA.out.mono ?_
          rintro e w6 ⟨rfl, rfl⟩
          go_wp2_with fail
          refine HB.out.mono ?_
          rintro e w6 ⟨rfl, rfl⟩
          clear HA HB
          have HA := hid (open_both HSJ.out hn9)
          clear HSJ
          go_wp2_with fail
          refine HA.out.mono ?_
          rintro e w8 ⟨L, v8, rfl, rd8, k8, lL, hb8⟩
          have HB := hid (hb8 w8 (Keep.refl _ _))
          have S8 := hid (HS9.out.quiet k8)
          have RD8 := hid rd8
          clear HA rd8 k8 hb8 HS9
          go_wp2_with fail
          refine HB.out.mono ?_
          rintro e w9 ⟨v9, rfl, rd9, k9⟩
          have S9 := hid (S8.out.quiet k9)
          have RD9 := hid (rd_keep RD8.out k9 (fun _ _ h => h))
          have RE9 := hid rd9
          clear rd9 k9 S8 RD8 HB
          go_wp2_with fail
          refine (eqI_yes _ _ L _ RD9.out RE9.out (by omega)).mono ?_
          rintro e w10 ⟨rfl, k10⟩
          have S10 := hid (S9.out.quiet k10)
          clear k10 S9 RD9 RE9
          go_wp2
          go_roundw
          case rel => exact ⟨k + 1, _, by omega, by go_num, rfl, S10⟩
          case measure => simp [intOf]; omega
        · obtain ⟨t0, t1, hne⟩ := hok
          have HA := hid (@fwait_ok (wr.alloc (.cells #[.int .u8 x.d, .int .i64 x.t, .int .i64 x.s, .int .i64 x.v, .int .i64 x.r, .int .u64 x.e] 100)) g x.t t0 t1 x.e hne)
          have HJ := hid hJ
          have HXB := hid hxb
          have ROW1 := hid hrow1
          have HNE := hid hne
          clear hcase' hj0 hJ hs1 hxb hrow hrow1 hne
          go_wp2_with fail
          refine HA.out.mono ?_
          rintro e w6 hp
          have hp1 := hp.1
          subst hp1
          have k6 := hp.2.2.1
          have hx6 := k6.at HXB.out (fun h => h)
          have y1 : w6.cell? ⟨wr.heap.size, 1, none⟩ = some (.int .i64 x.t) := by rw [cell_of hx6]; rfl
          have y5 : w6.cell? ⟨wr.heap.size, 5, none⟩ = some (.int .u64 x.e) := by rw [cell_of hx6]; rfl
          have HB := hid (@rfwait_ok w6 x.t x.e h t0 t1 HNE.out)
          have HP := hid hp
          clear hx6 k6 hp HA
          go_wp2_with fail
          refine HB.out.mono ?_
          rintro e w7 hr
          have hr1 := hr.1
          subst hr1
          have J2 := hid (HJ.out.waits hn0 t0 t1 HP.out hr)
          have kk : Keep Nil (wr.alloc (.cells #[.int .u8 x.d, .int .i64 x.t, .int .i64 x.s, .int .i64 x.v, .int .i64 x.r, .int .u64 x.e] 100)) w7 := HP.out.2.2.1.trans hr.2.2.1 (fun _ _ h => h)
          have ROW := hid (row_beyond ROW1.out (fun q cs _ hc => kk.at hc (fun h => h)))
          have BLK := hid hblk
          rw [World.size_alloc] at J2
          clear hr kk ROW1 HXB HB HP y1 y5 hblk
          generalize w6.heap.size = eb at *
          go_wp2_with (at_builtin; refine wpList_app _ rfl (.tmp 220) (.tmp 224) 98 rfl 106 _ 4 32 Try.underlying98 infoOp rfl (by decide) v ops1.length (opsCells ops1) rfl ?own _ 1 (opCells (.wa (wr.heap.size + 1) eb x.t ⟨0, 0, 0⟩)) rfl ?rd ?one ?byt ?len ?_)
          case own => exact ROW.out.alloc _
          case rd => exact rd_new _ _ _ _ _ _
          case one => simp [opCells, Value.oneCell']
          case byt => omega
          case len => unfold maxLen; omega
          intro a' c' w8 ho hg hs
          have hsj : SJ w g nb bb mb h sb rb bN nN (k + 1) (.slice a' (ops1.length + 1) c') w8 := by
            have kg : Keep (fun q => v.ownBlock = some q) w7 w8 := Keep.grown ((Keep.refl (fun q => v.ownBlock = some q) w7).alloc _) hg (fun j hj => .inl hj)
            exact SJ.grown J2.out (by omega) ROW.out BLK.out kg (by rw [List.length_append, opsCells_snoc]; exact ho) (fun q hq => (hs q hq).elim .inl (fun h => .inr (by simp at h; omega)))
          have HSJ := hid hsj
          have HS9 := hid hsj
          clear ho hg hs hsj J2 ROW BLK
          have HA := hid (open_both HSJ.out hn9)
          clear HSJ
          go_wp2_with fail
          refine HA.out.mono ?_
          rintro e w8 ⟨L, v8, rfl, rd8, k8, lL, hb8⟩
          have HB := hid (hb8 w8 (Keep.refl _ _))
          have S8 := hid (HS9.out.quiet k8)
          have RD8 := hid rd8
          clear HA rd8 k8 hb8 HS9
          go_wp2_with fail
          refine HB.out.mono ?_
          rintro e w9 ⟨v9, rfl, rd9, k9⟩
          have S9 := hid (S8.out.quiet k9)
          have RD9 := hid (rd_keep RD8.out k9 (fun _ _ h => h))
          have RE9 := hid rd9
          clear rd9 k9 S8 RD8 HB
          go_wp2_with fail
          refine (eqI_yes _ _ L _ RD9.out RE9.out (by omega)).mono ?_
          rintro e w10 ⟨rfl, k10⟩
          have S10 := hid (S9.out.quiet k10)
          clear k10 S9 RD9 RE9
          go_wp2
          go_roundw
          case rel => exact ⟨k + 1, _, by omega, by go_num, rfl, S10⟩
          case measure => simp [intOf]; omega
      have e0 : (x.d % 6 == 0) = false := beq_eq_false_iff_ne.2 d0
      have e1 : (x.d % 6 == 1) = false := beq_eq_false_iff_ne.2 d1
      have e2 : (x.d % 6 == 2) = false := beq_eq_false_iff_ne.2 d2
      clear d0 d1 d2
      obtain ⟨F1, G1, c1, ws1, log1, ops1, hj0, hlo, hrow, hblk⟩ := HR.out
      have hJ := hj0.quiet ((Keep.refl Nil wr).alloc (.cells #[.int .u8 x.d, .int .i64 x.t, .int .i64 x.s, .int .i64 x.v, .int .i64 x.r, .int .u64 x.e] 100))
      have hs1 : SJ w g nb bb mb h sb rb bN nN (k + 1) v (wr.alloc (.cells #[.int .u8 x.d, .int .i64 x.t, .int .i64 x.s, .int .i64 x.v, .int .i64 x.r, .int .u64 x.e] 100)) := ⟨F1, G1, c1, ws1, log1, ops1, hJ.mono (by omega), by omega, hrow.alloc _, hblk⟩
      have hxb := heap_alloc_new wr (.cells #[.int .u8 x.d, .int .i64 x.t, .int .i64 x.s, .int .i64 x.v, .int .i64 x.r, .int .u64 x.e] 100)
      have nFx : ¬ F1 wr.heap.size := fun e => by have := hj0.prog.mem.lt _ e; omega
      have hrow1 := hrow.alloc (.cells #[.int .u8 x.d, .int .i64 x.t, .int .i64 x.s, .int .i64 x.v, .int .i64 x.r, .int .u64 x.e] 100)
      obtain ⟨va, vc, rfl⟩ := row_slice hrow
      by_cases ho : ops1.length = 0
      · have dz : decide (0 < (ops1.length : Int)) = false := decide_eq_false (by omega)
        have dz' : decide (0 < ops1.length) = false := decide_eq_false (by omega)
        have HSJ := hid hs1
        have HS9 := hid hs1
        clear ho hj0 hJ hs1 hxb hrow hrow1 hblk
        have HA := hid (open_both HSJ.out hn9)
        clear HSJ
        go_wp2_with fail
        refine HA.out.mono ?_
        rintro e w8 ⟨L, v8, rfl, rd8, k8, lL, hb8⟩
        have HB := hid (hb8 w8 (Keep.refl _ _))
        have S8 := hid (HS9.out.quiet k8)
        have RD8 := hid rd8
        clear HA rd8 k8 hb8 HS9
        go_wp2_with fail
        refine HB.out.mono ?_
        rintro e w9 ⟨v9, rfl, rd9, k9⟩
        have S9 := hid (S8.out.quiet k9)
        have RD9 := hid (rd_keep RD8.out k9 (fun _ _ h => h))
        have RE9 := hid rd9
        clear rd9 k9 S8 RD8 HB
        go_wp2_with fail
        refine (eqI_yes _ _ L _ RD9.out RE9.out (by omega)).mono ?_
        rintro e w10 ⟨rfl, k10⟩
        have S10 := hid (S9.out.quiet k10)
        clear k10 S9 RD9 RE9
        go_wp2
        go_roundw
        case rel => exact ⟨k + 1, _, by omega, by go_num, rfl, S10⟩
        case measure => simp [intOf]; omega
      · have dz : decide (0 < (ops1.length : Int)) = true := decide_eq_true (by omega)
        have dz' : decide (0 < ops1.length) = true := decide_eq_true (by omega)
        obtain ⟨r0, r1⟩ := i64_wf w5'
        obtain ⟨t, ht⟩ : ∃ t : Nat, x.r % (ops1.length : Int) = t := ⟨(x.r % (ops1.length : Int)).toNat, by have := Int.emod_nonneg x.r (show (ops1.length : Int) ≠ 0 by omega); omega⟩
        have htl : t < ops1.length := by have := Int.emod_lt_of_pos x.r (show (0 : Int) < ops1.length by omega); omega
        obtain ⟨o, hot⟩ : ∃ o, ops1[t]? = some o := ⟨_, List.getElem?_eq_getElem htl⟩
        have hi := index16_any x.r (ops1.length : Int) r0 r1 (by omega) (by omega) (wr.alloc (.cells #[.int .u8 x.d, .int .i64 x.t, .int .i64 x.s, .int .i64 x.v, .int .i64 x.r, .int .u64 x.e] 100))
        rw [ht] at hi
        have HI := hid hi
        have HSt := hid (jstep_any hJ (by omega) (by omega) (by omega) hn1 hot)
        obtain ⟨q, rfl⟩ : ∃ q, va = some ⟨q, 0, none⟩ := by
          rcases hrow.2 with ⟨hv, h0⟩ | ⟨q, cap, cur, hv, _⟩
          · omega
          · simp only [Value.slice.injEq] at hv; exact ⟨q, hv.1⟩
        have cell : ∀ j u, (opCells o)[j]? = some u → ((wr.alloc (.cells #[.int .u8 x.d, .int .i64 x.t, .int .i64 x.s, .int .i64 x.v, .int .i64 x.r, .int .u64 x.e] 100))).cell? ⟨q, t * 4 + j, none⟩ = some u := fun j u hu => by
          have hj : j < 4 := by have := lt_of_at hu; rw [opCells_len] at this; exact this
          rw [hrow1.cellAt (t * 4 + j) (by omega)]
          have := flatn_at opCells 4 opCells_len ops1 hot hj
          exact this.trans hu
        have tz0 : (0 : Int) ≤ (t : Int) := by omega
        have tz1 : (t : Int) < (ops1.length : Int) := by omega
        have ROW1 := hid hrow1
        have BLK := hid hblk
        have CELL := hid cell
        clear hi hot ht ho hj0 hJ hs1 hxb hrow hrow1 hblk cell
        go_wp2_with fail
        refine HI.out.mono ?_
        rintro e w6 ⟨rfl, rfl⟩
        cases o with
        | en a b th i live =>
          have p0 := CELL.out 0 _ rfl
          have p1 := CELL.out 1 _ rfl
          have p2 := CELL.out 2 _ rfl
          have p3 := CELL.out 3 _ rfl
          simp only [Nat.add_zero] at p0
          clear CELL HI
          go_wp2_with fail
          refine HSt.out.mono ?_
          rintro e w7 ⟨rfl, hj⟩
          have hsj := SJ.of_to hlo ROW1.out BLK.out hj
          have HSJ := hid hsj
          have HS9 := hid hsj
          clear hj hsj HSt p0 p1 p2 p3 ROW1 BLK
          have HA := hid (open_both HSJ.out hn9)
          clear HSJ
          go_wp2_with fail
          refine HA.out.mono ?_
          rintro e w8 ⟨L, v8, rfl, rd8, k8, lL, hb8⟩
          have HB := hid (hb8 w8 (Keep.refl _ _))
          have S8 := hid (HS9.out.quiet k8)
          have RD8 := hid rd8
          clear HA rd8 k8 hb8 HS9
          go_wp2_with fail
          refine HB.out.mono ?_
          rintro e w9 ⟨v9, rfl, rd9, k9⟩
          have S9 := hid (S8.out.quiet k9)
          have RD9 := hid (rd_keep RD8.out k9 (fun _ _ h => h))
          have RE9 := hid rd9
          clear rd9 k9 S8 RD8 HB
          go_wp2_with fail
          refine (eqI_yes _ _ L _ RD9.out RE9.out (by omega)).mono ?_
          rintro e w10 ⟨rfl, k10⟩
          have S10 := hid (S9.out.quiet k10)
          clear k10 S9 RD9 RE9
          go_wp2
          go_roundw
          case rel => exact ⟨k + 1, _, by omega, by go_num, rfl, S10⟩
          case measure => simp [intOf]; omega
        | wa a b th s =>
          have p0 := CELL.out 0 _ rfl
          have p1 := CELL.out 1 _ rfl
          have p2 := CELL.out 2 _ rfl
          have p3 := CELL.out 3 _ rfl
          simp only [Nat.add_zero] at p0
          clear CELL HI
          go_wp2_with fail
          refine HSt.out.mono ?_
          rintro e w7 ⟨rfl, hj⟩
          have hsj := SJ.of_to hlo ROW1.out BLK.out hj
          have HSJ := hid hsj
          have HS9 := hid hsj
          clear hj hsj HSt p0 p1 p2 p3 ROW1 BLK
          have HA := hid (open_both HSJ.out hn9)
          clear HSJ
          go_wp2_with fail
          refine HA.out.mono ?_
          rintro e w8 ⟨L, v8, rfl, rd8, k8, lL, hb8⟩
          have HB := hid (hb8 w8 (Keep.refl _ _))
          have S8 := hid (HS9.out.quiet k8)
          have RD8 := hid rd8
          clear HA rd8 k8 hb8 HS9
          go_wp2_with fail
          refine HB.out.mono ?_
          rintro e w9 ⟨v9, rfl, rd9, k9⟩
          have S9 := hid (S8.out.quiet k9)
          have RD9 := hid (rd_keep RD8.out k9 (fun _ _ h => h))
          have RE9 := hid rd9
          clear rd9 k9 S8 RD8 HB
          go_wp2_with fail
          refine (eqI_yes _ _ L _ RD9.out RE9.out (by omega)).mono ?_
          rintro e w10 ⟨rfl, k10⟩
          have S10 := hid (S9.out.quiet k10)
          clear k10 S9 RD9 RE9
          go_wp2
          go_roundw
          case rel => exact ⟨k + 1, _, by omega, by go_num, rfl, S10⟩
          case measure => simp [intOf]; omega
    · obtain rfl : k = l.length := by omega
      obtain ⟨F1, G1, c1, ws1, log1, ops1, hJ, hlo, hrow, hblk⟩ := HR.out
      obtain ⟨gw, wc, la, lc, hr, hF⟩ := hJ.ref.mem.rep
      have s1 := hr.cell1
      have HJ := hid hJ
      have HRR := hid hr
      have hll : log1.length < 1000000000000 := by have := hJ.llog; omega
      have hll' : log1.length ≤ 1000000000000 := by omega
      clear hJ hr hF hrow hblk HR hlt hk hlo
      obtain ⟨wo, rfl⟩ : ∃ wo : World, wo = wr := ⟨_, rfl⟩
      go_wp2
      go_region_held3 (fun w' => w'.cell? ⟨rb, 1, none⟩ = some (.slice la log1.length lc)) (go_keep)
        (first
          | (go_at_call 34; refine (log_all (HJ.out.prog.mem.keep (Keep.refl Nil wo).drew (fun _ _ h => h)) hll).mono ?_; rintro e wA ⟨gA, cA, rfl, rdA, kA', -⟩; have kA : Keep Nil wo wA := (Keep.refl Nil wo).drew.trans kA' (fun _ _ h => h); have pA1 := kA.cell s1 (fun h => h); have RA := hid rdA; clear rdA kA')
          | (go_at_call 33; refine (eqA_yes _ _ log1 _ RA.out (rd_keep (row_rd HRR.out.lrow) kA (fun _ _ h => h)) hll').mono ?_; rintro e wD ⟨rfl, kD'⟩; have kD : Keep Nil wo wD := kA.trans kD' (fun _ _ h => h); have pD1 := kD.cell s1 (fun h => h); clear kD'))
      go_wp2
      go_ret
      exact ⟨rfl, HJ.out.own.trans kD (fun _ _ h => h)⟩
set_option maxRecDepth 100000 in
set_option maxHeartbeats 4000000 in
theorem walk_steps (w : World) (base : Int) (_b0 : (Lit.int .i64 base).wf = true) (n : Int) (_b1 : (Lit.int .i64 n).wf = true) (v : Value) (l : List EvD) (hrd : Rd w 6 v l.length (evCells l)) (hwf : ∀ x ∈ l, EvD.wf x) (hm : l.length ≤ maxLen) :
    Calls Try.prog 12 #[.int .i64 base, .int .i64 n, v] w fun e w' => e = .returned (.bool true) ∧ Keep Nil w w' := by
  obtain ⟨a, cc, rfl, -, -⟩ := id hrd
  unfold maxLen at hm
  by_cases h1 : n < 1
  · have d1 : decide (n < 1) = true := decide_eq_true h1
    clear h1 hwf hrd
    go_enter Try.func12, Try.ntmps12
    go_wp2
    go_ret
    exact ⟨rfl, Keep.refl _ _⟩
  have d1 : decide (n < 1) = false := decide_eq_false h1
  by_cases h2 : 9 < n
  · have d2 : decide (9 < n) = true := decide_eq_true h2
    clear h1 h2 hwf hrd
    go_enter Try.func12, Try.ntmps12
    go_wp2
    go_ret
    exact ⟨rfl, Keep.refl _ _⟩
  have d2 : decide (9 < n) = false := decide_eq_false h2
  by_cases h3 : base < 0
  · have d3 : decide (base < 0) = true := decide_eq_true h3
    clear h1 h2 h3 hwf hrd
    go_enter Try.func12, Try.ntmps12
    go_wp2
    go_ret
    exact ⟨rfl, Keep.refl _ _⟩
  have d3 : decide (base < 0) = false := decide_eq_false h3
  by_cases h4 : 20 < base
  · have d4 : decide (20 < base) = true := decide_eq_true h4
    clear h1 h2 h3 h4 hwf hrd
    go_enter Try.func12, Try.ntmps12
    go_wp2
    go_ret
    exact ⟨rfl, Keep.refl _ _⟩
  have d4 : decide (20 < base) = false := decide_eq_false h4
  by_cases h5 : 300 < l.length
  · have d5 : decide (300 < (l.length : Int)) = true := decide_eq_true (by omega)
    clear h1 h2 h3 h4 h5 hwf hrd
    go_enter Try.func12, Try.ntmps12
    go_wp2
    go_ret
    exact ⟨rfl, Keep.refl _ _⟩
  obtain ⟨bN, rfl⟩ := Int.eq_ofNat_of_zero_le (show 0 ≤ base by omega)
  obtain ⟨nN, rfl⟩ := Int.eq_ofNat_of_zero_le (show 0 ≤ n by omega)
  exact steps_ok bN nN (by omega) (by omega) (by omega) a cc l hrd hwf (by omega)
end
end Go.Proofs.Ytckopbjejjeknaa
