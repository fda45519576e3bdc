/- EachExamples: the walk. -/
import Derived.Test.YtihgfklajhhikaaEachOps4
import Derived.Test.YtihgfklajhhikaaMemNew
import Derived.Test.YtihgfklajhhikaaKit
namespace Go.Lf
def exa (k : Nat) : EWS := if k = 0 then ⟨0, 0, 0⟩ else if k = 1 then ⟨0, 1, 1⟩ else if k = 2 then ⟨1, 0, 1⟩ else ⟨2, 3, 0⟩
def exb (k : Nat) : EWS := if k = 0 then ⟨0, 0, 0⟩ else if k = 1 then ⟨0, 1, 1⟩ else ⟨0, 2, 1⟩
end Go.Lf
namespace Go.Proofs.Ytihgfklajhhikaa
open Go.RowKit Go.Lf
/-- The engine with its memory, both made since a world. -/
structure EEx (w wr : World) (g sb cb mb : Nat) (F : Nat → Prop) (base : Int) (sl : List (Int × Bool)) (ws : List Int) (log : List Acc) : Prop where
  sys : ESys wr g sb cb mb F base sl ws log
  own : Own w F wr
  osb : w.heap.size ≤ sb
section
variable {w wr w' : World} {g sb cb mb : Nat} {F F' S : Nat → Prop} {base : Int} {sl sl' : List (Int × Bool)} {ws ws' : List Int} {log log' : List Acc}
theorem EEx.quiet (h : EEx w wr g sb cb mb F base sl ws log) (hk : Keep Nil wr w') : EEx w w' g sb cb mb F base sl ws log :=
  ⟨h.sys.quiet hk, h.own.quiet hk, h.osb⟩
theorem EEx.adv (h : EEx w wr g sb cb mb F base sl ws log) (hs : ESys w' g sb cb mb F' base sl' ws' log') (hk : Keep S wr w') (hf : Foot wr F F') (hS : ∀ k, S k → F k ∨ w.heap.size ≤ k) : EEx w w' g sb cb mb F' base sl' ws' log' := by
  refine ⟨hs, ⟨h.own.1.trans hk (fun j hj hSj => ?_), h.own.2.trans h.own.1 hf⟩, h.osb⟩
  rcases hS j hSj with e | e
  · rcases h.own.2 j e with h' | h'
    · exact h'
    · exact absurd hj (by omega)
  · exact absurd hj (by omega)
theorem EEx.new (hk : Keep Nil w wr) (hm : MemAt wr mb F ws log) (hF : Foot w Nil F) (he : EEngAt w' g sb cb mb base sl) (k2 : Keep Nil wr w') (l1 : wr.heap.size ≤ g) (l2 : wr.heap.size ≤ sb) (l3 : wr.heap.size ≤ cb) : EEx w w' g sb cb mb F base sl ws log := by
  have nF : ∀ k : Nat, wr.heap.size ≤ k → ¬ F k := fun k h hF => by have := hm.lt k hF; omega
  have := hk.size
  exact ⟨⟨hm.keep k2 (fun _ _ h => h), he, nF g l1, nF sb l2, nF cb l3⟩, ⟨hk.trans k2 (fun _ _ h => h), hF⟩, by omega⟩
theorem EEx.old (h : EEx w wr g sb cb mb F base sl ws log) : w.heap.size ≤ wr.heap.size := h.own.1.size

theorem row_heap {w : World} {e : TypeId} {q n c : Nat} {xs : List Value} (h : w.ownsRow 0 e 1 (.slice (some ⟨q, 0, none⟩) n c) n xs) : ∃ cur, w.heap[q]? = some (.cells cur e (0, 0)) := by
  rcases h.2 with ⟨hz, _⟩ | ⟨g, cap, cur, hv, _, hgb, _⟩
  · cases hz
  · simp only [Value.slice.injEq, Option.some.injEq, Addr.mk.injEq, and_true] at hv
    obtain ⟨rfl, -⟩ := hv
    exact ⟨cur, hgb⟩
/-- Two waits, the engine, and a row of what is wanted. -/
def ExTwo (w : World) (g sb cb mb wa wb : Nat) (sl : List (Int × Bool)) (ws : List Int) (n : Nat) (sa sc : EWS) (q c : Nat) (bs : List Int) (w' : World) : Prop :=
  ∃ F log, EEx w w' g sb cb mb F 0 sl ws log ∧ log.length ≤ n ∧ EWaitAt w' wa g 1 1 sa ∧ EWaitAt w' wb g 1 2 sc ∧ ¬ F wa ∧ ¬ F wb ∧ w.heap.size ≤ wa ∧ w.heap.size ≤ wb ∧ wa ≠ wb ∧
    w'.ownsRow 0 5 1 (.slice (some ⟨q, 0, none⟩) bs.length c) bs.length (bs.map (Value.int .u8)) ∧ ¬ F q ∧ w.heap.size ≤ q ∧ q ≠ wa ∧ q ≠ wb
theorem ExTwo.want {wa wb n q c : Nat} {sa sc : EWS} {bs : List Int} (h : ExTwo w g sb cb mb wa wb sl ws n sa sc q c bs wr) {i : Nat} {x : Int} (hx : bs[i]? = some x) : wr.cell? ⟨q, i, none⟩ = some (.int .u8 x) := by
  obtain ⟨F, log, -, -, -, -, -, -, -, -, -, h10, -⟩ := h
  rw [h10.cellAt i (by have := lt_of_at hx; omega)]
  simp [hx]
theorem ExTwo.stepA {wa wb n q c : Nat} {sa sc : EWS} {bs : List Int} (h : ExTwo w g sb cb mb wa wb sl ws n sa sc q c bs wr) (hn : n < 100) (hp : sa.pos < 2) (hst : sa.st < 3) (x : Int) (x0 : 0 ≤ x) (x1 : x < 64) (hx : ws[sa.addr]? = some x) (hl : sl.length = 2) :
    Calls Try.prog 38 #[.pointer (some ⟨wa, 0, none⟩)] wr fun e w' => e = .returned (.tuple #[.int .u8 (ewpc sa.st), .bool ((sa.step 2 1 x).st == 3)]) ∧ ExTwo w g sb cb mb wa wb sl ws (n + 1) (sa.step 2 1 x) sc q c bs w' := by
  obtain ⟨F, log, h1, h2, h3, h4, h5, h6, h7, h8, h9, h10, h11, h12, h13, h14⟩ := h
  have hc := ewait_step (sn := 1) (by decide) h1.sys h3 h5 (by omega) hst x x0 (fun _ => x1) (by decide) (by decide) (by decide) (by decide) (by rw [show ((0 : Int) + (sa.addr : Int)).toNat = sa.addr by omega]; exact hx) (by omega)
  rw [hl] at hc
  refine hc.mono ?_
  rintro e w' ⟨rfl, F', hs, hw, hk, hf, hn'⟩
  exact ⟨rfl, F', _, h1.adv hs hk hf (fun k hk => hk.elim .inl (fun e => .inr (by rw [e]; exact h7))), by simp; omega, hw, hk.at h4 (fun e => e.elim h6 (fun e => h9 e.symm)), hn', fun e => (hf _ e).elim h6 (fun e => by have := lt_of_block h4; omega), h7, h8, h9,
    row_keep h10 hk (fun k hk e => by simp [Value.ownBlock] at hk; subst hk; exact e.elim h11 h13), fun e => (hf _ e).elim h11 (fun e => by have := (h10.lt q rfl).2; omega), h12, h13, h14⟩
theorem ExTwo.stepB {wa wb n q c : Nat} {sa sc : EWS} {bs : List Int} (h : ExTwo w g sb cb mb wa wb sl ws n sa sc q c bs wr) (hn : n < 100) (hp : sc.pos < 2) (hst : sc.st < 3) (x : Int) (x0 : 0 ≤ x) (x1 : x < 64) (hx : ws[sc.addr]? = some x) (hl : sl.length = 2) :
    Calls Try.prog 38 #[.pointer (some ⟨wb, 0, none⟩)] wr fun e w' => e = .returned (.tuple #[.int .u8 (ewpc sc.st), .bool ((sc.step 2 2 x).st == 3)]) ∧ ExTwo w g sb cb mb wa wb sl ws (n + 1) sa (sc.step 2 2 x) q c bs w' := by
  obtain ⟨F, log, h1, h2, h3, h4, h5, h6, h7, h8, h9, h10, h11, h12, h13, h14⟩ := h
  have hc := ewait_step (sn := 2) (by decide) h1.sys h4 h6 (by omega) hst x x0 (fun _ => x1) (by decide) (by decide) (by decide) (by decide) (by rw [show ((0 : Int) + (sc.addr : Int)).toNat = sc.addr by omega]; exact hx) (by omega)
  rw [hl] at hc
  refine hc.mono ?_
  rintro e w' ⟨rfl, F', hs, hw, hk, hf, hn'⟩
  exact ⟨rfl, F', _, h1.adv hs hk hf (fun k hk => hk.elim .inl (fun e => .inr (by rw [e]; exact h8))), by simp; omega, hk.at h3 (fun e => e.elim h5 h9), hw, fun e => (hf _ e).elim h5 (fun e => by have := lt_of_block h3; omega), hn', h7, h8, h9,
    row_keep h10 hk (fun k hk e => by simp [Value.ownBlock] at hk; subst hk; exact e.elim h11 h14), fun e => (hf _ e).elim h11 (fun e => by have := (h10.lt q rfl).2; omega), h12, h13, h14⟩
theorem infoU8 : (Try.prog.info? 5).map (fun i => (i.zero, i.size, i.bytes)) = some (some (.int .u8 0), 1, 1) := by kernel_rfl
theorem exa_step (k : Nat) (hk : k < 3) : ∃ x, ([1, 1, 0, 0] : List Int)[(exa k).addr]? = some x ∧ 0 ≤ x ∧ x < 64 ∧ (exa k).pos < 2 ∧ (exa k).st < 3 ∧ (exa k).step 2 1 x = exa (k + 1) ∧ ([17, 18, 17] : List Int)[k]? = some (ewpc (exa k).st) ∧ ((exa (k + 1)).st == 3) = (k == 2) := by
  have : k = 0 ∨ k = 1 ∨ k = 2 := by omega
  rcases this with rfl | rfl | rfl
  · exact ⟨1, rfl, by decide, by decide, by decide, by decide, rfl, rfl, rfl⟩
  · exact ⟨1, rfl, by decide, by decide, by decide, by decide, rfl, rfl, rfl⟩
  · exact ⟨0, rfl, by decide, by decide, by decide, by decide, rfl, rfl, rfl⟩
theorem exb_step (k : Nat) (hk : k < 4) : ∃ x, ([1, 1, 0, 0] : List Int)[(exb k).addr]? = some x ∧ 0 ≤ x ∧ x < 64 ∧ (exb k).pos < 2 ∧ (exb k).st < 3 ∧ (exb k).step 2 2 x = exb (k + 1) ∧ ([17, 18, 17, 17] : List Int)[k]? = some (ewpc (exb k).st) ∧ ((exb (k + 1)).st == 3) = false := by
  have : k = 0 ∨ k = 1 ∨ k = 2 ∨ k = 3 := by omega
  rcases this with rfl | rfl | rfl | rfl <;> exact ⟨1, rfl, by decide, by decide, by decide, by decide, rfl, rfl, rfl⟩

set_option maxRecDepth 100000 in
set_option maxHeartbeats 16000000 in
theorem walk_eex (w : World) : Calls Try.prog 8 #[] w fun e w' => e = .returned (.bool true) ∧ Keep Nil w w' := by
  go_enter Try.func8, Try.ntmps8
  go_wp2_with fail
  refine (new_ok _ [0, 0, 0, 0] _ (rd_new _ _ _ 1 4 _ ⟨rfl, rfl⟩) (by simp) (by simp)).mono ?_
  rintro e w2 ⟨mb, F, rfl, hm, k2, f2⟩
  have HM := hid hm
  have HO := hid (Own.fresh ((Keep.refl Nil w).alloc _) k2 f2)
  clear hm k2 f2
  go_wp2_with fail
  refine (enew_ok HM.out (by simp) 0 2 (by decide)).mono ?_
  rintro e w3 ⟨g, sb, cb, rfl, hg, k3, lg, lsb, lcb⟩
  have X3 := hid (EEx.new HO.out.1 HM.out HO.out.2 hg k3 lg lsb lcb)
  clear hg k3 lg lsb lcb HM HO
  have HC := hid (eenter_ok (t := 0) (i := 0) X3.out.sys 1 (by decide) (by decide) (by decide) (by decide) 0 rfl (by decide) (by decide))
  go_wp2_with fail
  refine HC.out.mono ?_
  rintro e w4 ⟨rfl, hs4, he4, hk4, hz4⟩
  have X4 := hid (show EEx w w4 g sb cb mb F 0 [(0, true), (0, false)] [0, 0, 0, 0] [] from X3.out.adv hs4 hk4 (fun k hk => .inl hk) (fun k hk => .inr (by rw [hk]; exact X3.out.osb)))
  have NF := hid (show ¬ F w3.heap.size from fun h => by have := X3.out.sys.mem.lt _ h; omega)
  have LE := hid X3.out.old
  have E4 := hid he4
  clear hs4 he4 hk4 hz4 X3 HC
  generalize w3.heap.size = eb at *
  have HC := hid (estep_mark X4.out.sys E4.out NF.out 0 (by decide) (by decide) (by decide) (by decide) (by decide) (by decide) (by decide) rfl (by decide))
  go_wp2_with fail
  refine HC.out.mono ?_
  rintro e w5 ⟨rfl, F5, hs5, he5, hk5, hf5, hn5⟩
  have X5 := hid (show EEx w w5 g sb cb mb F5 0 [(0, true), (0, false)] [0, 1, 0, 0] [⟨0, 1, 2, 0, 1, false⟩] from X4.out.adv hs5 hk5 hf5 (fun k hk => by
    rcases hk with hk | hk | hk
    · exact .inl hk
    · exact .inr (by rw [hk]; exact X4.out.osb)
    · exact .inr (by rw [hk]; exact LE.out)))
  have E5 := hid he5
  have N5 := hid hn5
  clear hs5 he5 hk5 hf5 hn5 X4 E4 NF HC
  have HC := hid (estep_seq X5.out.sys E5.out N5.out 0 0 true (by decide) (by decide) rfl (by decide) (by decide) (by decide) (by decide) (by decide) rfl (by decide))
  go_wp2_with fail
  refine HC.out.mono ?_
  rintro e w6 ⟨rfl, F6, hs6, he6, hk6, hf6, hn6⟩
  have X6 := hid (show EEx w w6 g sb cb mb F6 0 [(1, false), (0, false)] [1, 1, 0, 0] [⟨0, 1, 2, 0, 1, false⟩, ⟨0, 0, 2, 0, 1, false⟩] from X5.out.adv hs6 hk6 hf6 (fun k hk => by
    rcases hk with hk | hk | hk
    · exact .inl hk
    · exact .inr (by rw [hk]; exact X5.out.osb)
    · exact .inr (by rw [hk]; exact LE.out)))
  clear hs6 he6 hk6 hf6 hn6 X5 E5 N5 LE HC
  have HC := hid (words_ok X6.out.sys.mem (by decide))
  go_wp2_with fail
  refine HC.out.mono ?_
  rintro e w7 ⟨g7, rfl, hg7, hz7, k7⟩
  have RD7 := hid (show Rd w7 1 (.slice (some ⟨g7, 0, none⟩) 4 4) 4 (u64s [1, 1, 0, 0]) from rd_of_heap (size := 1) hg7 (by simp [length_u64s]))
  have X7 := hid (X6.out.quiet k7)
  clear hg7 hz7 k7 X6 HC
  go_wp2_with fail
  refine (eqU_yes _ _ [1, 1, 0, 0] _ (rd_keep RD7.out ((Keep.refl Nil _).alloc _) (fun _ _ h => h)) (rd_new _ _ _ 1 4 _ ⟨rfl, rfl⟩) (by decide)).mono ?_
  rintro e w8 ⟨rfl, k8⟩
  have X8 := hid (X7.out.quiet (((Keep.refl Nil _).alloc _).trans k8 (fun _ _ h => h)))
  clear k8 X7 RD7
  -- the waits
  have HC := hid (@ewait_ok w8 g 1 1 (by decide) (by decide) (by decide))
  go_wp2_with fail
  refine HC.out.mono ?_
  rintro e w9 ⟨rfl, hw9, hk9, hz9⟩
  have X9 := hid (X8.out.quiet hk9)
  have W9 := hid hw9
  have NF := hid (show ¬ F6 w8.heap.size from fun h => by have := X8.out.sys.mem.lt _ h; omega)
  have LE := hid X8.out.old
  clear hw9 hk9 hz9 HC X8
  generalize w8.heap.size = wa at *
  have HC := hid (@ewait_ok w9 g 1 2 (by decide) (by decide) (by decide))
  go_wp2_with fail
  refine HC.out.mono ?_
  rintro e w10 ⟨rfl, hw10, hk10, hz10⟩
  have X10 := hid (X9.out.quiet hk10)
  have NF2 := hid (show ¬ F6 w9.heap.size from fun h => by have := X9.out.sys.mem.lt _ h; omega)
  have LE2 := hid X9.out.old
  have NE := hid (show wa ≠ w9.heap.size from fun e => by have := lt_of_block W9.out; omega)
  have WA := hid (show EWaitAt w10 wa g 1 1 ⟨0, 0, 0⟩ from hk10.at W9.out (fun h => h))
  have WB := hid hw10
  clear hw10 hk10 hz10 HC X9 W9
  generalize w9.heap.size = wb at *
  have kA : Keep Nil w10 (w10.alloc (.cells #[.int .u8 17, .int .u8 18, .int .u8 17] 5)) := (Keep.refl Nil w10).alloc _
  have T0 := hid (show ExTwo w g sb cb mb wa wb [(1, false), (0, false)] [1, 1, 0, 0] (2 + 0) (exa 0) (exb 0) w10.heap.size 3 [17, 18, 17] (w10.alloc (.cells #[.int .u8 17, .int .u8 18, .int .u8 17] 5)) from
    ⟨F6, _, X10.out.quiet kA, by decide, kA.at WA.out (fun h => h), kA.at WB.out (fun h => h), NF.out, NF2.out, LE.out, LE2.out, NE.out, by
      exact World.ownsRow_lit w10 #[.int .u8 17, .int .u8 18, .int .u8 17] 3 (Nat.zero_le _) (by unfold maxLen; omega) rfl, fun h => by have := X10.out.sys.mem.lt _ h; omega, X10.out.old, fun e => by have := lt_of_block WA.out; omega, fun e => by have := lt_of_block WB.out; omega⟩)
  clear kA X10 NF NF2 LE LE2 NE WA WB
  go_wp2
  generalize w10.heap.size = qb at *
  go_loopw [13] (fun i wr => ∃ k : Nat, k ≤ 3 ∧ i = .int .i64 k ∧ Hid (ExTwo w g sb cb mb wa wb [(1, false), (0, false)] [1, 1, 0, 0] (2 + k) (exa k) (exb 0) qb 3 [17, 18, 17] wr)) (fun i _ => 3 - (intOf i).toNat)
  case atStart => exact ⟨0, by omega, rfl, T0⟩
  case round =>
    obtain ⟨k, hk, rfl, HR⟩ := hrel
    clear T0
    by_cases hlt : k < 3
    · obtain ⟨x, a1, a2, a3, a4, a5, a6, a7, a8⟩ := exa_step k hlt
      have hc := HR.out.stepA (by omega) a4 a5 x a2 a3 a1 rfl
      rw [a6, a8] at hc
      have HC := hid hc
      have A7 := hid a7
      have hbe : ((k : Int) == 2) = (k == 2) := by rw [Bool.eq_iff_iff, beq_iff_eq, beq_iff_eq]; omega
      clear hc a1 a2 a3 a4 a5 a6 a7 a8 HR
      go_wp2_with fail
      refine HC.out.mono ?_
      rintro e w12 ⟨rfl, hq⟩
      have cw := hq.want A7.out
      have HQ := hid (show ExTwo w g sb cb mb wa wb [(1, false), (0, false)] [1, 1, 0, 0] (2 + (k + 1)) (exa (k + 1)) (exb 0) qb 3 [17, 18, 17] w12 from hq)
      clear hq HC A7
      go_wp2
      go_roundw
      case rel => exact ⟨k + 1, by omega, by go_num, HQ⟩
      case measure => simp [intOf]; omega
    · obtain rfl : k = 3 := by omega
      have hro : wr.ownsRow 0 5 1 (.slice (some ⟨qb, 0, none⟩) 3 3) 3 [.int .u8 17, .int .u8 18, .int .u8 17] := by
        obtain ⟨F, log, h1, h2, h3, h4, h5, h6, h7, h8, h9, h10, h11⟩ := HR.out
        exact h10
      have HRO := hid hro
      clear hro hlt hk
      go_wp2_with (at_builtin; refine wpList_app _ rfl (.tmp 133) (.tmp 134) 77 rfl 5 _ 1 1 Try.underlying77 infoU8 rfl (by decide) (.slice (some ⟨qb, 0, none⟩) 3 3) 3 [.int .u8 17, .int .u8 18, .int .u8 17] rfl ?own _ 1 [.int .u8 17] rfl ?rd ?one ?byt ?len ?_)
      case own => exact HRO.out.alloc _
      case rd => exact rd_new _ _ _ _ _ _
      case one => simp [Value.oneCell']
      case byt => omega
      case len => unfold maxLen; omega
      intro a' c' w12 ho hg hs
      obtain ⟨q2, rfl⟩ : ∃ q2, a' = some ⟨q2, 0, none⟩ := by
        rcases ho.2 with ⟨_, hz⟩ | ⟨g, cap, cur, hv, _⟩
        · omega
        · simp only [Value.slice.injEq] at hv; exact ⟨g, hv.1⟩
      have T1 := hid (show ExTwo w g sb cb mb wa wb [(1, false), (0, false)] [1, 1, 0, 0] (5 + 0) (exa 3) (exb 0) q2 c' [17, 18, 17, 17] w12 from by
        obtain ⟨F, log, h1, h2, h3, h4, h5, h6, h7, h8, h9, h10, h11, h12, h13, h14⟩ := HR.out
        have kg : Keep (fun k => k = qb) wr w12 := Keep.grown ((Keep.refl (fun k => k = qb) wr).alloc _) hg (fun j hj => .inl (by simp [Value.ownBlock] at hj; exact hj.symm))
        have hq := hs q2 rfl
        have hqq : q2 = qb ∨ wr.heap.size < q2 + 1 := by
          rcases hq with h | h
          · exact .inl (by simp [Value.ownBlock] at h; exact h.symm)
          · simp at h; exact .inr (by omega)
        refine ⟨F, log, ⟨h1.sys.keep kg (fun k hF e => h11 (by rw [← e]; exact hF)) ?_ ?_ ?_, ⟨h1.own.1.trans kg (fun j hj e => by omega), h1.own.2⟩, h1.osb⟩, h2, kg.at h3 (fun e => h13 e.symm), kg.at h4 (fun e => h14 e.symm), h5, h6, h7, h8, h9, ho, ?_, ?_, ?_, ?_⟩
        · intro e; obtain ⟨cur, hcur⟩ := row_heap h10; exact type_ne hcur h1.sys.eng.head (by decide) e.symm
        · intro e; obtain ⟨cur, hcur⟩ := row_heap h10; exact type_ne hcur h1.sys.eng.slots (by decide) e.symm
        · intro e; obtain ⟨cur, hcur⟩ := row_heap h10; exact type_ne hcur h1.sys.eng.cap (by decide) e.symm
        · intro hF; rcases hqq with e | e
          · subst e; exact h11 hF
          · have := h1.sys.mem.lt _ hF; omega
        · rcases hqq with e | e
          · omega
          · have := h1.old; omega
        · rcases hqq with e | e
          · subst e; exact h13
          · intro e2; subst e2; have := lt_of_block h3; omega
        · rcases hqq with e | e
          · subst e; exact h14
          · intro e2; subst e2; have := lt_of_block h4; omega)
      clear ho hg hs HRO HR
      go_wp2
      go_loopw [16] (fun i wr => ∃ k : Nat, k ≤ 4 ∧ i = .int .i64 k ∧ Hid (ExTwo w g sb cb mb wa wb [(1, false), (0, false)] [1, 1, 0, 0] (5 + k) (exa 3) (exb k) q2 c' [17, 18, 17, 17] wr)) (fun i _ => 4 - (intOf i).toNat)
      case atStart => exact ⟨0, by omega, rfl, T1⟩
      case round =>
        obtain ⟨k, hk, rfl, HR⟩ := hrel
        clear T1
        by_cases hlt : k < 4
        · obtain ⟨x, a1, a2, a3, a4, a5, a6, a7, a8⟩ := exb_step k hlt
          have hc := HR.out.stepB (by omega) a4 a5 x a2 a3 a1 rfl
          rw [a6, a8] at hc
          have HC := hid hc
          have A7 := hid a7
          clear hc a1 a2 a3 a4 a5 a6 a7 a8 HR
          go_wp2_with fail
          refine HC.out.mono ?_
          rintro e w13 ⟨rfl, hq⟩
          have cw := hq.want A7.out
          have HQ := hid (show ExTwo w g sb cb mb wa wb [(1, false), (0, false)] [1, 1, 0, 0] (5 + (k + 1)) (exa 3) (exb (k + 1)) q2 c' [17, 18, 17, 17] w13 from hq)
          clear hq HC A7
          go_wp2
          go_roundw
          case rel => exact ⟨k + 1, by omega, by go_num, HQ⟩
          case measure => simp [intOf]; omega
        · obtain rfl : k = 4 := by omega
          obtain ⟨F7, log7, h1, h2, h3, h4, h5, h6, h7, h8, h9, h10⟩ := HR.out
          have X1 := hid h1
          have L1 := hid h2
          have WB := hid (show EWaitAt wr wb g 1 2 ⟨0, 2, 1⟩ from h4)
          have NB := hid h6
          have LB := hid h8
          clear h1 h2 h3 h4 h5 h6 h7 h8 h9 h10 HR hlt hk
          have HC := hid (eexit_ok (t := 0) (i := 0) X1.out.sys 1 1 false (by decide) (by decide) rfl (by decide) (by decide) (by decide) (by decide) (by decide) (by decide) rfl (by have := L1.out; omega))
          go_wp2_with fail
          refine HC.out.mono ?_
          rintro e w14 ⟨rfl, F8, hs8, hk8, hf8⟩
          have X2 := hid (show EEx w w14 g sb cb mb F8 0 [(2, false), (0, false)] [2, 1, 0, 0] (log7 ++ [⟨0, 0, 2, 1, 2, false⟩]) from X1.out.adv hs8 hk8 hf8 (fun k hk => by
            rcases hk with hk | hk
            · exact .inl hk
            · exact .inr (by rw [hk]; exact X1.out.osb)))
          have WB2 := hid (show EWaitAt w14 wb g 1 2 ⟨0, 2, 1⟩ from hk8.at WB.out (fun hk => by
            rcases hk with hk | hk
            · exact NB.out hk
            · exact type_ne WB.out X1.out.sys.eng.slots (by decide) hk))
          have NB2 := hid (show ¬ F8 wb from fun h => (hf8 wb h).elim NB.out (fun h => by have := lt_of_block WB.out; omega))
          clear hs8 hk8 hf8 X1 WB NB HC
          have HC := hid (ewait_step (sn := 2) (by decide) X2.out.sys WB2.out NB2.out (by decide) (by decide) 2 (by decide) (by decide) (by decide) (by decide) (by decide) (by decide) rfl (by have := L1.out; simp; omega))
          go_wp2_with fail
          refine HC.out.mono ?_
          rintro e w15 ⟨rfl, F9, hs9, hw9, hk9, hf9, hn9⟩
          have X3 := hid (X2.out.adv hs9 hk9 hf9 (fun k hk => by
            rcases hk with hk | hk
            · exact .inl hk
            · exact .inr (by rw [hk]; exact LB.out)))
          have WB3 := hid (show EWaitAt w15 wb g 1 2 ⟨1, 0, 1⟩ from hw9)
          have NB3 := hid hn9
          clear hs9 hk9 hf9 hw9 hn9 X2 WB2 NB2 HC
          have HC := hid (ewait_step (sn := 2) (by decide) X3.out.sys WB3.out NB3.out (by decide) (by decide) 0 (by decide) (by decide) (by decide) (by decide) (by decide) (by decide) rfl (by have := L1.out; simp; omega))
          go_wp2_with fail
          refine HC.out.mono ?_
          rintro e w16 ⟨rfl, F10, hs10, hw10, hk10, hf10, hn10⟩
          have X4 := hid (X3.out.adv hs10 hk10 hf10 (fun k hk => by
            rcases hk with hk | hk
            · exact .inl hk
            · exact .inr (by rw [hk]; exact LB.out)))
          clear hs10 hk10 hf10 hw10 hn10 X3 WB3 NB3 HC
          have HC := hid (eexit_state (t := 0) (i := 0) (b := false) X4.out.sys.eng (by decide) (by decide) (x := 2) rfl (by decide) (by decide))
          go_wp2_with fail
          refine HC.out.mono ?_
          rintro e w17 ⟨rfl, rfl⟩
          clear HC
          go_wp2_with fail
          refine (ewait_zero g (by decide) (by decide)).mono ?_
          rintro e w17 ⟨rfl, rfl⟩
          have HC := hid (eenter_value (t := 0) (i := 0) (v := 64) X4.out.sys.eng (by decide) (by decide) (by decide) (.inr (by decide)))
          go_wp2_with fail
          refine HC.out.mono ?_
          rintro e w17 ⟨rfl, rfl⟩
          clear HC
          have HC := hid (fun (wq : World) => eenter_slot (v := 0) (e0 := 1) (@eslot_nil wq 0 0) (by decide))
          go_wp2_with fail
          refine (HC.out _).mono ?_
          rintro e w17 ⟨rfl, rfl⟩
          clear HC
          have HC := hid (fun (wq : World) => eexit_slot (e0 := 1) (@eslot_nil wq 0 0) (by decide))
          go_wp2_with fail
          refine (HC.out _).mono ?_
          rintro e w17 ⟨rfl, rfl⟩
          clear HC
          have HC := hid (fun (wq : World) => ewait_thread (set := 1) (e0 := 1) (@ethread_nil wq 0) (by decide))
          go_wp2_with fail
          refine (HC.out _).mono ?_
          rintro e w17 ⟨rfl, rfl⟩
          clear HC
          go_wp2_with fail
          refine estep_nil.mono ?_
          rintro e w18 ⟨rfl, k18⟩
          have X5 := hid (X4.out.quiet k18)
          clear k18 X4
          go_wp2_with fail
          refine ewait_nil.mono ?_
          rintro e w19 ⟨rfl, rfl⟩
          go_wp2_with fail
          refine eopen_nil.mono ?_
          rintro e w19 ⟨rfl, rfl⟩
          go_wp2
          go_ret
          exact ⟨rfl, X5.out.own.1⟩
end
end Go.Proofs.Ytihgfklajhhikaa
