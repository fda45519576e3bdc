/- leapfrogref17: the methods of its engine: contracts. -/
import Derived.Test.YtihgfklajhhikaaEachOps4
import Derived.Test.YtihgfklajhhikaaFits
namespace Go.Lf
/-- The errors of entering a section. -/
def ckE (t s v : Int) (n : Nat) (b : Bool) : Int := if t < 0 ∨ 64 ≤ t then 2 else if s < 0 ∨ (n : Int) ≤ s then 3 else if v < 0 ∨ 64 ≤ v then 2 else if b then 8 else 0
end Go.Lf
namespace Go.Proofs.Ytihgfklajhhikaa
open Go.RowKit Go.Lf
/-- The reference's slots: number, begun, there. -/
def slotCells : List (Int × Bool × Bool) → List Value := fun l => l.flatMap fun p => [.int .u64 p.1, .bool p.2.1, .bool p.2.2]
structure REngAt (w : World) (g sb mb : Nat) (base : Int) (sl : List (Int × Bool × Bool)) : Prop where
  head : w.heap[g]? = some (.cells #[.pointer (some ⟨mb, 0, none⟩), .int .i64 base, .slice (some ⟨sb, 0, none⟩) sl.length sl.length] 161 (0, 0))
  slots : w.heap[sb]? = some (.cells (slotCells sl).toArray 183 (0, 0))
  ne : g ≠ sb
theorem infoSlot : (Try.prog.info? 183).map (fun i => (i.zero, i.size, i.bytes)) = some (some (.agg #[.int .u64 0, .bool false, .bool false]), 3, 16) := by kernel_rfl
theorem slots_made (n : Nat) : madeCells (#[.int .u64 0, .bool false, .bool false] : Array Value) (n * 3) = (slotCells (List.replicate n (0, false, false))).toArray := by
  apply Array.ext'
  rw [madeCells, Array.toList_map, Array.toList_range]
  induction n with
  | zero => rfl
  | succ n ih =>
    have e : (n + 1) * 3 = n * 3 + 1 + 1 + 1 := by omega
    rw [e, List.range_succ, List.range_succ, List.range_succ, List.replicate_succ', List.map_append, List.map_append, List.map_append, ih]
    have a0 : n * 3 % 3 = 0 := by omega
    have a1 : (n * 3 + 1) % 3 = 1 := by omega
    have a2 : (n * 3 + 1 + 1) % 3 = 2 := by omega
    simp [slotCells, a0, a1, a2]
def RFNewTo (w : World) (mb : Nat) (base : Int) (n : Nat) (e : Ending) (w' : World) : Prop :=
  ∃ g sb, e = .returned (.tuple #[.pointer (some ⟨g, 0, none⟩), .int .i64 0]) ∧ REngAt w' g sb mb base (List.replicate n (0, false, false)) ∧ Keep Nil w w' ∧ w.heap.size ≤ g ∧ w.heap.size ≤ sb

section
variable {w : World} {mb : Nat} {F : Nat → Prop} {ws : List Int} {log : List Acc}
set_option maxHeartbeats 1000000 in
theorem rfnew17_ok (h : RefAt w mb F ws log) (hl : ws.length ≤ 65536) (base : Int) (n : Nat) (he : pErr 2 64 base n ws.length = 0) :
    Calls Try.prog 26 #[.pointer (some ⟨mb, 0, none⟩), .int .i64 base, .int .i64 n] w (RFNewTo w mb base n) := by
  obtain ⟨n0, n1, b0, b1⟩ := pErr_zero he
  have HF := hid (fits_ok h base (2 * n) (by omega) (by omega) b0 b1)
  have HW := hid (@rewords_ok w n ⟨n0, n1⟩)
  clear h he hl b1
  go_enter Try.func26, Try.ntmps26
  go_wp2_with fail
  refine HW.out.mono ?_
  rintro e w' ⟨rfl, rfl⟩
  go_wp2_with fail
  refine HF.out.mono ?_
  rintro e w' ⟨rfl, rfl⟩
  go_wp2_with (at_make; refine wpList_mk _ rfl _ _ 159 rfl 183 _ 3 16 Try.underlying159 infoSlot _ _ (n : Int) rfl rfl ?p0 ?p1 ?p2 ?_)
  case p0 => omega
  case p1 => omega
  case p2 => omega
  intro w1 hh hk hz
  have HH := hid hh
  have HK := hid hk
  have HZ := hid hz
  clear hh hk hz
  go_wp2
  go_ret2
  have h2 := heap_alloc_new w1 (.cells #[.pointer (some ⟨mb, 0, none⟩), .int .i64 base, .slice (some ⟨w.heap.size, 0, none⟩) n n] 161)
  have h1 := HH.out
  rw [slots_made] at h1
  refine ⟨_, _, rfl, ⟨by rw [List.length_replicate]; exact h2, alloc_old h1 _, by have := HZ.out; omega⟩, HK.out.alloc _, by have := HZ.out; omega, Nat.le_refl _⟩
end
/-- The reference's engine and its memory. -/
structure RSys (w : World) (h sb rb : Nat) (G : Nat → Prop) (base : Int) (sl : List (Int × Bool × Bool)) (ws : List Int) (log : List Acc) : Prop where
  mem : RefAt w rb G ws log
  eng : REngAt w h sb rb base sl
  f1 : ¬ G h
  f2 : ¬ G sb
def RSysTo (w : World) (h sb rb : Nat) (G : Nat → Prop) (base : Int) (sl : List (Int × Bool × Bool)) (ws : List Int) (log : List Acc) (w' : World) : Prop :=
  ∃ G', RSys w' h sb rb G' base sl ws log ∧ Keep (fun k => G k ∨ k = sb) w w' ∧ Foot w G G'
/-- The reference's Enter with k steps made. -/
def REntAt (w : World) (eb h : Nat) (t : Int) (i : Nat) (v : Int) (k : Nat) : Prop :=
  w.heap[eb]? = some (.cells #[.pointer (some ⟨h, 0, none⟩), .int .i64 t, .int .i64 i, .int .i64 v, .int .u8 (epc k)] 186 (0, 0))
def RWaitAt (w : World) (wb h : Nat) (t set : Int) (s : EWS) (rs : Int) : Prop :=
  w.heap[wb]? = some (.cells #[.pointer (some ⟨h, 0, none⟩), .int .i64 t, .int .i64 s.pos, .int .u64 set, .int .u64 rs, .bool (s.st == 2), .int .u8 (ewpc s.st)] 188 (0, 0))

section
variable {w : World} {h sb rb : Nat} {G : Nat → Prop} {base : Int} {sl : List (Int × Bool × Bool)} {ws : List Int} {log : List Acc} {eb wb : Nat} {t v x set rs : Int} {i k : Nat} {s : EWS}
theorem REntAt.cells (he : REntAt w eb h t i v k) : w.cell? ⟨eb, 0, none⟩ = some (.pointer (some ⟨h, 0, none⟩)) ∧ w.cell? ⟨eb, 1, none⟩ = some (.int .i64 t) ∧ w.cell? ⟨eb, 2, none⟩ = some (.int .i64 i) ∧ w.cell? ⟨eb, 3, none⟩ = some (.int .i64 v) ∧ w.cell? ⟨eb, 4, none⟩ = some (.int .u8 (epc k)) := by
  refine ⟨?_, ?_, ?_, ?_, ?_⟩ <;> (rw [cell_of he]; rfl)
theorem RWaitAt.cells (hw : RWaitAt w wb h t set s rs) : w.cell? ⟨wb, 0, none⟩ = some (.pointer (some ⟨h, 0, none⟩)) ∧ w.cell? ⟨wb, 1, none⟩ = some (.int .i64 t) ∧ w.cell? ⟨wb, 2, none⟩ = some (.int .i64 s.pos) ∧ w.cell? ⟨wb, 3, none⟩ = some (.int .u64 set) ∧ w.cell? ⟨wb, 4, none⟩ = some (.int .u64 rs) ∧ w.cell? ⟨wb, 5, none⟩ = some (.bool (s.st == 2)) ∧ w.cell? ⟨wb, 6, none⟩ = some (.int .u8 (ewpc s.st)) := by
  refine ⟨?_, ?_, ?_, ?_, ?_, ?_, ?_⟩ <;> (rw [cell_of hw]; rfl)
theorem REngAt.keep {w' : World} {S : Nat → Prop} (he : REngAt w h sb rb base sl) (hk : Keep S w w') (h1 : ¬ S h) (h2 : ¬ S sb) : REngAt w' h sb rb base sl := ⟨hk.at he.head h1, hk.at he.slots h2, he.ne⟩
theorem REngAt.quiet {w' : World} (he : REngAt w h sb rb base sl) (hk : Keep Nil w w') : REngAt w' h sb rb base sl := he.keep hk (fun h => h) (fun h => h)
theorem RSys.keep {w' : World} {S : Nat → Prop} (he : RSys w h sb rb G base sl ws log) (hk : Keep S w w') (hd : ∀ k, G k → ¬ S k) (h1 : ¬ S h) (h2 : ¬ S sb) : RSys w' h sb rb G base sl ws log := ⟨he.mem.keep hk hd, he.eng.keep hk h1 h2, he.f1, he.f2⟩
theorem RSys.quiet {w' : World} (he : RSys w h sb rb G base sl ws log) (hk : Keep Nil w w') : RSys w' h sb rb G base sl ws log := he.keep hk (fun _ _ h => h) (fun h => h) (fun h => h)
theorem REngAt.cells (he : REngAt w h sb rb base sl) : w.cell? ⟨h, 0, none⟩ = some (.pointer (some ⟨rb, 0, none⟩)) ∧ w.cell? ⟨h, 1, none⟩ = some (.int .i64 base) ∧ w.cell? ⟨h, 2, none⟩ = some (.slice (some ⟨sb, 0, none⟩) sl.length sl.length) := by
  refine ⟨?_, ?_, ?_⟩ <;> (rw [cell_of he.head]; rfl)
theorem REngAt.slot (he : REngAt w h sb rb base sl) {b d : Bool} (hx : sl[i]? = some (x, b, d)) : w.cell? ⟨sb, i * 3, none⟩ = some (.int .u64 x) ∧ w.cell? ⟨sb, i * 3 + 1, none⟩ = some (.bool b) ∧ w.cell? ⟨sb, i * 3 + 2, none⟩ = some (.bool d) := by
  have key : ∀ j, j < 3 → w.cell? ⟨sb, i * 3 + j, none⟩ = [Value.int .u64 x, .bool b, .bool d][j]? := fun j hj => by
    rw [cell_of he.slots]
    have := flatn_at (fun p : Int × Bool × Bool => [Value.int .u64 p.1, .bool p.2.1, .bool p.2.2]) 3 (fun _ => rfl) sl hx hj
    simpa [slotCells] using this
  exact ⟨key 0 (by decide), key 1 (by decide), key 2 (by decide)⟩
theorem reng_set (he : REngAt w h sb rb base sl) {p p' : Int × Bool × Bool} (hx : sl[i]? = some p) {j : Nat} (hj : j < 3) (u : Value) (hu : [Value.int .u64 p'.1, .bool p'.2.1, .bool p'.2.2] = [Value.int .u64 p.1, .bool p.2.1, .bool p.2.2].set j u) : REngAt (w.setCell ⟨sb, i * 3 + j, none⟩ u) h sb rb base (sl.set i p') := by
  have k : Keep (fun k => k = sb) w (w.setCell ⟨sb, i * 3 + j, none⟩ u) := Keep.setCell (Keep.refl (fun k => k = sb) w) (.inl rfl) _
  refine ⟨by rw [List.length_set]; exact k.at he.head he.ne, ?_, he.ne⟩
  rw [set_same he.slots, ← show (slotCells sl).set (i * 3 + j) u = slotCells (sl.set i p') from flatn_set (fun p : Int × Bool × Bool => [Value.int .u64 p.1, .bool p.2.1, .bool p.2.2]) 3 (fun _ => rfl) sl hx hj _ hu]
  simp

/-! Check. -/
set_option maxHeartbeats 1000000 in
theorem rck_any (t s v : Int) (n : Nat) (b : Bool) : Calls Try.prog 79 #[.int .i64 t, .int .i64 s, .int .i64 v, .int .i64 n, .bool b] w fun e w' => e = .returned (.int .i64 (ckE t s v n b)) ∧ w = w' := by
  by_cases ht : t < 0 ∨ 64 ≤ t
  · rw [show ckE t s v n b = 2 from if_pos ht]
    have HT := hid (thread_no t ht w)
    clear ht
    go_enter Try.func79, Try.ntmps79
    go_wp2_with fail
    refine HT.out.mono ?_
    rintro e w' ⟨rfl, rfl⟩
    go_wp2
    go_ret
    exact ⟨rfl, rfl⟩
  have HT := hid (thread_yes t (by omega) (by omega) w)
  have e0 : ckE t s v n b = if s < 0 ∨ (n : Int) ≤ s then 3 else if v < 0 ∨ 64 ≤ v then 2 else if b then 8 else 0 := if_neg ht
  clear ht
  by_cases hs : s < 0 ∨ (n : Int) ≤ s
  · rw [e0, if_pos hs]
    clear e0
    by_cases h1 : s < 0
    · have d1 : decide (s < 0) = true := decide_eq_true h1
      clear hs h1
      go_enter Try.func79, Try.ntmps79
      go_wp2_with fail
      refine HT.out.mono ?_
      rintro e w' ⟨rfl, rfl⟩
      go_wp2
      go_ret
      exact ⟨rfl, rfl⟩
    · have d1 : decide (s < 0) = false := decide_eq_false h1
      have d2 : decide ((n : Int) ≤ s) = true := decide_eq_true (by omega)
      clear hs h1
      go_enter Try.func79, Try.ntmps79
      go_wp2_with fail
      refine HT.out.mono ?_
      rintro e w' ⟨rfl, rfl⟩
      go_wp2
      go_ret
      exact ⟨rfl, rfl⟩
  have d1 : decide (s < 0) = false := decide_eq_false (by omega)
  have d2 : decide ((n : Int) ≤ s) = false := decide_eq_false (by omega)
  rw [e0, if_neg hs]
  clear e0 hs
  by_cases hv : v < 0 ∨ 64 ≤ v
  · rw [if_pos hv]
    by_cases h1 : v < 0
    · have d3 : decide (v < 0) = true := decide_eq_true h1
      clear hv h1
      go_enter Try.func79, Try.ntmps79
      go_wp2_with fail
      refine HT.out.mono ?_
      rintro e w' ⟨rfl, rfl⟩
      go_wp2
      go_ret
      exact ⟨rfl, rfl⟩
    · have d3 : decide (v < 0) = false := decide_eq_false h1
      have d4 : decide (64 ≤ v) = true := decide_eq_true (by omega)
      clear hv h1
      go_enter Try.func79, Try.ntmps79
      go_wp2_with fail
      refine HT.out.mono ?_
      rintro e w' ⟨rfl, rfl⟩
      go_wp2
      go_ret
      exact ⟨rfl, rfl⟩
  have d3 : decide (v < 0) = false := decide_eq_false (by omega)
  have d4 : decide (64 ≤ v) = false := decide_eq_false (by omega)
  rw [if_neg hv]
  clear hv
  cases b
  all_goals
    go_enter Try.func79, Try.ntmps79
    go_wp2_with fail
    refine HT.out.mono ?_
    rintro e w' ⟨rfl, rfl⟩
    go_wp2
    go_ret
    exact ⟨rfl, rfl⟩

/-! Enter. -/
set_option maxHeartbeats 2000000 in
theorem rfenter_out (he : REngAt w h sb rb base sl) (s0 : Int) (hs : s0 < 0 ∨ (sl.length : Int) ≤ s0) :
    Calls Try.prog 40 #[.pointer (some ⟨h, 0, none⟩), .int .i64 t, .int .i64 s0, .int .i64 v] w fun e w' => e = .returned (.tuple #[.pointer none, .int .i64 (ckE t s0 v sl.length false)]) ∧ w = w' := by
  obtain ⟨c0, c1, c2⟩ := he.cells
  have HC := hid (@rck_any w t s0 v sl.length false)
  have hne : ckE t s0 v sl.length false ≠ 0 := by
    unfold ckE; split
    · decide
    · first | decide | (rw [if_pos hs]; decide)
  obtain ⟨e0, he0⟩ : ∃ e0, e0 = ckE t s0 v sl.length false := ⟨_, rfl⟩
  rw [← he0] at HC hne ⊢
  have d9 : (e0 != 0) = true := bne_iff_ne.2 hne
  clear he c0 c1 he0 hne
  by_cases h1 : s0 < 0
  · have d1 : decide (0 ≤ s0) = false := decide_eq_false (by omega)
    clear hs h1
    go_enter Try.func40, Try.ntmps40
    go_wp2_with fail
    refine HC.out.mono ?_
    rintro e w' ⟨rfl, rfl⟩
    go_wp2
    go_ret2
    exact ⟨rfl, rfl⟩
  · have d1 : decide (0 ≤ s0) = true := decide_eq_true (by omega)
    have d2 : decide (s0 < (sl.length : Int)) = false := decide_eq_false (by omega)
    clear hs h1
    go_enter Try.func40, Try.ntmps40
    go_wp2_with fail
    refine HC.out.mono ?_
    rintro e w' ⟨rfl, rfl⟩
    go_wp2
    go_ret2
    exact ⟨rfl, rfl⟩
set_option maxHeartbeats 2000000 in
theorem rfenter_err (he : REngAt w h sb rb base sl) {b d : Bool} (hx : sl[i]? = some (x, b, d)) (hne : ckE t i v sl.length b ≠ 0) :
    Calls Try.prog 40 #[.pointer (some ⟨h, 0, none⟩), .int .i64 t, .int .i64 i, .int .i64 v] w fun e w' => e = .returned (.tuple #[.pointer none, .int .i64 (ckE t i v sl.length b)]) ∧ w = w' := by
  obtain ⟨c0, c1, c2⟩ := he.cells
  obtain ⟨s1, s2, s3⟩ := he.slot hx
  have l0 := lt_of_at hx
  have HC := hid (@rck_any w t i v sl.length b)
  obtain ⟨e0, he0⟩ : ∃ e0, e0 = ckE t i v sl.length b := ⟨_, rfl⟩
  rw [← he0] at HC hne ⊢
  have d9 : (e0 != 0) = true := bne_iff_ne.2 hne
  have d1 : decide (0 ≤ (i : Int)) = true := decide_eq_true (by omega)
  have d2 : decide ((i : Int) < (sl.length : Int)) = true := decide_eq_true (by omega)
  have z0 : (0 : Int) ≤ (i : Int) := by omega
  have z1 : (i : Int) < (sl.length : Int) := by omega
  clear he hx c0 c1 he0 hne
  cases b
  all_goals
    go_enter Try.func40, Try.ntmps40
    go_wp2_with fail
    refine HC.out.mono ?_
    rintro e w' ⟨rfl, rfl⟩
    go_wp2
    go_ret2
    exact ⟨rfl, rfl⟩
def RFEnterTo (w : World) (h sb rb : Nat) (G : Nat → Prop) (base : Int) (sl : List (Int × Bool × Bool)) (ws : List Int) (log : List Acc) (t : Int) (i : Nat) (v : Int) (e : Ending) (w' : World) : Prop :=
  e = .returned (.tuple #[.pointer (some ⟨w.heap.size, 0, none⟩), .int .i64 0]) ∧ RSys w' h sb rb G base sl ws log ∧ REntAt w' w.heap.size h t i v 0 ∧ Keep (fun k => k = sb) w w' ∧ w'.heap.size = w.heap.size + 1
set_option maxRecDepth 100000 in
set_option maxHeartbeats 2000000 in
theorem rfenter_ok (he : RSys w h sb rb G base sl ws log) {d : Bool} (hx : sl[i]? = some (x, false, d)) (h0 : ckE t i v sl.length false = 0) :
    Calls Try.prog 40 #[.pointer (some ⟨h, 0, none⟩), .int .i64 t, .int .i64 i, .int .i64 v] w (RFEnterTo w h sb rb G base (sl.set i (x, true, d)) ws log t i v) := by
  obtain ⟨c0, c1, c2⟩ := he.eng.cells
  obtain ⟨s1, s2, s3⟩ := he.eng.slot hx
  have l0 := lt_of_at hx
  have hc := @rck_any w t i v sl.length false
  rw [h0] at hc
  have HC := hid hc
  have d1 : decide (0 ≤ (i : Int)) = true := decide_eq_true (by omega)
  have d2 : decide ((i : Int) < (sl.length : Int)) = true := decide_eq_true (by omega)
  have z0 : (0 : Int) ≤ (i : Int) := by omega
  have z1 : (i : Int) < (sl.length : Int) := by omega
  have zf : w.frozen? ⟨sb, i * 3 + 1, none⟩ = false := free_of he.eng.slots _
  have H := hid he
  have HX := hid hx
  clear he hx c0 c1 h0 hc
  go_enter Try.func40, Try.ntmps40
  go_wp2_with fail
  refine HC.out.mono ?_
  rintro e w' ⟨rfl, rfl⟩
  go_wp2
  go_ret2
  have hsz : (w.setCell ⟨sb, i * 3 + 1, none⟩ (.bool true)).heap.size = w.heap.size := by simp
  have kW : Keep (fun k => k = sb) w ((w.setCell ⟨sb, i * 3 + 1, none⟩ (.bool true)).alloc (.cells #[.pointer (some ⟨h, 0, none⟩), .int .i64 t, .int .i64 i, .int .i64 v, .int .u8 14] 186)) := (Keep.setCell (Keep.refl (fun k => k = sb) w) (.inl rfl) _).alloc _
  refine ⟨rfl, ⟨H.out.mem.keep kW (fun k hF e => H.out.f2 (by rw [← e]; exact hF)), (reng_set H.out.eng HX.out (j := 1) (by decide) (.bool true) rfl).quiet ((Keep.refl Nil _).alloc _), H.out.f1, H.out.f2⟩, ?_, kW, by simp⟩
  have hq := heap_alloc_new (w.setCell ⟨sb, i * 3 + 1, none⟩ (.bool true)) (.cells #[.pointer (some ⟨h, 0, none⟩), .int .i64 t, .int .i64 i, .int .i64 v, .int .u8 14] 186)
  rw [hsz] at hq
  exact hq

/-! store. -/
set_option maxRecDepth 100000 in
set_option maxHeartbeats 2000000 in
theorem rfstore_ok (he : RSys w h sb rb G base sl ws log) (t : Int) (i : Nat) (x y : Int) {b d : Bool} (t0 : 0 ≤ t) (t1 : t < 64) (hx : sl[i]? = some (x, b, d)) (x0 : 0 ≤ x) (x1 : x < 1000000000000) (b0 : 0 ≤ base) (b1 : base < 1000000) (hn : sl.length < 1000000) (hy : ws[(base + 2 * i).toNat]? = some y) (hlog : log.length < 1000000000000) :
    Calls Try.prog 81 #[.pointer (some ⟨h, 0, none⟩), .int .i64 t, .int .i64 i] w fun e w' => e = .returned (.tuple #[]) ∧ RSysTo w h sb rb G base (sl.set i (x + 1, b, d)) (ws.set (base + 2 * i).toNat (x + 1)) (log ++ [⟨t, base + 2 * i, 2, y, x + 1, false⟩]) w' := by
  obtain ⟨c0, c1, c2⟩ := he.eng.cells
  obtain ⟨s1, -, -⟩ := he.eng.slot hx
  have l0 := lt_of_at hx
  have zf : w.frozen? ⟨sb, i * 3, none⟩ = false := free_of he.eng.slots _
  have H := hid he
  have hw : IntKind.u64.wrap (x + 1) = x + 1 := by rw [IntKind.wrap_u64]; omega
  have HY := hid hy
  have HX := hid hx
  have z0 : (0 : Int) ≤ (i : Int) := by omega
  have z1 : (i : Int) < (sl.length : Int) := by omega
  clear he hy hx c0 c1
  go_enter Try.func81, Try.ntmps81
  go_wp2
  obtain ⟨W, hW⟩ : ∃ W, W = w.setCell ⟨sb, i * 3, none⟩ (.int .u64 (x + 1)) := ⟨_, rfl⟩
  rw [← hW]
  have kW : Keep (fun k => k = sb) w W := by rw [hW]; exact Keep.setCell (Keep.refl (fun k => k = sb) w) (.inl rfl) _
  have eW : REngAt W h sb rb base (sl.set i (x + 1, b, d)) := by rw [hW]; exact reng_set H.out.eng HX.out (j := 0) (by decide) (.int .u64 (x + 1)) rfl
  have mW : RefAt W rb G ws log := H.out.mem.keep kW (fun k hF e => H.out.f2 (by rw [← e]; exact hF))
  obtain ⟨d0, d1, d2⟩ := eW.cells
  obtain ⟨dx, -, -⟩ := eW.slot (put_self HX.out _)
  rw [List.length_set] at d2
  have EW := hid eW
  have MW := hid mW
  have KW := hid kW
  clear hW c2 s1 zf eW mW kW
  go_still_tail 20, (by kernel_rfl)
  change wpList _ _ _ _ _ W.drew
  go_wp2_with fail
  refine (rstore_ok (MW.out.keep (Keep.refl Nil W).drew (fun _ _ h => h)) t (base + 2 * i) y (x + 1) t0 t1 (by omega) HY.out hlog).mono ?_
  rintro e w2 ⟨rfl, F2, hm2, k2, f2⟩
  have k2' : Keep G W w2 := ((Keep.refl G W).drew).trans k2 (fun _ _ h => h)
  have hs : RSys w2 h sb rb F2 base (sl.set i (x + 1, b, d)) (ws.set (base + 2 * i).toNat (x + 1)) (log ++ [⟨t, base + 2 * i, 2, y, x + 1, false⟩]) := by
    have n1 : ∀ b : Nat, ¬ G b → b < w.heap.size → ¬ F2 b := fun b hb hl hF => (f2 b hF).elim hb (fun h => by have := KW.out.size; simp at h; omega)
    exact ⟨hm2, EW.out.keep k2' H.out.f1 H.out.f2, n1 h H.out.f1 (lt_of_block H.out.eng.head), n1 sb H.out.f2 (lt_of_block H.out.eng.slots)⟩
  have hk : Keep (fun k => G k ∨ k = sb) w w2 := (KW.out.mono (fun _ _ h => .inr h)).trans (k2'.mono (T := fun k => G k ∨ k = sb) (fun _ _ h => .inl h)) (fun _ _ h => h)
  have HS := hid hs
  have HK := hid hk
  have HF := hid (show Foot w G F2 from fun k hF => (f2 k hF).elim .inl (fun h => .inr (by have := KW.out.size; simp at h; omega)))
  clear hm2 k2 f2 k2' hs hk
  go_wp2
  go_end0
  exact ⟨rfl, F2, HS.out, HK.out, HF.out⟩
end
end Go.Proofs.Ytihgfklajhhikaa
