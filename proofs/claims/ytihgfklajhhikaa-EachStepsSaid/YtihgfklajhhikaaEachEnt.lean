/- each: the steps of an Enter, Exit, and what is refused: contracts. -/
import Derived.Test.YtihgfklajhhikaaEachOps2
import Derived.BigQuiet
namespace Go.Proofs.Ytihgfklajhhikaa
open Go.RowKit Go.Lf
section
variable {w : World} {g sb cb mb : Nat} {F : Nat → Prop} {base : Int} {sl : List (Int × Bool)} {ws : List Int} {log : List Acc} {eb : Nat} {t s v x : Int} {i k : Nat}

set_option maxRecDepth 100000 in
set_option maxHeartbeats 4000000 in
theorem estep_mark (h : ESys w g sb cb mb F base sl ws log) (he : EEntAt w eb g t i v 0) (hF : ¬ F eb) (y : Int) (t0 : 0 ≤ t) (t1 : t < 64) (v0 : 0 ≤ v) (v1 : v < 64) (hi : i < 1000000) (b0 : 0 ≤ base) (b1 : base < 1000000) (hy : ws[(base + 2 * i + 1).toNat]? = some y) (hlog : log.length < 1000000000000) :
    Calls Try.prog 34 #[.pointer (some ⟨eb, 0, none⟩)] w fun e w' => e = .returned (.tuple #[.int .u8 14, .bool false]) ∧ EEntTo w g sb cb mb F base sl (ws.set (base + 2 * i + 1).toNat v) (log ++ [⟨t, base + 2 * i + 1, 2, y, v, false⟩]) eb t i v 1 w' := by
  have HM := hid (fun (w1 : World) (k1 : Keep Nil w w1) => emark_do (h.quiet k1) (k1.at he (fun h => h)) hF y t0 t1 v0 v1 hi b0 b1 hy hlog)
  have HC := hid (fun (w1 : World) (k1 : Keep Nil w w1) => (k1.cell he.cells.2.2.2.2 (fun h => h)))
  have lb := lt_of_block he
  clear h he hF hy hlog hi v0 v1
  go_enter Try.func34, Try.ntmps34
  go_wp2_with fail
  refine esteps_ok.mono ?_
  rintro e w1 ⟨rfl, k1⟩
  have a4 := HC.out _ k1
  have lb1 : eb < w1.heap.size := by have := k1.size; omega
  have K1 := hid k1
  clear k1
  go_wp2_with fail
  refine (HM.out _ (K1.out.alloc _)).mono ?_
  rintro e w2 ⟨rfl, hq⟩
  have HT := hid (ent_to (K1.out.alloc _) hq)
  obtain ⟨F2, hs2, he2, hk2, hf2, hn2⟩ := hq
  have a4 := he2.cells.2.2.2.2
  have z4 : w2.frozen? ⟨eb, 4, none⟩ = false := free_of he2 4
  have lb2 := lt_of_block he2
  clear hs2 he2 hk2 hf2 hn2 HM HC
  go_wp2
  go_quiet (fail)
  go_wp2
  go_ret2
  refine ⟨rfl, ?_⟩
  obtain ⟨F3, hs3, he3, hk3, hf3, hn3⟩ := HT.out
  exact ⟨F3, hs3.quiet ((Keep.refl Nil _).drewN nq), ((Keep.refl Nil _).drewN nq).at he3 (fun h => h), hk3.drewN nq, hf3, hn3⟩
set_option maxRecDepth 100000 in
set_option maxHeartbeats 4000000 in
theorem estep_seq (h : ESys w g sb cb mb F base sl ws log) (he : EEntAt w eb g t i v 1) (hF : ¬ F eb) (x y : Int) (b : Bool) (t0 : 0 ≤ t) (t1 : t < 64) (hx : sl[i]? = some (x, b)) (x0 : 0 ≤ x) (x1 : x < 1000000000000) (b0 : 0 ≤ base) (b1 : base < 1000000) (hn : sl.length < 1000000) (hy : ws[(base + 2 * i).toNat]? = some y) (hlog : log.length < 1000000000000) :
    Calls Try.prog 34 #[.pointer (some ⟨eb, 0, none⟩)] w fun e w' => e = .returned (.tuple #[.int .u8 13, .bool true]) ∧ EEntTo w g sb cb mb F base (sl.set i (x + 1, false)) (ws.set (base + 2 * i).toNat (x + 1)) (log ++ [⟨t, base + 2 * i, 2, y, x + 1, false⟩]) eb t i v 2 w' := by
  have HM := hid (fun (w1 : World) (k1 : Keep Nil w w1) => eseq_do (h.quiet k1) (k1.at he (fun h => h)) hF x y b t0 t1 hx x0 x1 b0 b1 hn hy hlog)
  have HC := hid (fun (w1 : World) (k1 : Keep Nil w w1) => (k1.cell he.cells.2.2.2.2 (fun h => h)))
  have lb := lt_of_block he
  clear h he hF hy hlog hx x0 x1 hn
  go_enter Try.func34, Try.ntmps34
  go_wp2_with fail
  refine esteps_ok.mono ?_
  rintro e w1 ⟨rfl, k1⟩
  have a4 := HC.out _ k1
  have lb1 : eb < w1.heap.size := by have := k1.size; omega
  have K1 := hid k1
  clear k1
  go_wp2_with fail
  refine (HM.out _ (K1.out.alloc _)).mono ?_
  rintro e w2 ⟨rfl, hq⟩
  have HT := hid (ent_to (K1.out.alloc _) hq)
  obtain ⟨F2, hs2, he2, hk2, hf2, hn2⟩ := hq
  have a4 := he2.cells.2.2.2.2
  have z4 : w2.frozen? ⟨eb, 4, none⟩ = false := free_of he2 4
  have lb2 := lt_of_block he2
  clear hs2 he2 hk2 hf2 hn2 HM HC
  go_wp2
  go_quiet (fail)
  go_wp2
  go_ret2
  refine ⟨rfl, ?_⟩
  obtain ⟨F3, hs3, he3, hk3, hf3, hn3⟩ := HT.out
  exact ⟨F3, hs3.quiet ((Keep.refl Nil _).drewN nq), ((Keep.refl Nil _).drewN nq).at he3 (fun h => h), hk3.drewN nq, hf3, hn3⟩
set_option maxHeartbeats 1000000 in
theorem estep_idle (he : EEntAt w eb g t i v 2) : Calls Try.prog 34 #[.pointer (some ⟨eb, 0, none⟩)] w fun e w' => e = .returned (.tuple #[.int .u8 0, .bool false]) ∧ Keep Nil w w' := by
  have HC := hid (fun (w1 : World) (k1 : Keep Nil w w1) => (k1.cell he.cells.2.2.2.2 (fun h => h)))
  have lb := lt_of_block he
  clear he
  go_enter Try.func34, Try.ntmps34
  go_wp2_with fail
  refine esteps_ok.mono ?_
  rintro e w1 ⟨rfl, k1⟩
  have a4 := HC.out _ k1
  have lb1 : eb < w1.heap.size := by have := k1.size; omega
  have K1 := hid k1
  clear k1
  go_wp2
  go_ret2
  exact ⟨rfl, K1.out.alloc _⟩
set_option maxHeartbeats 1000000 in
theorem estep_nil : Calls Try.prog 34 #[.pointer none] w fun e w' => e = .returned (.tuple #[.int .u8 0, .bool false]) ∧ Keep Nil w w' := by
  go_enter Try.func34, Try.ntmps34
  go_wp2_with fail
  refine esteps_ok.mono ?_
  rintro e w1 ⟨rfl, k1⟩
  have K1 := hid k1
  clear k1
  go_wp2
  go_ret2
  exact ⟨rfl, K1.out.alloc _⟩
/-- What an Enter does next. -/
def epc (k : Nat) : Int := if k = 0 then 14 else if k = 1 then 13 else 0
set_option maxHeartbeats 1000000 in
theorem enext_any (he : EEntAt w eb g t i v k) (hk : k ≤ 2) : Calls Try.prog 83 #[.pointer (some ⟨eb, 0, none⟩)] w fun e w' => e = .returned (.int .u8 (epc k)) ∧ Keep Nil w w' := by
  have a4 := he.cells.2.2.2.2
  have lb := lt_of_block he
  clear he
  have : k = 0 ∨ k = 1 ∨ k = 2 := by omega
  clear hk
  rcases this with rfl | rfl | rfl
  all_goals
    go_enter Try.func83, Try.ntmps83
    go_wp2
    go_ret
    exact ⟨rfl, (Keep.refl Nil w).alloc _⟩
set_option maxHeartbeats 1000000 in
theorem enext_nil : Calls Try.prog 83 #[.pointer none] w fun e w' => e = .returned (.int .u8 0) ∧ Keep Nil w w' := by
  go_enter Try.func83, Try.ntmps83
  go_wp2
  go_ret
  exact ⟨rfl, (Keep.refl Nil w).alloc _⟩

/-! Exit. -/
set_option maxRecDepth 100000 in
set_option maxHeartbeats 2000000 in
theorem eexit_ok (h : ESys w g sb cb mb F base sl ws log) (x y : Int) (b : Bool) (t0 : 0 ≤ t) (t1 : t < 64) (hx : sl[i]? = some (x, b)) (x0 : 0 ≤ x) (x1 : x < 1000000000000) (hodd : x % 2 = 1) (b0 : 0 ≤ base) (b1 : base < 1000000) (hn : sl.length < 1000000) (hy : ws[(base + 2 * i).toNat]? = some y) (hlog : log.length < 1000000000000) :
    Calls Try.prog 39 #[.pointer (some ⟨g, 0, none⟩), .int .i64 t, .int .i64 i] w fun e w' => e = .returned (.tuple #[.int .u8 13, .int .i64 0]) ∧ ESysTo w g sb cb mb F base (sl.set i (x + 1, b)) (ws.set (base + 2 * i).toNat (x + 1)) (log ++ [⟨t, base + 2 * i, 2, y, x + 1, false⟩]) w' := by
  have l0 := lt_of_at hx
  obtain ⟨cx, -⟩ := h.eng.slot hx
  have HS := hid (eslot_ok h.eng t i t0 t1 l0)
  have d3 : (x % 2 == 0) = false := beq_eq_false_iff_ne.2 (by omega)
  have HA := hid (eadv_ok h t i x y b t0 t1 hx x0 x1 b0 b1 hn hy hlog)
  clear h hx hy hlog hn hodd
  go_enter Try.func39, Try.ntmps39
  go_wp2_with fail
  refine HS.out.mono ?_
  rintro e w' ⟨rfl, rfl⟩
  go_wp2_with fail
  refine HA.out.mono ?_
  rintro e w1 ⟨rfl, hq⟩
  have HQ := hid hq
  clear hq
  go_wp2
  go_ret2
  exact ⟨rfl, HQ.out⟩
set_option maxHeartbeats 1000000 in
theorem eexit_state (h : EEngAt w g sb cb mb base sl) {b : Bool} (t0 : 0 ≤ t) (t1 : t < 64) (hx : sl[i]? = some (x, b)) (x0 : 0 ≤ x) (hev : x % 2 = 0) :
    Calls Try.prog 39 #[.pointer (some ⟨g, 0, none⟩), .int .i64 t, .int .i64 i] w fun e w' => e = .returned (.tuple #[.int .u8 0, .int .i64 8]) ∧ w = w' := by
  have l0 := lt_of_at hx
  obtain ⟨cx, -⟩ := h.slot hx
  have HS := hid (eslot_ok h t i t0 t1 l0)
  have d3 : (x % 2 == 0) = true := beq_iff_eq.2 hev
  clear h hx hev
  go_enter Try.func39, Try.ntmps39
  go_wp2_with fail
  refine HS.out.mono ?_
  rintro e w' ⟨rfl, rfl⟩
  go_wp2
  go_ret2
  exact ⟨rfl, rfl⟩
set_option maxHeartbeats 1000000 in
theorem eexit_slot {p : Value} {e0 : Int} (hs : Calls Try.prog 71 #[p, .int .i64 t, .int .i64 s] w fun e w' => e = .returned (.tuple #[.pointer none, .int .i64 e0]) ∧ w = w') (h0 : e0 ≠ 0) :
    Calls Try.prog 39 #[p, .int .i64 t, .int .i64 s] w fun e w' => e = .returned (.tuple #[.int .u8 0, .int .i64 e0]) ∧ w = w' := by
  have HS := hid hs
  have d1 : (e0 != 0) = true := bne_iff_ne.2 h0
  clear hs h0
  go_enter Try.func39, Try.ntmps39
  go_wp2_with fail
  refine HS.out.mono ?_
  rintro e w' ⟨rfl, rfl⟩
  go_wp2
  go_ret2
  exact ⟨rfl, rfl⟩

/-! What is refused. -/
set_option maxHeartbeats 1000000 in
theorem eenter_slot {p : Value} {e0 : Int} (hs : Calls Try.prog 71 #[p, .int .i64 t, .int .i64 s] w fun e w' => e = .returned (.tuple #[.pointer none, .int .i64 e0]) ∧ w = w') (h0 : e0 ≠ 0) :
    Calls Try.prog 33 #[p, .int .i64 t, .int .i64 s, .int .i64 v] w fun e w' => e = .returned (.tuple #[.pointer none, .int .i64 e0]) ∧ w = w' := by
  have HS := hid hs
  have d1 : (e0 != 0) = true := bne_iff_ne.2 h0
  clear hs h0
  go_enter Try.func33, Try.ntmps33
  go_wp2_with fail
  refine HS.out.mono ?_
  rintro e w' ⟨rfl, rfl⟩
  go_wp2
  go_ret2
  exact ⟨rfl, rfl⟩
set_option maxHeartbeats 1000000 in
theorem eenter_value (h : EEngAt w g sb cb mb base sl) (t0 : 0 ≤ t) (t1 : t < 64) (l0 : i < sl.length) (hv : v < 0 ∨ 64 ≤ v) :
    Calls Try.prog 33 #[.pointer (some ⟨g, 0, none⟩), .int .i64 t, .int .i64 i, .int .i64 v] w fun e w' => e = .returned (.tuple #[.pointer none, .int .i64 2]) ∧ w = w' := by
  have HS := hid (eslot_ok h t i t0 t1 l0)
  clear h
  by_cases h1 : v < 0
  · have d1 : decide (v < 0) = true := decide_eq_true h1
    clear hv h1
    go_enter Try.func33, Try.ntmps33
    go_wp2_with fail
    refine HS.out.mono ?_
    rintro e w' ⟨rfl, rfl⟩
    go_wp2
    go_ret2
    exact ⟨rfl, rfl⟩
  · have d1 : decide (v < 0) = false := decide_eq_false h1
    have d2 : decide (64 ≤ v) = true := decide_eq_true (by omega)
    clear hv h1
    go_enter Try.func33, Try.ntmps33
    go_wp2_with fail
    refine HS.out.mono ?_
    rintro e w' ⟨rfl, rfl⟩
    go_wp2
    go_ret2
    exact ⟨rfl, rfl⟩
set_option maxRecDepth 100000 in
set_option maxHeartbeats 1000000 in
theorem eenter_busy {b : Bool} (h : EEngAt w g sb cb mb base sl) (t0 : 0 ≤ t) (t1 : t < 64) (v0 : 0 ≤ v) (v1 : v < 64) (hx : sl[i]? = some (x, b)) (x0 : 0 ≤ x) (hbusy : b = true ∨ x % 2 = 1) :
    Calls Try.prog 33 #[.pointer (some ⟨g, 0, none⟩), .int .i64 t, .int .i64 i, .int .i64 v] w fun e w' => e = .returned (.tuple #[.pointer none, .int .i64 8]) ∧ w = w' := by
  obtain ⟨cx, cb'⟩ := h.slot hx
  have l0 := lt_of_at hx
  have HS := hid (eslot_ok h t i t0 t1 l0)
  have d1 : decide (v < 0) = false := decide_eq_false (by omega)
  have d2 : decide (64 ≤ v) = false := decide_eq_false (by omega)
  cases b with
  | true =>
    clear h hx hbusy
    go_enter Try.func33, Try.ntmps33
    go_wp2_with fail
    refine HS.out.mono ?_
    rintro e w' ⟨rfl, rfl⟩
    go_wp2
    go_ret2
    exact ⟨rfl, rfl⟩
  | false =>
    have hodd : x % 2 = 1 := by rcases hbusy with h | h; cases h; exact h
    have d3 : (x % 2 == 1) = true := beq_iff_eq.2 hodd
    clear h hx hbusy hodd
    go_enter Try.func33, Try.ntmps33
    go_wp2_with fail
    refine HS.out.mono ?_
    rintro e w' ⟨rfl, rfl⟩
    go_wp2
    go_ret2
    exact ⟨rfl, rfl⟩
end
end Go.Proofs.Ytihgfklajhhikaa
