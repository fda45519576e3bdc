/- event.Check: the walk. -/
import Derived.Test.YtldjlcdccnnogaaGreatEvP
import Derived.Test.YtldjlcdccnnogaaGreatFnMap
import Derived.Test.YtldjlcdccnnogaaGreatMem
import Derived.Deep.RegionHeld3
import Derived.Deep.DeepCutAuto
set_option linter.unusedVariables false
set_option linter.unusedSimpArgs false
namespace Go.Lf
open Go.RowKit
def EvR.cells (x : EvR) : List Value := [.int .i64 x.step, .int .i64 x.th, .int .u8 x.kind, .int .u64 x.val]
def evCells (l : List EvR) : List Value := l.flatMap EvR.cells
theorem evCells_at {l : List EvR} {k j : Nat} {x : EvR} {u : Value} (hx : l[k]? = some x) (hu : x.cells[j]? = some u) : (evCells l)[k * 4 + j]? = some u := by
  induction l generalizing k with
  | nil => cases hx
  | cons y l ih =>
    cases k with
    | zero =>
      have e : y = x := by simpa using hx
      subst e
      have hj : j < y.cells.length := (List.getElem?_eq_some_iff.1 hu).1
      simp only [evCells, List.flatMap_cons, Nat.zero_mul, Nat.zero_add]
      rw [List.getElem?_append_left hj]; exact hu
    | succ k =>
      have h1 : l[k]? = some x := by simpa using hx
      have h2 := ih h1
      simp only [evCells, List.flatMap_cons] at h2 ⊢
      rw [List.getElem?_append_right (by show 4 ≤ _; omega), show (k + 1) * 4 + j - y.cells.length = k * 4 + j by show _ - 4 = _; omega]
      exact h2
section
variable {P : Program} {w : World} {t kt et : TypeId} {r : Nat} {es : List MapEntry}
theorem run_fget2 {kd : IntKind} (hm : P.underlying t = some (.map kt et)) (hk : P.underlying kt = some (.int kd)) (h : MapAt w r es) (k : Int) {v : Value} {i : Nat} (hn : Instr.findNow (.int kd) (.int kd k) es 0 = some (some (i, v))) :
    (Instr.lookup t (.map (some r)) (.int kd k) true).run P w = .ok (.tuple #[v, .bool true]) w := by
  obtain ⟨clock, hb⟩ := h
  have hc : ∀ b, (Instr.checkKey b 10000 kt (.int kd k)).run P w = .ok () w := fun b => MapKept.run_checkKey (k := .int kd k) hk (by simp [MapKept.IsKey]) b 9999
  simp [Instr.lookup, run_underlying hm, MapKept.run_getObj_map hb, hc, MapKept.run_findKey hk hn, Result.andThen]
end
/-- What a thread's cells hold. -/
def EvS.code : EvS → Int
  | .out => 0
  | .inn _ _ => 1
  | .wt _ _ => 3
def EvS.vals : EvS → Int → Prop
  | .out, _ => True
  | .inn v _, u => u = v
  | .wt v _, u => u = v
structure ThA (arr : Array Value) (l : List EvR) : Prop where
  size : arr.size = 128
  at_ : ∀ t : Nat, t < 64 → arr[t * 2]? = some (.int .u8 (evT l t).code) ∧ ∃ v, arr[t * 2 + 1]? = some (.int .u64 v) ∧ (evT l t).vals v
theorem ThA.begin {arr : Array Value} {l : List EvR} (h : ThA arr l) {x : EvR} {t : Nat} (ht : x.th = t) (h64 : t < 64) (hk : x.kind = 1 ∨ x.kind = 3) : ThA ((arr.setIfInBounds (t * 2) (.int .u8 x.kind)).setIfInBounds (t * 2 + 1) (.int .u64 x.val)) (l ++ [x]) := by
  refine ⟨by simp [h.size], fun u hu => ?_⟩
  rw [evT_snoc]
  by_cases e : u = t
  · subst e
    rw [if_pos ht]
    have hs := h.size
    refine ⟨?_, x.val, ?_, ?_⟩
    · rw [Array.getElem?_setIfInBounds_ne (by omega), Array.getElem?_setIfInBounds_self_of_lt (by omega)]
      unfold EvR.to
      rcases hk with hk | hk
      · rw [if_pos hk, hk]; rfl
      · rw [if_neg (by omega), if_pos hk, hk]; rfl
    · rw [Array.getElem?_setIfInBounds_self_of_lt (by simp; omega)]
    · unfold EvR.to
      rcases hk with hk | hk
      · rw [if_pos hk]; rfl
      · rw [if_neg (by omega), if_pos hk]; rfl
  · rw [if_neg (by omega)]
    obtain ⟨h1, v, h2, h3⟩ := h.at_ u hu
    refine ⟨?_, v, ?_, h3⟩
    · rw [Array.getElem?_setIfInBounds_ne (by omega), Array.getElem?_setIfInBounds_ne (by omega)]; exact h1
    · rw [Array.getElem?_setIfInBounds_ne (by omega), Array.getElem?_setIfInBounds_ne (by omega)]; exact h2
theorem ThA.end {arr : Array Value} {l : List EvR} (h : ThA arr l) {x : EvR} {t : Nat} (ht : x.th = t) (h64 : t < 64) (hk : x.kind = 2 ∨ x.kind = 4) : ThA (arr.setIfInBounds (t * 2) (.int .u8 0)) (l ++ [x]) := by
  refine ⟨by simp [h.size], fun u hu => ?_⟩
  rw [evT_snoc]
  have hs := h.size
  have hto : x.to = .out := by unfold EvR.to; rw [if_neg (by omega), if_neg (by omega)]
  by_cases e : u = t
  · subst e
    rw [if_pos ht, hto]
    obtain ⟨h1, v, h2, h3⟩ := h.at_ u hu
    refine ⟨?_, v, ?_, trivial⟩
    · rw [Array.getElem?_setIfInBounds_self_of_lt (by omega)]; rfl
    · rw [Array.getElem?_setIfInBounds_ne (by omega)]; exact h2
  · rw [if_neg (by omega)]
    obtain ⟨h1, v, h2, h3⟩ := h.at_ u hu
    refine ⟨?_, v, ?_, h3⟩
    · rw [Array.getElem?_setIfInBounds_ne (by omega)]; exact h1
    · rw [Array.getElem?_setIfInBounds_ne (by omega)]; exact h2
theorem ThA.init : ThA ((List.replicate 64 [Value.int .u8 0, .int .u64 0]).flatten.toArray) [] := by
  refine ⟨by simp, fun t ht => ?_⟩
  have : ∀ n t : Nat, t < n → ((List.replicate n [Value.int .u8 0, .int .u64 0]).flatten)[t * 2]? = some (.int .u8 0) ∧ ((List.replicate n [Value.int .u8 0, .int .u64 0]).flatten)[t * 2 + 1]? = some (.int .u64 0) := by
    intro n
    induction n with
    | zero => intro t h; omega
    | succ n ih =>
      intro t h
      rw [List.replicate_succ, List.flatten_cons]
      cases t with
      | zero => exact ⟨rfl, rfl⟩
      | succ t =>
        obtain ⟨h1, h2⟩ := ih t (by omega)
        exact ⟨by rw [show (t + 1) * 2 = t * 2 + 2 by omega, List.getElem?_append_right (by simp)]; simpa using h1, by rw [show (t + 1) * 2 + 1 = t * 2 + 1 + 2 by omega, List.getElem?_append_right (by simp)]; simpa using h2⟩
  obtain ⟨h1, h2⟩ := this 64 t ht
  exact ⟨by simpa [EvS.code, evT] using h1, 0, by simpa using h2, trivial⟩
end Go.Lf
namespace Go.Proofs.YtldjlcdccnnogaaGreat
open Go.RowKit Go.Lf
def erl (c1 c2 c3 c4 : Nat) : List MapEntry := [⟨.int .u8 1, .func (.func 64) #[] #[], c1⟩, ⟨.int .u8 2, .func (.func 65) #[] #[], c2⟩, ⟨.int .u8 3, .func (.func 66) #[] #[], c3⟩, ⟨.int .u8 4, .func (.func 67) #[] #[], c4⟩]
def ERules (w : World) (r : Nat) : Prop := ∃ c1 c2 c3 c4, MapAt w r (erl c1 c2 c3 c4)
def ERulesTo (w : World) (e : Ending) (w' : World) : Prop := ∃ r, e = .returned (.map (some r)) ∧ ERules w' r ∧ Keep Nil w w' ∧ w.heap.size ≤ r
section
variable {w w' : World} {tb : Nat} {arr : Array Value} {ty : TypeId}
set_option maxRecDepth 100000 in
set_option maxHeartbeats 2000000 in
theorem erules_ok (w : World) : Calls Tryz.prog 40 #[] w (ERulesTo w) := by
  have hmm := @run_makeMap Tryz.prog
  go_enter Tryz.func40, Tryz.ntmps40
  have HM := hid (MapAt.new w)
  have HK := hid ((Keep.refl Nil w).alloc (.map #[] 0))
  go_wp2_with (refine wpList_ins rfl (.tmp 1) _ _ 105 rfl Tryz.underlying105 Tryz.underlying5 _ rfl _ HM.out _ rfl _ rfl rfl ?_; intro wq cq hm hk hz; have HK := hid (HK.out.trans hk (fun q hlt e => by omega)); have HM := hid hm; clear hm hk hz)
  go_wp2_with (refine wpList_ins rfl (.tmp 1) _ _ 105 rfl Tryz.underlying105 Tryz.underlying5 _ rfl _ HM.out _ rfl _ rfl rfl ?_; intro wq2 cq2 hm hk hz; have HK := hid (HK.out.trans hk (fun q hlt e => by omega)); have HM := hid hm; clear hm hk hz)
  go_wp2_with (refine wpList_ins rfl (.tmp 1) _ _ 105 rfl Tryz.underlying105 Tryz.underlying5 _ rfl _ HM.out _ rfl _ rfl rfl ?_; intro wq3 cq3 hm hk hz; have HK := hid (HK.out.trans hk (fun q hlt e => by omega)); have HM := hid hm; clear hm hk hz)
  go_wp2_with (refine wpList_ins rfl (.tmp 1) _ _ 105 rfl Tryz.underlying105 Tryz.underlying5 _ rfl _ HM.out _ rfl _ rfl rfl ?_; intro wq4 cq4 hm hk hz; have HK := hid (HK.out.trans hk (fun q hlt e => by omega)); have HM := hid hm; clear hm hk hz)
  go_wp2
  go_ret
  exact ⟨_, rfl, ⟨_, _, _, _, HM.out⟩, HK.out, Nat.le_refl _⟩
def EvRuleTo (w : World) (tb : Nat) (ty : TypeId) (arr' : Array Value) (e : Ending) (w' : World) : Prop := e = .returned (.bool true) ∧ w'.heap[tb]? = some (.cells arr' ty (0, 0)) ∧ Keep (fun k => k = tb) w w'
set_option maxHeartbeats 2000000 in
theorem evr_enter (hb : w.heap[tb]? = some (.cells arr ty (0, 0))) {o : Nat} (h1 : arr[o]? = some (.int .u8 0)) (s t k v u : Int) (h2 : arr[o + 1]? = some (.int .u64 u)) (hv : v < 64) :
    Calls Tryz.prog 64 #[.pointer (some ⟨tb, o, none⟩), .agg #[.int .i64 s, .int .i64 t, .int .u8 k, .int .u64 v]] w (EvRuleTo w tb ty ((arr.setIfInBounds o (.int .u8 1)).setIfInBounds (o + 1) (.int .u64 v))) := by
  have hz := lt_of_block hb
  have hb1 := alloc_old hb (.cells #[.int .i64 s, .int .i64 t, .int .u8 k, .int .u64 v] 43 (0, 0))
  have c0 : (w.alloc (.cells #[.int .i64 s, .int .i64 t, .int .u8 k, .int .u64 v] 43 (0, 0))).cell? ⟨tb, o, none⟩ = some (.int .u8 0) := by rw [cell_of hb1]; exact h1
  have c1 : (w.alloc (.cells #[.int .i64 s, .int .i64 t, .int .u8 k, .int .u64 v] 43 (0, 0))).cell? ⟨tb, o + 1, none⟩ = some (.int .u64 u) := by rw [cell_of hb1]; exact h2
  have x3 : (w.alloc (.cells #[.int .i64 s, .int .i64 t, .int .u8 k, .int .u64 v] 43 (0, 0))).cell? ⟨w.heap.size, 3, none⟩ = some (.int .u64 v) := by rw [cell_of (heap_alloc_new w _)]; rfl
  have f0 := free_of hb1 o
  have f1 := free_of hb1 (o + 1)
  have HB1 := hid hb1
  have HK := hid (((Keep.refl Nil w).alloc (.cells #[.int .i64 s, .int .i64 t, .int .u8 k, .int .u64 v] 43 (0, 0))).mono (T := fun k => k = tb) (fun _ _ h => h.elim))
  have HZ := hid hz
  have d1 : decide (v < 64) = true := decide_eq_true hv
  clear hb hb1 h1 h2 hv
  go_enter Tryz.func64, Tryz.ntmps64
  generalize hW : w.alloc (.cells #[.int .i64 s, .int .i64 t, .int .u8 k, .int .u64 v] 43 (0, 0)) = W at *
  go_wp2
  have hsz : tb ≠ w.heap.size := by have := HZ.out; omega
  go_region
  all_goals
    go_wp2
    go_ret
    refine ⟨rfl, ?_, ?_⟩
    · first
        | exact set_same (set_same HB1.out _) _
        | (rw [Array.setIfInBounds_comm _ _ (by omega)]; exact set_same (set_same HB1.out _) _)
    · first
        | exact (HK.out.setCell (.inl rfl) _).setCell (.inl rfl) _
        | exact (HK.out.drew.setCell (.inl rfl) _).setCell (.inl rfl) _
set_option maxHeartbeats 2000000 in
theorem evr_wait (hb : w.heap[tb]? = some (.cells arr ty (0, 0))) {o : Nat} (h1 : arr[o]? = some (.int .u8 0)) (s t k v u : Int) (h2 : arr[o + 1]? = some (.int .u64 u)) (hv : v ≠ 0) :
    Calls Tryz.prog 66 #[.pointer (some ⟨tb, o, none⟩), .agg #[.int .i64 s, .int .i64 t, .int .u8 k, .int .u64 v]] w (EvRuleTo w tb ty ((arr.setIfInBounds o (.int .u8 3)).setIfInBounds (o + 1) (.int .u64 v))) := by
  have hz := lt_of_block hb
  have hb1 := alloc_old hb (.cells #[.int .i64 s, .int .i64 t, .int .u8 k, .int .u64 v] 43 (0, 0))
  have c0 : (w.alloc (.cells #[.int .i64 s, .int .i64 t, .int .u8 k, .int .u64 v] 43 (0, 0))).cell? ⟨tb, o, none⟩ = some (.int .u8 0) := by rw [cell_of hb1]; exact h1
  have c1 : (w.alloc (.cells #[.int .i64 s, .int .i64 t, .int .u8 k, .int .u64 v] 43 (0, 0))).cell? ⟨tb, o + 1, none⟩ = some (.int .u64 u) := by rw [cell_of hb1]; exact h2
  have x3 : (w.alloc (.cells #[.int .i64 s, .int .i64 t, .int .u8 k, .int .u64 v] 43 (0, 0))).cell? ⟨w.heap.size, 3, none⟩ = some (.int .u64 v) := by rw [cell_of (heap_alloc_new w _)]; rfl
  have f0 := free_of hb1 o
  have f1 := free_of hb1 (o + 1)
  have HB1 := hid hb1
  have HK := hid (((Keep.refl Nil w).alloc (.cells #[.int .i64 s, .int .i64 t, .int .u8 k, .int .u64 v] 43 (0, 0))).mono (T := fun k => k = tb) (fun _ _ h => h.elim))
  have HZ := hid hz
  have d1 : (v != 0) = true := bne_iff_ne.2 hv
  clear hb hb1 h1 h2 hv
  go_enter Tryz.func66, Tryz.ntmps66
  generalize hW : w.alloc (.cells #[.int .i64 s, .int .i64 t, .int .u8 k, .int .u64 v] 43 (0, 0)) = W at *
  go_wp2
  have hsz : tb ≠ w.heap.size := by have := HZ.out; omega
  go_region
  all_goals
    go_wp2
    go_ret
    refine ⟨rfl, ?_, ?_⟩
    · first
        | exact set_same (set_same HB1.out _) _
        | (rw [Array.setIfInBounds_comm _ _ (by omega)]; exact set_same (set_same HB1.out _) _)
    · first
        | exact (HK.out.setCell (.inl rfl) _).setCell (.inl rfl) _
        | exact (HK.out.drew.setCell (.inl rfl) _).setCell (.inl rfl) _
set_option maxHeartbeats 2000000 in
theorem evr_exit (hb : w.heap[tb]? = some (.cells arr ty (0, 0))) {o : Nat} (h1 : arr[o]? = some (.int .u8 1)) (s t k v : Int) (h2 : arr[o + 1]? = some (.int .u64 v)) :
    Calls Tryz.prog 65 #[.pointer (some ⟨tb, o, none⟩), .agg #[.int .i64 s, .int .i64 t, .int .u8 k, .int .u64 v]] w (EvRuleTo w tb ty (arr.setIfInBounds o (.int .u8 0))) := by
  have hz := lt_of_block hb
  have hb1 := alloc_old hb (.cells #[.int .i64 s, .int .i64 t, .int .u8 k, .int .u64 v] 43 (0, 0))
  have c0 : (w.alloc (.cells #[.int .i64 s, .int .i64 t, .int .u8 k, .int .u64 v] 43 (0, 0))).cell? ⟨tb, o, none⟩ = some (.int .u8 1) := by rw [cell_of hb1]; exact h1
  have c1 : (w.alloc (.cells #[.int .i64 s, .int .i64 t, .int .u8 k, .int .u64 v] 43 (0, 0))).cell? ⟨tb, o + 1, none⟩ = some (.int .u64 v) := by rw [cell_of hb1]; exact h2
  have x3 : (w.alloc (.cells #[.int .i64 s, .int .i64 t, .int .u8 k, .int .u64 v] 43 (0, 0))).cell? ⟨w.heap.size, 3, none⟩ = some (.int .u64 v) := by rw [cell_of (heap_alloc_new w _)]; rfl
  have f0 := free_of hb1 o
  have f1 := free_of hb1 (o + 1)
  have HB1 := hid hb1
  have HK := hid (((Keep.refl Nil w).alloc (.cells #[.int .i64 s, .int .i64 t, .int .u8 k, .int .u64 v] 43 (0, 0))).mono (T := fun k => k = tb) (fun _ _ h => h.elim))
  have HZ := hid hz
  have d1 : (v == v) = true := beq_self_eq_true v
  clear hb hb1 h1 h2
  go_enter Tryz.func65, Tryz.ntmps65
  generalize hW : w.alloc (.cells #[.int .i64 s, .int .i64 t, .int .u8 k, .int .u64 v] 43 (0, 0)) = W at *
  go_wp2
  have hsz : tb ≠ w.heap.size := by have := HZ.out; omega
  go_quiet (fail)
  go_wp2
  go_ret
  exact ⟨rfl, set_same HB1.out _, by first | exact HK.out.setCell (.inl rfl) _ | exact (HK.out.drewN _).setCell (.inl rfl) _⟩
set_option maxHeartbeats 2000000 in
theorem evr_done (hb : w.heap[tb]? = some (.cells arr ty (0, 0))) {o : Nat} (h1 : arr[o]? = some (.int .u8 3)) (s t k v : Int) (h2 : arr[o + 1]? = some (.int .u64 v)) :
    Calls Tryz.prog 67 #[.pointer (some ⟨tb, o, none⟩), .agg #[.int .i64 s, .int .i64 t, .int .u8 k, .int .u64 v]] w (EvRuleTo w tb ty (arr.setIfInBounds o (.int .u8 0))) := by
  have hz := lt_of_block hb
  have hb1 := alloc_old hb (.cells #[.int .i64 s, .int .i64 t, .int .u8 k, .int .u64 v] 43 (0, 0))
  have c0 : (w.alloc (.cells #[.int .i64 s, .int .i64 t, .int .u8 k, .int .u64 v] 43 (0, 0))).cell? ⟨tb, o, none⟩ = some (.int .u8 3) := by rw [cell_of hb1]; exact h1
  have c1 : (w.alloc (.cells #[.int .i64 s, .int .i64 t, .int .u8 k, .int .u64 v] 43 (0, 0))).cell? ⟨tb, o + 1, none⟩ = some (.int .u64 v) := by rw [cell_of hb1]; exact h2
  have x3 : (w.alloc (.cells #[.int .i64 s, .int .i64 t, .int .u8 k, .int .u64 v] 43 (0, 0))).cell? ⟨w.heap.size, 3, none⟩ = some (.int .u64 v) := by rw [cell_of (heap_alloc_new w _)]; rfl
  have f0 := free_of hb1 o
  have f1 := free_of hb1 (o + 1)
  have HB1 := hid hb1
  have HK := hid (((Keep.refl Nil w).alloc (.cells #[.int .i64 s, .int .i64 t, .int .u8 k, .int .u64 v] 43 (0, 0))).mono (T := fun k => k = tb) (fun _ _ h => h.elim))
  have HZ := hid hz
  have d1 : (v == v) = true := beq_self_eq_true v
  clear hb hb1 h1 h2
  go_enter Tryz.func67, Tryz.ntmps67
  generalize hW : w.alloc (.cells #[.int .i64 s, .int .i64 t, .int .u8 k, .int .u64 v] 43 (0, 0)) = W at *
  go_wp2
  have hsz : tb ≠ w.heap.size := by have := HZ.out; omega
  go_quiet (fail)
  go_wp2
  go_ret
  exact ⟨rfl, set_same HB1.out _, by first | exact HK.out.setCell (.inl rfl) _ | exact (HK.out.drewN _).setCell (.inl rfl) _⟩
end
end Go.Proofs.YtldjlcdccnnogaaGreat
