/- each: Enter and Exit: contracts. -/
import Derived.Test.YtihgfklajhhikaaEachOps
namespace Go.Proofs.Ytihgfklajhhikaa
open Go.RowKit Go.Lf

/-- An Enter with k steps made. -/
def EEntAt (w : World) (eb g : Nat) (t : Int) (i : Nat) (v : Int) (k : Nat) : Prop :=
  w.heap[eb]? = some (.cells #[.pointer (some ⟨g, 0, none⟩), .int .i64 t, .int .i64 i, .int .i64 v, .int .i64 k] 171 (0, 0))
section
variable {w : World} {g sb cb mb : Nat} {F : Nat → Prop} {base : Int} {sl : List (Int × Bool)} {ws : List Int} {log : List Acc} {eb : Nat} {t v : Int} {i k : Nat}
theorem EEntAt.cells (h : EEntAt w eb g t i v k) : w.cell? ⟨eb, 0, none⟩ = some (.pointer (some ⟨g, 0, none⟩)) ∧ w.cell? ⟨eb, 1, none⟩ = some (.int .i64 t) ∧ w.cell? ⟨eb, 2, none⟩ = some (.int .i64 i) ∧ w.cell? ⟨eb, 3, none⟩ = some (.int .i64 v) ∧ w.cell? ⟨eb, 4, none⟩ = some (.int .i64 k) := by
  refine ⟨?_, ?_, ?_, ?_, ?_⟩ <;> (rw [cell_of h]; rfl)
def EEnterTo (w : World) (g sb cb mb : Nat) (F : Nat → Prop) (base : Int) (sl : List (Int × Bool)) (ws : List Int) (log : List Acc) (t : Int) (i : Nat) (v : Int) (e : Ending) (w' : World) : Prop :=
  e = .returned (.tuple #[.pointer (some ⟨w.heap.size, 0, none⟩), .int .i64 0]) ∧ ESys w' g sb cb mb F base sl ws log ∧ EEntAt w' w.heap.size g t i v 0 ∧ Keep (fun k => k = sb) w w' ∧ w'.heap.size = w.heap.size + 1

set_option maxRecDepth 100000 in
set_option maxHeartbeats 2000000 in
theorem eenter_ok (h : ESys w g sb cb mb F base sl ws log) (v : Int) (t0 : 0 ≤ t) (t1 : t < 64) (v0 : 0 ≤ v) (v1 : v < 64) (x : Int) (hx : sl[i]? = some (x, false)) (x0 : 0 ≤ x) (hev : x % 2 = 0) :
    Calls Try.prog 33 #[.pointer (some ⟨g, 0, none⟩), .int .i64 t, .int .i64 i, .int .i64 v] w (EEnterTo w g sb cb mb F base (sl.set i (x, true)) ws log t i v) := by
  obtain ⟨c0, c1, c2, c3⟩ := h.eng.cells
  obtain ⟨cx, cb'⟩ := h.eng.slot hx
  have l0 := lt_of_at hx
  have zf : w.frozen? ⟨sb, i * 2 + 1, none⟩ = false := free_of h.eng.slots _
  have HS := hid (eslot_ok h.eng t i t0 t1 l0)
  have d1 : decide (v < 0) = false := decide_eq_false (by omega)
  have d2 : decide (64 ≤ v) = false := decide_eq_false (by omega)
  have d3 : (x % 2 == 1) = false := beq_eq_false_iff_ne.2 (by omega)
  have H := hid h
  have HX := hid hx
  clear h hx c0 c1 c2 c3 hev
  go_enter Try.func33, Try.ntmps33
  go_wp2_with fail
  refine HS.out.mono ?_
  rintro e w' ⟨rfl, rfl⟩
  go_wp2
  go_ret2
  have hsz : (w.setCell ⟨sb, i * 2 + 1, none⟩ (.bool true)).heap.size = w.heap.size := by simp
  have kW : Keep (fun k => k = sb) w ((w.setCell ⟨sb, i * 2 + 1, none⟩ (.bool true)).alloc (.cells #[.pointer (some ⟨g, 0, none⟩), .int .i64 t, .int .i64 i, .int .i64 v, .int .i64 0] 171)) := (Keep.setCell (Keep.refl (fun k => k = sb) w) (.inl rfl) _).alloc _
  refine ⟨rfl, ⟨H.out.mem.keep kW (fun k hF e => H.out.f2 (by rw [← e]; exact hF)), (eeng_beg H.out.eng HX.out true).quiet ((Keep.refl Nil _).alloc _), H.out.f1, H.out.f2, H.out.f3⟩, ?_, kW, by simp⟩
  have hq := heap_alloc_new (w.setCell ⟨sb, i * 2 + 1, none⟩ (.bool true)) (.cells #[.pointer (some ⟨g, 0, none⟩), .int .i64 t, .int .i64 i, .int .i64 v, .int .i64 0] 171)
  rw [hsz] at hq
  exact hq

/-- An Enter has made a step. -/
def EEntTo (w : World) (g sb cb mb : Nat) (F : Nat → Prop) (base : Int) (sl : List (Int × Bool)) (ws : List Int) (log : List Acc) (eb : Nat) (t : Int) (i : Nat) (v : Int) (k : Nat) (w' : World) : Prop :=
  ∃ F', ESys w' g sb cb mb F' base sl ws log ∧ EEntAt w' eb g t i v k ∧ Keep (fun k => F k ∨ k = sb ∨ k = eb) w w' ∧ Foot w F F' ∧ ¬ F' eb

set_option maxRecDepth 100000 in
set_option maxHeartbeats 4000000 in
theorem emark_do (h : ESys w g sb cb mb F base sl ws log) (he : EEntAt w eb g t i v k) (hF : ¬ F eb) (y : Int) (t0 : 0 ≤ t) (t1 : t < 64) (v0 : 0 ≤ v) (v1 : v < 64) (hi : i < 1000000) (b0 : 0 ≤ base) (b1 : base < 1000000) (hy : ws[(base + 2 * i + 1).toNat]? = some y) (hlog : log.length < 1000000000000) :
    Calls Try.prog 109 #[.pointer (some ⟨eb, 0, none⟩)] w fun e w' => e = .returned (.int .u8 14) ∧ EEntTo w g sb cb mb F base sl (ws.set (base + 2 * i + 1).toNat v) (log ++ [⟨t, base + 2 * i + 1, 2, y, v, false⟩]) eb t i v k w' := by
  obtain ⟨c0, c1, c2, c3⟩ := h.eng.cells
  obtain ⟨a0, a1, a2, a3, a4⟩ := he.cells
  have lb := lt_of_block he
  have hw : IntKind.u64.wrap v = v := by rw [IntKind.wrap_u64]; omega
  have hw2 : IntKind.i64.wrap (base + 2 * i + 1) = base + 2 * i + 1 := by rw [IntKind.wrap_i64]; omega
  have H := hid h
  have HE := hid he
  have HF := hid hF
  have HY := hid hy
  have KD := hid ((Keep.refl Nil w).drew)
  have C3 := hid c3
  clear h he hF hy c1 a4
  go_enter Try.func109, Try.ntmps109
  go_wp2
  go_region_held3 (fun w' => w'.cell? ⟨eb, 0, none⟩ = some (.pointer (some ⟨g, 0, none⟩)) ∧ w'.cell? ⟨eb, 1, none⟩ = some (.int .i64 t) ∧ w'.cell? ⟨eb, 2, none⟩ = some (.int .i64 i) ∧ w'.cell? ⟨eb, 3, none⟩ = some (.int .i64 v) ∧ w'.cell? ⟨g, 0, none⟩ = some (.pointer (some ⟨mb, 0, none⟩)) ∧ w'.cell? ⟨g, 2, none⟩ = some (.func (.func 68) #[] #[.pointer (some ⟨cb, 0, none⟩)])) (go_keep)
    (first
      | (go_at_call 68; (with_reducible refine (eat_ok (KD.out.cell C3.out (fun h => h)) b0 b1 i (by omega)).mono ?_); rintro e w1 ⟨rfl, rfl⟩)
      | (go_at_call 114; (with_reducible refine (store_ok (H.out.mem.keep KD.out (fun _ _ h => h)) t (base + 2 * i + 1) y v t0 t1 (by omega) HY.out hlog).mono ?_); rintro e w2 ⟨rfl, F2, hm2, k2, f2⟩; have e2 := (H.out.eng.quiet KD.out).keep k2 H.out.f1 H.out.f2 H.out.f3; obtain ⟨p0, p1, p2, p3⟩ := e2.cells; have he2 : EEntAt w2 eb g t i v k := k2.at (KD.out.at HE.out (fun h => h)) HF.out; obtain ⟨q0, q1, q2, q3, q4⟩ := he2.cells; have M2 := hid hm2; have K2 := hid k2; have F2' := hid f2; have E2 := hid e2; have HE2 := hid he2; clear hm2 k2 f2 e2 p3 p1 he2 q4))
  have n1 : ∀ b : Nat, ¬ F b → b < w.heap.size → ¬ F2 b := fun b hb hl hF => (F2'.out b hF).elim hb (fun h => by simp at h; omega)
  have k2' : Keep F w w2 := ((Keep.refl F w).drew).trans K2.out (fun _ _ h => h)
  have HS := hid (show ESys w2 g sb cb mb F2 base sl (ws.set (base + 2 * i + 1).toNat v) (log ++ [⟨t, base + 2 * i + 1, 2, y, v, false⟩]) from ⟨M2.out, E2.out, n1 g H.out.f1 (lt_of_block H.out.eng.head), n1 sb H.out.f2 (lt_of_block H.out.eng.slots), n1 cb H.out.f3 (lt_of_block H.out.eng.cap)⟩)
  have HK := hid (k2'.mono (T := fun k => F k ∨ k = sb ∨ k = eb) (fun _ _ h => .inl h))
  have HFo := hid (show Foot w F F2 from fun k hF => (F2'.out k hF).elim .inl (fun h => .inr (by simpa using h)))
  have HN := hid (n1 eb HF.out lb)
  clear n1 k2'
  go_wp2
  go_ret
  exact ⟨rfl, F2, HS.out, HE2.out, HK.out, HFo.out, HN.out⟩

set_option maxRecDepth 100000 in
set_option maxHeartbeats 4000000 in
theorem eseq_do (h : ESys w g sb cb mb F base sl ws log) (he : EEntAt w eb g t i v k) (hF : ¬ F eb) (x y : Int) (b : Bool) (t0 : 0 ≤ t) (t1 : t < 64) (hx : sl[i]? = some (x, b)) (x0 : 0 ≤ x) (x1 : x < 1000000000000) (b0 : 0 ≤ base) (b1 : base < 1000000) (hn : sl.length < 1000000) (hy : ws[(base + 2 * i).toNat]? = some y) (hlog : log.length < 1000000000000) :
    Calls Try.prog 110 #[.pointer (some ⟨eb, 0, none⟩)] w fun e w' => e = .returned (.int .u8 13) ∧ EEntTo w g sb cb mb F base (sl.set i (x + 1, false)) (ws.set (base + 2 * i).toNat (x + 1)) (log ++ [⟨t, base + 2 * i, 2, y, x + 1, false⟩]) eb t i v k w' := by
  obtain ⟨c0, c1, c2, c3, c4⟩ := he.cells
  have e1 : eb ≠ g := type_ne he h.eng.head (by decide)
  have e2 : eb ≠ sb := type_ne he h.eng.slots (by decide)
  have e3 : eb ≠ cb := type_ne he h.eng.cap (by decide)
  have l0 := lt_of_at hx
  have lb := lt_of_block he
  have HA := hid (eadv_ok (h.quiet (Keep.refl Nil w).drew) t i x y b t0 t1 hx x0 x1 b0 b1 hn hy hlog)
  have H := hid h
  have E := hid he
  have HB := hid hF
  have HX := hid hx
  clear h he hx hy hF c3 c4
  go_enter Try.func110, Try.ntmps110
  go_wp2
  go_still_tail 12, (by kernel_rfl)
  change wpList _ _ _ _ _ w.drew
  go_wp2_with fail
  refine HA.out.mono ?_
  rintro e w1 ⟨rfl, F1, hs1, hk1, hf1⟩
  have hnF : ¬ F1 eb := fun h => (hf1 eb h).elim HB.out (fun h => by simp at h; omega)
  have he1 : EEntAt w1 eb g t i v k := hk1.at (show w.drew.heap[eb]? = _ from E.out) (fun h => by rcases h with h | h; exact HB.out h; exact e2 h)
  obtain ⟨a0, a1, a2, a3, a4⟩ := he1.cells
  obtain ⟨k0, k1, k2, k3⟩ := hs1.eng.cells
  have zf : w1.frozen? ⟨sb, i * 2 + 1, none⟩ = false := free_of hs1.eng.slots _
  have kb := (hs1.eng.slot (put_self HX.out _)).2
  rw [List.length_set] at k1
  have S1 := hid hs1
  have E1 := hid he1
  have K1 := hid hk1
  have F1' := hid hf1
  have NF := hid hnF
  clear HA c0 c1 c2 hs1 he1 hk1 hf1 hnF a3 a4 k0 k2 k3 a1
  go_wp2
  go_still_tail 13, (by kernel_rfl)
  change wpList _ _ _ _ _ w1.drew
  go_wp2
  go_ret
  have kW : Keep (fun k => k = sb) w1 (w1.drew.setCell ⟨sb, i * 2 + 1, none⟩ (.bool false)) := Keep.setCell ((Keep.refl (fun k => k = sb) w1).drew) (.inl rfl) _
  refine ⟨rfl, F1, ⟨S1.out.mem.keep kW (fun k hF e => S1.out.f2 (by rw [← e]; exact hF)), ?_, S1.out.f1, S1.out.f2, S1.out.f3⟩, kW.at E1.out e2, ?_, F1'.out, NF.out⟩
  · have := eeng_beg (w := w1.drew) (S1.out.eng.quiet (Keep.refl Nil w1).drew) (put_self HX.out _) false
    rwa [List.set_set] at this
  · exact ((Keep.refl (fun k => F k ∨ k = sb ∨ k = eb) w).drew.trans (K1.out.mono (T := fun k => F k ∨ k = sb ∨ k = eb) (fun _ _ h => by rcases h with h | h; exact .inl h; exact .inr (.inl h))) (fun _ _ h => h)).trans (kW.mono (T := fun k => F k ∨ k = sb ∨ k = eb) (fun _ _ h => .inr (.inl h))) (fun _ _ h => h)

theorem sizeSteps : (Try.prog.info? 173).map (·.size) = some 2 := by kernel_rfl
set_option maxRecDepth 100000 in
set_option maxHeartbeats 1000000 in
theorem esteps_ok : Calls Try.prog 72 #[] w fun e w' => e = .returned (.agg #[.func (.func 109) #[] #[], .func (.func 110) #[] #[]]) ∧ Keep Nil w w' := by
  go_enter Try.func72, Try.ntmps72
  go_wp2
  have hh := heap_alloc_new w (.cells #[.func (.func 109) #[] #[], .func (.func 110) #[] #[]] 173)
  (try simp only [Exit.inBlock, Exit.then])
  refine bodyPost_ret (results_cell_row rfl _ _ w.heap.size _ _ (0, 0) _ rfl hh Try.underlying173 rfl sizeSteps) rfl ?_
  exact ⟨rfl, (Keep.refl Nil w).alloc _⟩

theorem EEntAt.stepped (he : EEntAt w eb g t i v k) : EEntAt (w.setCell ⟨eb, 4, none⟩ (.int .i64 ((k : Int) + 1))) eb g t i v (k + 1) := by
  have := set_same (i := 4) he (.int .i64 ((k : Int) + 1))
  unfold EEntAt
  rw [show ((k + 1 : Nat) : Int) = (k : Int) + 1 by omega]
  exact this
theorem ent_to {w0 w1 : World} (k0 : Keep Nil w w0) (h : EEntTo w0 g sb cb mb F base sl ws log eb t i v k w1) : EEntTo w g sb cb mb F base sl ws log eb t i v (k + 1) (w1.setCell ⟨eb, 4, none⟩ (.int .i64 ((k : Int) + 1))) := by
  obtain ⟨F', hs, ha, hk, hf, hn⟩ := h
  have e1 : eb ≠ g := type_ne ha hs.eng.head (by decide)
  have e2 : eb ≠ sb := type_ne ha hs.eng.slots (by decide)
  have e3 : eb ≠ cb := type_ne ha hs.eng.cap (by decide)
  have kW : Keep (fun k => k = eb) w1 (w1.setCell ⟨eb, 4, none⟩ (.int .i64 ((k : Int) + 1))) := Keep.setCell (Keep.refl (fun k => k = eb) w1) (.inl rfl) _
  refine ⟨F', hs.keep kW (fun k hF e => hn (by rw [← e]; exact hF)) (fun e => e1 e.symm) (fun e => e2 e.symm) (fun e => e3 e.symm), ha.stepped, ?_, fun k hk => (hf k hk).elim .inl (fun h => .inr (by have := k0.size; omega)), hn⟩
  exact (((k0.mono (T := fun k => F k ∨ k = sb ∨ k = eb) (fun _ _ h => h.elim)).trans hk (fun _ _ h => h))).trans (kW.mono (T := fun k => F k ∨ k = sb ∨ k = eb) (fun _ _ h => .inr (.inr h))) (fun _ _ h => h)
end
end Go.Proofs.Ytihgfklajhhikaa
