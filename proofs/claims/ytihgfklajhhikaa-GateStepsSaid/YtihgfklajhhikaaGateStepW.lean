/- GateSteps: Op.step, whatever the two operations do. -/
import Derived.Test.YtihgfklajhhikaaGateR
import Derived.Deep.RegionHeld3
set_option linter.unusedVariables false
set_option linter.unusedSimpArgs false
namespace Go.Proofs.Ytihgfklajhhikaa
open Go.RowKit Go.Lf
section
variable {wr : World}
set_option maxRecDepth 100000 in
set_option maxHeartbeats 8000000 in
theorem opstep_en {a b : Nat} {p0 p2 pc : Int} {d : Bool} (P Q : World → Prop)
    (hB0 : Calls Try.prog 103 #[.pointer (some ⟨b, 0, none⟩)] (wr.alloc (.cells #[.pointer (some ⟨a, 0, none⟩), .pointer (some ⟨b, 0, none⟩), .pointer none, .pointer none] 128)) fun e w' => e = .returned (.int .u8 p0) ∧ (wr.alloc (.cells #[.pointer (some ⟨a, 0, none⟩), .pointer (some ⟨b, 0, none⟩), .pointer none, .pointer none] 128)) = w')
    (hA0 : Calls Try.prog 94 #[.pointer (some ⟨a, 0, none⟩)] (wr.alloc (.cells #[.pointer (some ⟨a, 0, none⟩), .pointer (some ⟨b, 0, none⟩), .pointer none, .pointer none] 128)) fun e w' => e = .returned (.int .u8 p0) ∧ Keep Nil (wr.alloc (.cells #[.pointer (some ⟨a, 0, none⟩), .pointer (some ⟨b, 0, none⟩), .pointer none, .pointer none] 128)) w')
    (hA : ∀ w1, Keep Nil (wr.alloc (.cells #[.pointer (some ⟨a, 0, none⟩), .pointer (some ⟨b, 0, none⟩), .pointer none, .pointer none] 128)) w1 → Calls Try.prog 55 #[.pointer (some ⟨a, 0, none⟩)] w1 fun e w2 => e = .returned (.tuple #[.int .u8 pc, .bool d]) ∧ P w2)
    (hP : ∀ w2, P w2 → w2.cell? ⟨wr.heap.size, 1, none⟩ = some (.pointer (some ⟨b, 0, none⟩)))
    (hB : ∀ w2, P w2 → Calls Try.prog 104 #[.pointer (some ⟨b, 0, none⟩)] w2 fun e w3 => e = .returned (.tuple #[.int .u8 pc, .bool d]) ∧ Q w3)
    (hQ : ∀ w3, Q w3 → w3.cell? ⟨wr.heap.size, 0, none⟩ = some (.pointer (some ⟨a, 0, none⟩)) ∧ w3.cell? ⟨wr.heap.size, 1, none⟩ = some (.pointer (some ⟨b, 0, none⟩)))
    (hQk : ∀ w3 w4, Q w3 → Keep Nil w3 w4 → Q w4)
    (hA2 : ∀ w3, Q w3 → Calls Try.prog 94 #[.pointer (some ⟨a, 0, none⟩)] w3 fun e w' => e = .returned (.int .u8 p2) ∧ Keep Nil w3 w')
    (hB2 : ∀ w3, Q w3 → Calls Try.prog 103 #[.pointer (some ⟨b, 0, none⟩)] w3 fun e w' => e = .returned (.int .u8 p2) ∧ w3 = w') :
    Calls Try.prog 63 #[.agg #[.pointer (some ⟨a, 0, none⟩), .pointer (some ⟨b, 0, none⟩), .pointer none, .pointer none]] wr fun e w' => e = .returned (.bool true) ∧ Q w' := by
  have B0 := hid hB0
  have A0 := hid hA0
  have HA := hid hA
  have HP := hid hP
  have HB := hid hB
  have HQ := hid hQ
  have HK := hid hQk
  have A2 := hid hA2
  have B2 := hid hB2
  have hx := heap_alloc_new wr (.cells #[.pointer (some ⟨a, 0, none⟩), .pointer (some ⟨b, 0, none⟩), .pointer none, .pointer none] 128)
  have HX := hid hx
  clear hB0 hA0 hA hP hB hQ hQk hA2 hB2 hx
  go_enter Try.func63, Try.ntmps63
  go_wp2_with fail
  refine B0.out.mono ?_
  rintro e w' ⟨rfl, rfl⟩
  go_wp2_with fail
  refine A0.out.mono ?_
  rintro e w1 ⟨rfl, k1⟩
  have hx1 := k1.at HX.out (fun h => h)
  have c0 : w1.cell? ⟨wr.heap.size, 0, none⟩ = some (.pointer (some ⟨a, 0, none⟩)) := by rw [cell_of hx1]; rfl
  have HA1 := hid (HA.out w1 k1)
  clear k1 hx1 HA HX A0 B0
  go_wp2_with fail
  refine HA1.out.mono ?_
  rintro e w2 ⟨rfl, hp⟩
  have c1 := HP.out w2 hp
  have HB1 := hid (HB.out w2 hp)
  clear hp HB HA1 c0
  go_wp2_with fail
  refine HB1.out.mono ?_
  rintro e w3 ⟨rfl, hq⟩
  obtain ⟨q0, q1⟩ := HQ.out w3 hq
  have QQ := hid hq
  have QD := hid (HK.out w3 _ hq (Keep.refl Nil w3).drew)
  clear hq HB1 c1
  go_wp2
  go_region_held3 (fun w' => w'.cell? ⟨wr.heap.size, 0, none⟩ = some (.pointer (some ⟨a, 0, none⟩)) ∧ w'.cell? ⟨wr.heap.size, 1, none⟩ = some (.pointer (some ⟨b, 0, none⟩))) (go_keep)
    (first
      | (go_at_call 94; (with_reducible refine (A2.out _ QD.out).mono ?_); rintro e wA ⟨rfl, kA⟩; have hqA := HK.out _ _ QD.out kA; obtain ⟨r0, r1⟩ := HQ.out wA hqA; have QA := hid hqA; clear kA hqA)
      | (go_at_call 103; (with_reducible refine (B2.out _ QA.out).mono ?_); rintro e w5 ⟨rfl, rfl⟩))
  go_wp2
  go_ret
  exact ⟨rfl, QA.out⟩
set_option maxRecDepth 100000 in
set_option maxHeartbeats 8000000 in
theorem opstep_wa {a b : Nat} {p0 p2 pc : Int} {d : Bool} (P Q : World → Prop)
    (hB0 : Calls Try.prog 105 #[.pointer (some ⟨b, 0, none⟩)] (wr.alloc (.cells #[.pointer none, .pointer none, .pointer (some ⟨a, 0, none⟩), .pointer (some ⟨b, 0, none⟩)] 128)) fun e w' => e = .returned (.int .u8 p0) ∧ (wr.alloc (.cells #[.pointer none, .pointer none, .pointer (some ⟨a, 0, none⟩), .pointer (some ⟨b, 0, none⟩)] 128)) = w')
    (hA0 : Calls Try.prog 106 #[.pointer (some ⟨a, 0, none⟩)] (wr.alloc (.cells #[.pointer none, .pointer none, .pointer (some ⟨a, 0, none⟩), .pointer (some ⟨b, 0, none⟩)] 128)) fun e w' => e = .returned (.int .u8 p0) ∧ Keep Nil (wr.alloc (.cells #[.pointer none, .pointer none, .pointer (some ⟨a, 0, none⟩), .pointer (some ⟨b, 0, none⟩)] 128)) w')
    (hA : ∀ w1, Keep Nil (wr.alloc (.cells #[.pointer none, .pointer none, .pointer (some ⟨a, 0, none⟩), .pointer (some ⟨b, 0, none⟩)] 128)) w1 → Calls Try.prog 57 #[.pointer (some ⟨a, 0, none⟩)] w1 fun e w2 => e = .returned (.tuple #[.int .u8 pc, .bool d]) ∧ P w2)
    (hP : ∀ w2, P w2 → w2.cell? ⟨wr.heap.size, 3, none⟩ = some (.pointer (some ⟨b, 0, none⟩)))
    (hB : ∀ w2, P w2 → Calls Try.prog 107 #[.pointer (some ⟨b, 0, none⟩)] w2 fun e w3 => e = .returned (.tuple #[.int .u8 pc, .bool d]) ∧ Q w3)
    (hQ : ∀ w3, Q w3 → w3.cell? ⟨wr.heap.size, 2, none⟩ = some (.pointer (some ⟨a, 0, none⟩)) ∧ w3.cell? ⟨wr.heap.size, 3, none⟩ = some (.pointer (some ⟨b, 0, none⟩)))
    (hQk : ∀ w3 w4, Q w3 → Keep Nil w3 w4 → Q w4)
    (hA2 : ∀ w3, Q w3 → Calls Try.prog 106 #[.pointer (some ⟨a, 0, none⟩)] w3 fun e w' => e = .returned (.int .u8 p2) ∧ Keep Nil w3 w')
    (hB2 : ∀ w3, Q w3 → Calls Try.prog 105 #[.pointer (some ⟨b, 0, none⟩)] w3 fun e w' => e = .returned (.int .u8 p2) ∧ w3 = w') :
    Calls Try.prog 63 #[.agg #[.pointer none, .pointer none, .pointer (some ⟨a, 0, none⟩), .pointer (some ⟨b, 0, none⟩)]] wr fun e w' => e = .returned (.bool true) ∧ Q w' := by
  have B0 := hid hB0
  have A0 := hid hA0
  have HA := hid hA
  have HP := hid hP
  have HB := hid hB
  have HQ := hid hQ
  have HK := hid hQk
  have A2 := hid hA2
  have B2 := hid hB2
  have hx := heap_alloc_new wr (.cells #[.pointer none, .pointer none, .pointer (some ⟨a, 0, none⟩), .pointer (some ⟨b, 0, none⟩)] 128)
  have HX := hid hx
  clear hB0 hA0 hA hP hB hQ hQk hA2 hB2 hx
  go_enter Try.func63, Try.ntmps63
  go_wp2_with fail
  refine B0.out.mono ?_
  rintro e w' ⟨rfl, rfl⟩
  go_wp2_with fail
  refine A0.out.mono ?_
  rintro e w1 ⟨rfl, k1⟩
  have hx1 := k1.at HX.out (fun h => h)
  have c0 : w1.cell? ⟨wr.heap.size, 2, none⟩ = some (.pointer (some ⟨a, 0, none⟩)) := by rw [cell_of hx1]; rfl
  have HA1 := hid (HA.out w1 k1)
  clear k1 hx1 HA HX A0 B0
  go_wp2_with fail
  refine HA1.out.mono ?_
  rintro e w2 ⟨rfl, hp⟩
  have c1 := HP.out w2 hp
  have HB1 := hid (HB.out w2 hp)
  clear hp HB HA1 c0
  go_wp2_with fail
  refine HB1.out.mono ?_
  rintro e w3 ⟨rfl, hq⟩
  obtain ⟨q0, q1⟩ := HQ.out w3 hq
  have QQ := hid hq
  have QD := hid (HK.out w3 _ hq (Keep.refl Nil w3).drew)
  clear hq HB1 c1
  go_wp2
  go_region_held3 (fun w' => w'.cell? ⟨wr.heap.size, 2, none⟩ = some (.pointer (some ⟨a, 0, none⟩)) ∧ w'.cell? ⟨wr.heap.size, 3, none⟩ = some (.pointer (some ⟨b, 0, none⟩))) (go_keep)
    (first
      | (go_at_call 106; (with_reducible refine (A2.out _ QD.out).mono ?_); rintro e wA ⟨rfl, kA⟩; have hqA := HK.out _ _ QD.out kA; obtain ⟨r0, r1⟩ := HQ.out wA hqA; have QA := hid hqA; clear kA hqA)
      | (go_at_call 105; (with_reducible refine (B2.out _ QA.out).mono ?_); rintro e w5 ⟨rfl, rfl⟩))
  go_wp2
  go_ret
  exact ⟨rfl, QA.out⟩
end
end Go.Proofs.Ytihgfklajhhikaa
