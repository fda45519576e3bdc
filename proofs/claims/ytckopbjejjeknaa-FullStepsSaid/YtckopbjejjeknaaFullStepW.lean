/- FullSteps: Op.step, whatever the two operations do. -/
import Derived.Test.YtckopbjejjeknaaRefFull3
import Derived.LaidEqlPtr
import Derived.BigQuiet
namespace Go.Proofs.Ytckopbjejjeknaa
open Go.RowKit Go.Lf
section
variable {wr : World}
set_option maxRecDepth 100000 in
set_option maxHeartbeats 8000000 in
theorem opstep_en {a b : Nat} {p0 p2 pc : Int} {d : Bool} (P Q : World → Prop)
    (hB0 : Calls Try.prog 76 #[.pointer (some ⟨b, 0, none⟩)] (wr.alloc (.cells #[.pointer (some ⟨a, 0, none⟩), .pointer (some ⟨b, 0, none⟩), .pointer none, .pointer none] 106)) fun e w' => e = .returned (.int .u8 p0) ∧ (wr.alloc (.cells #[.pointer (some ⟨a, 0, none⟩), .pointer (some ⟨b, 0, none⟩), .pointer none, .pointer none] 106)) = w')
    (hA0 : Calls Try.prog 41 #[.pointer (some ⟨a, 0, none⟩)] (wr.alloc (.cells #[.pointer (some ⟨a, 0, none⟩), .pointer (some ⟨b, 0, none⟩), .pointer none, .pointer none] 106)) fun e w' => e = .returned (.int .u8 p0) ∧ (wr.alloc (.cells #[.pointer (some ⟨a, 0, none⟩), .pointer (some ⟨b, 0, none⟩), .pointer none, .pointer none] 106)) = w')
    (hA : Calls Try.prog 43 #[.pointer (some ⟨a, 0, none⟩)] (wr.alloc (.cells #[.pointer (some ⟨a, 0, none⟩), .pointer (some ⟨b, 0, none⟩), .pointer none, .pointer none] 106)) fun e w1 => e = .returned (.tuple #[.int .u8 pc, .bool d]) ∧ P w1)
    (hP : ∀ w1, P w1 → w1.cell? ⟨wr.heap.size, 1, none⟩ = some (.pointer (some ⟨b, 0, none⟩)))
    (hB : ∀ w1, P w1 → Calls Try.prog 77 #[.pointer (some ⟨b, 0, none⟩)] w1 fun e w2 => e = .returned (.tuple #[.int .u8 pc, .bool d]) ∧ Q w2)
    (hQ : ∀ w2, Q w2 → w2.cell? ⟨wr.heap.size, 0, none⟩ = some (.pointer (some ⟨a, 0, none⟩)) ∧ w2.cell? ⟨wr.heap.size, 1, none⟩ = some (.pointer (some ⟨b, 0, none⟩)))
    (hA2 : ∀ w2 m, Q w2 → Calls Try.prog 41 #[.pointer (some ⟨a, 0, none⟩)] (w2.drewN m) fun e w' => e = .returned (.int .u8 p2) ∧ w2.drewN m = w')
    (hB2 : ∀ w2 m, Q w2 → Calls Try.prog 76 #[.pointer (some ⟨b, 0, none⟩)] (w2.drewN m) fun e w' => e = .returned (.int .u8 p2) ∧ w2.drewN m = w') :
    Calls Try.prog 51 #[.agg #[.pointer (some ⟨a, 0, none⟩), .pointer (some ⟨b, 0, none⟩), .pointer none, .pointer none]] wr fun e w' => e = .returned (.bool true) ∧ ∃ w2 m, Q w2 ∧ w' = w2.drewN m := by
  have B0 := hid hB0
  have A0 := hid hA0
  have HA := hid hA
  have HP := hid hP
  have HB := hid hB
  have HQ := hid hQ
  have A2 := hid hA2
  have B2 := hid hB2
  clear hB0 hA0 hA hP hB hQ hA2 hB2
  go_enter Try.func51, Try.ntmps51
  go_wp2_with fail
  refine B0.out.mono ?_
  rintro e w' ⟨rfl, rfl⟩
  go_wp2_with fail
  refine A0.out.mono ?_
  rintro e w' ⟨rfl, rfl⟩
  go_wp2_with fail
  refine HA.out.mono ?_
  rintro e w1 ⟨rfl, hp⟩
  have c1 := HP.out w1 hp
  have HB1 := hid (HB.out w1 hp)
  clear hp HB HA A0 B0
  go_wp2_with fail
  refine HB1.out.mono ?_
  rintro e w2 ⟨rfl, hq⟩
  obtain ⟨q0, q1⟩ := HQ.out w2 hq
  have QQ := hid hq
  clear hq HB1 c1
  go_wp2
  go_quiet (first
    | (go_at_call 41; exact quiet_eq (A2.out w2 _ QQ.out))
    | (go_at_call 76; exact quiet_eq (B2.out w2 _ QQ.out)))
  go_wp2
  go_ret
  exact ⟨rfl, w2, nq, QQ.out, rfl⟩
set_option maxRecDepth 100000 in
set_option maxHeartbeats 8000000 in
theorem opstep_wa {a b : Nat} {p0 p2 pc : Int} {d : Bool} (P Q : World → Prop)
    (hB0 : Calls Try.prog 78 #[.pointer (some ⟨b, 0, none⟩)] (wr.alloc (.cells #[.pointer none, .pointer none, .pointer (some ⟨a, 0, none⟩), .pointer (some ⟨b, 0, none⟩)] 106)) fun e w' => e = .returned (.int .u8 p0) ∧ (wr.alloc (.cells #[.pointer none, .pointer none, .pointer (some ⟨a, 0, none⟩), .pointer (some ⟨b, 0, none⟩)] 106)) = w')
    (hA0 : Calls Try.prog 46 #[.pointer (some ⟨a, 0, none⟩)] (wr.alloc (.cells #[.pointer none, .pointer none, .pointer (some ⟨a, 0, none⟩), .pointer (some ⟨b, 0, none⟩)] 106)) fun e w' => e = .returned (.int .u8 p0) ∧ (wr.alloc (.cells #[.pointer none, .pointer none, .pointer (some ⟨a, 0, none⟩), .pointer (some ⟨b, 0, none⟩)] 106)) = w')
    (hA : Calls Try.prog 45 #[.pointer (some ⟨a, 0, none⟩)] (wr.alloc (.cells #[.pointer none, .pointer none, .pointer (some ⟨a, 0, none⟩), .pointer (some ⟨b, 0, none⟩)] 106)) fun e w1 => e = .returned (.tuple #[.int .u8 pc, .bool d]) ∧ P w1)
    (hP : ∀ w1, P w1 → w1.cell? ⟨wr.heap.size, 3, none⟩ = some (.pointer (some ⟨b, 0, none⟩)))
    (hB : ∀ w1, P w1 → Calls Try.prog 79 #[.pointer (some ⟨b, 0, none⟩)] w1 fun e w2 => e = .returned (.tuple #[.int .u8 pc, .bool d]) ∧ Q w2)
    (hQ : ∀ w2, Q w2 → w2.cell? ⟨wr.heap.size, 2, none⟩ = some (.pointer (some ⟨a, 0, none⟩)) ∧ w2.cell? ⟨wr.heap.size, 3, none⟩ = some (.pointer (some ⟨b, 0, none⟩)))
    (hA2 : ∀ w2 m, Q w2 → Calls Try.prog 46 #[.pointer (some ⟨a, 0, none⟩)] (w2.drewN m) fun e w' => e = .returned (.int .u8 p2) ∧ w2.drewN m = w')
    (hB2 : ∀ w2 m, Q w2 → Calls Try.prog 78 #[.pointer (some ⟨b, 0, none⟩)] (w2.drewN m) fun e w' => e = .returned (.int .u8 p2) ∧ w2.drewN m = w') :
    Calls Try.prog 51 #[.agg #[.pointer none, .pointer none, .pointer (some ⟨a, 0, none⟩), .pointer (some ⟨b, 0, none⟩)]] wr fun e w' => e = .returned (.bool true) ∧ ∃ w2 m, Q w2 ∧ w' = w2.drewN m := by
  have B0 := hid hB0
  have A0 := hid hA0
  have HA := hid hA
  have HP := hid hP
  have HB := hid hB
  have HQ := hid hQ
  have A2 := hid hA2
  have B2 := hid hB2
  clear hB0 hA0 hA hP hB hQ hA2 hB2
  go_enter Try.func51, Try.ntmps51
  go_wp2_with fail
  refine B0.out.mono ?_
  rintro e w' ⟨rfl, rfl⟩
  go_wp2_with fail
  refine A0.out.mono ?_
  rintro e w' ⟨rfl, rfl⟩
  go_wp2_with fail
  refine HA.out.mono ?_
  rintro e w1 ⟨rfl, hp⟩
  have c1 := HP.out w1 hp
  have HB1 := hid (HB.out w1 hp)
  clear hp HB HA A0 B0
  go_wp2_with fail
  refine HB1.out.mono ?_
  rintro e w2 ⟨rfl, hq⟩
  obtain ⟨q0, q1⟩ := HQ.out w2 hq
  have QQ := hid hq
  clear hq HB1 c1
  go_wp2
  go_quiet (first
    | (go_at_call 46; exact quiet_eq (A2.out w2 _ QQ.out))
    | (go_at_call 78; exact quiet_eq (B2.out w2 _ QQ.out)))
  go_wp2
  go_ret
  exact ⟨rfl, w2, nq, QQ.out, rfl⟩
end
end Go.Proofs.Ytckopbjejjeknaa
