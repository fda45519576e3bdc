/- words.Mem.possible and words.Replay: contracts. -/
import Derived.Test.YtnfkjdmjgphghaaMemRead
import Derived.Test.YtnfkjdmjgphghaaReplayPlain
namespace Go.Proofs.Ytnfkjdmjgphghaa
open Go.RowKit Go.Lf

theorem ret_bool {a b : Bool} (h : a = b) : Ending.returned (.bool a) = .returned (.bool b) := by rw [h]

section
variable {b : Nat} {F : Nat → Prop} {ws : List Int} {log : List Acc} {w : World}

set_option maxRecDepth 100000 in
set_option maxHeartbeats 1000000 in
theorem poss_err (h : MemAt w b F ws log) (x : Acc) (he : errOf x.t x.a ws.length ≠ 0) :
    Calls Try.prog 33 #[.pointer (some ⟨b, 0, none⟩), .agg #[.int .i64 x.t, .int .i64 x.a, .int .u8 x.k, .int .u64 x.o, .int .u64 x.n, .bool x.s]] w fun e w' => e = .returned (.bool (possB ws x)) ∧ Keep Nil w w' := by
  rw [possB_err he]
  obtain ⟨t, a, k, o, n, s⟩ := x
  dsimp only at *
  obtain ⟨bw, la, lc, hr, hF⟩ := h.rep
  have hc0 := hr.cell0
  clear hr
  have hne : (errOf t a ws.length != 0) = true := by simpa using he
  have hb := World.block_lt_of_cell? w _ hc0
  clear he
  go_enter Try.func33, Try.ntmps33
  go_wp2
  go_quiet ((go_at_call 35; exact quiet_eq (check_any _ _ _ _ _ _ _ (cell_alloc_drewN hc0 _ _))))
  go_wp2
  go_ret
  exact ⟨rfl, ((Keep.refl _ _).alloc _).drewN _⟩

set_option maxRecDepth 100000 in
set_option maxHeartbeats 1000000 in
theorem poss_old (h : MemAt w b F ws log) (x : Acc) (y : Int) (he : errOf x.t x.a ws.length = 0) (hy : ws[x.a.toNat]? = some y) (hne : y ≠ x.o) :
    Calls Try.prog 33 #[.pointer (some ⟨b, 0, none⟩), .agg #[.int .i64 x.t, .int .i64 x.a, .int .u8 x.k, .int .u64 x.o, .int .u64 x.n, .bool x.s]] w fun e w' => e = .returned (.bool (possB ws x)) ∧ Keep Nil w w' := by
  rw [possB_old hy hne]
  obtain ⟨t, a, k, o, n, s⟩ := x
  dsimp only at *
  obtain ⟨ht0, ht1, ha0, ha1⟩ := errOf_zero.1 he
  obtain ⟨i, rfl⟩ := Int.eq_ofNat_of_zero_le ha0
  obtain ⟨bw, la, lc, hr, hF⟩ := h.rep
  have hc0 := hr.cell0
  have hcx := hr.word (i := i) (x := y) (by simpa using hy)
  clear hr hy he
  have hq : (y != o) = true := by simpa using hne
  have hb := World.block_lt_of_cell? w _ hc0
  clear hne
  go_enter Try.func33, Try.ntmps33
  go_wp2
  go_quiet (first | (go_at_call 35; exact quiet_eq (check_ok _ _ _ _ _ _ _ (cell_alloc_drewN hc0 _ _) ht0 ht1 ha0 ha1)) | (go_at_call 32; exact quiet_eq (aload_any _ _ _ _ (cell_alloc_drewN hcx _ _))))
  go_wp2
  go_ret
  exact ⟨rfl, ((Keep.refl _ _).alloc _).drewN _⟩

set_option maxRecDepth 100000 in
set_option maxHeartbeats 2000000 in
theorem poss_kind (h : MemAt w b F ws log) (x : Acc) (he : errOf x.t x.a ws.length = 0) (hy : ws[x.a.toNat]? = some x.o) :
    Calls Try.prog 33 #[.pointer (some ⟨b, 0, none⟩), .agg #[.int .i64 x.t, .int .i64 x.a, .int .u8 x.k, .int .u64 x.o, .int .u64 x.n, .bool x.s]] w fun e w' => e = .returned (.bool (possB ws x)) ∧ Keep Nil w w' := by
  rw [possB_kind he hy]
  obtain ⟨t, a, k, o, n, s⟩ := x
  dsimp only at *
  obtain ⟨ht0, ht1, ha0, ha1⟩ := errOf_zero.1 he
  obtain ⟨i, rfl⟩ := Int.eq_ofNat_of_zero_le ha0
  obtain ⟨bw, la, lc, hr, hF⟩ := h.rep
  have hc0 := hr.cell0
  have hcx := hr.word (i := i) (x := o) (by simpa using hy)
  clear hr hy he
  have hb := World.block_lt_of_cell? w _ hc0
  have hq : (o != o) = false := by simp
  go_enter Try.func33, Try.ntmps33
  go_wp2
  go_quiet (first | (go_at_call 35; exact quiet_eq (check_ok _ _ _ _ _ _ _ (cell_alloc_drewN hc0 _ _) ht0 ht1 ha0 ha1)) | (go_at_call 32; exact quiet_eq (aload_any _ _ _ _ (cell_alloc_drewN hcx _ _))))
  clear hc0 hcx hq
  go_wp2
  all_goals
    go_ret
    refine ⟨ret_bool ?_, ((Keep.refl _ _).alloc _).drewN _⟩
    simp_all [kindB]

/-- possible, over a memory that is described. -/
theorem poss_any (h : MemAt w b F ws log) (x : Acc) :
    Calls Try.prog 33 #[.pointer (some ⟨b, 0, none⟩), .agg #[.int .i64 x.t, .int .i64 x.a, .int .u8 x.k, .int .u64 x.o, .int .u64 x.n, .bool x.s]] w fun e w' => e = .returned (.bool (possB ws x)) ∧ Keep Nil w w' := by
  by_cases he : errOf x.t x.a ws.length = 0
  · have := errOf_zero.1 he
    obtain ⟨y, hy⟩ : ∃ y, ws[x.a.toNat]? = some y := ⟨_, List.getElem?_eq_getElem (by omega)⟩
    by_cases hne : y = x.o
    · subst hne; exact poss_kind h x he hy
    · exact poss_old h x y he hy hne
  · exact poss_err h x he
end
end Go.Proofs.Ytnfkjdmjgphghaa
