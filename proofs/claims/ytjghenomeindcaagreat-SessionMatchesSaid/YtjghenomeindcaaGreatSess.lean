/- session: contracts of New, Next, Result, owner. -/
import Derived.Test.YtjghenomeindcaaGreatStore
set_option linter.unusedVariables false
set_option linter.unusedSimpArgs false
namespace Go.Lf
/-- An opening: the slots that are left, the slot, the error. -/
structure OS where
  left : List Nat
  slot : Int
  err : Int
end Go.Lf
namespace Go.Proofs.YtjghenomeindcaaGreat
open Go.RowKit Go.Lf
attribute [local go_sem] fld0 fld1 fld2 fld3 fld4 fld5 fld6 fld7 fld8 fld9 fldc fldl
theorem row_cap {w : World} {e : TypeId} {size n cp m : Nat} {a : Option Addr} {xs : List Value} (h : w.ownsRow 0 e size (.slice a n cp) m xs) : m ≤ cp := by
  rcases h.2 with ⟨h, rfl⟩ | ⟨g, cap, cur, h, -, -, h1, -⟩
  · omega
  · injection h with _ _ h3; omega
structure OpenAt (w : World) (o b : Nat) (t : Int) (s : OS) (a : Option Addr) (cp : Nat) : Prop where
  head : w.heap[o]? = some (.cells #[.pointer (some ⟨b, 0, none⟩), .int .i64 t, .slice a s.left.length cp, .int .i64 s.slot, .int .i64 s.err] 132 (0, 0))
  rd : Rd w 1 (.slice a s.left.length cp) s.left.length (nums s.left)
  cap : s.left.length ≤ cp
  blk : ∀ k, (Value.slice a s.left.length cp).ownBlock = some k → k < w.heap.size ∧ k ≠ o
theorem OpenAt.keep {w w' : World} {o b : Nat} {t : Int} {s : OS} {a : Option Addr} {cp : Nat} {S : Nat → Prop} (h : OpenAt w o b t s a cp) (hk : Keep S w w') (h1 : ¬ S o) (h2 : ∀ k, (Value.slice a s.left.length cp).ownBlock = some k → ¬ S k) : OpenAt w' o b t s a cp :=
  ⟨hk.at h.head h1, rd_keep h.rd hk h2, h.cap, fun k e => ⟨by have := (h.blk k e).1; have := hk.size; omega, (h.blk k e).2⟩⟩
def SNewTo (w : World) (b : Nat) (t : Int) (n : Nat) (e : Ending) (w' : World) : Prop :=
  ∃ o a cp, e = .returned (.tuple #[.pointer (some ⟨o, 0, none⟩), .int .i64 0]) ∧ OpenAt w' o b t ⟨List.range n, 0, 0⟩ a cp ∧ Keep Nil w w' ∧ w.heap.size ≤ o ∧ ∀ k, (Value.slice a n cp).ownBlock = some k → w.heap.size ≤ k
section
variable {w : World} {A : Nat → Prop} {c : Cfg} {b mb L : Nat} {F G : Nat → Prop} {ws : List Int} {log : List Acc}
set_option maxRecDepth 100000 in
set_option maxHeartbeats 4000000 in
theorem owner_ok (h : SP w A c b mb L F G ws log) (slot : Int) (h0 : 0 ≤ slot) (h1 : slot ≤ 64) : Calls Tryz.prog 60 #[.pointer (some ⟨b, 0, none⟩), .int .i64 slot] w fun e w' => e = .returned (.int .i64 slot) ∧ Keep Nil w w' := by
  have H := hid h
  have wm : IntKind.i64.wrap (0 + slot) = slot := by rw [IntKind.wrap_i64]; omega
  have wm2 : IntKind.i64.wrap slot = slot := by rw [IntKind.wrap_i64]; omega
  clear h
  go_enter Tryz.func60, Tryz.ntmps60
  go_wp2_with fail
  refine (blayout_ok H.out).mono ?_
  rintro e w1 ⟨rfl, rfl⟩
  go_wp2_with fail
  refine (places_ok H.out.lay.at_).mono ?_
  rintro e w1 ⟨rfl, hk⟩
  have HK := hid hk
  clear hk
  go_wp2
  go_ret
  exact ⟨rfl, HK.out⟩
set_option maxHeartbeats 4000000 in
theorem snext_idle (o t : Int) {ob bb : Nat} {s : OS} {a : Option Addr} {cp : Nat} (h : OpenAt w ob bb t s a cp) (hl : s.left.length = 0) : Calls Tryz.prog 11 #[.pointer (some ⟨ob, 0, none⟩)] w fun e w' => e = .returned (.int .u8 0) ∧ w = w' := by
  have c2 : w.cell? ⟨ob, 2, none⟩ = some (.slice a s.left.length cp) := by rw [cell_of h.head]; rfl
  rw [hl] at c2
  clear h hl
  go_enter Tryz.func11, Tryz.ntmps11
  go_wp2
  go_ret
  exact ⟨rfl, rfl⟩
set_option maxHeartbeats 4000000 in
theorem snext_own (t : Int) {ob bb : Nat} {s : OS} {a : Option Addr} {cp : Nat} (h : OpenAt w ob bb t s a cp) (hl : s.left.length ≠ 0) : Calls Tryz.prog 11 #[.pointer (some ⟨ob, 0, none⟩)] w fun e w' => e = .returned (.int .u8 35) ∧ w = w' := by
  have c2 : w.cell? ⟨ob, 2, none⟩ = some (.slice a s.left.length cp) := by rw [cell_of h.head]; rfl
  have d : ((s.left.length : Int) == 0) = false := beq_eq_false_iff_ne.2 (by omega)
  clear h hl
  go_enter Tryz.func11, Tryz.ntmps11
  go_wp2
  go_ret
  exact ⟨rfl, rfl⟩
theorem snext_nil : Calls Tryz.prog 11 #[.pointer none] w fun e w' => e = .returned (.int .u8 0) ∧ w = w' := by
  go_enter Tryz.func11, Tryz.ntmps11
  go_wp2
  go_ret
  exact ⟨rfl, rfl⟩
set_option maxHeartbeats 4000000 in
theorem sres_done (t : Int) {ob bb : Nat} {s : OS} {a : Option Addr} {cp : Nat} (h : OpenAt w ob bb t s a cp) (hl : s.left.length = 0) : Calls Tryz.prog 10 #[.pointer (some ⟨ob, 0, none⟩)] w fun e w' => e = .returned (.tuple #[.int .i64 s.slot, .int .i64 s.err]) ∧ Keep Nil w w' := by
  have c2 : w.cell? ⟨ob, 2, none⟩ = some (.slice a s.left.length cp) := by rw [cell_of h.head]; rfl
  have c3 : w.cell? ⟨ob, 3, none⟩ = some (.int .i64 s.slot) := by rw [cell_of h.head]; rfl
  have c4 : w.cell? ⟨ob, 4, none⟩ = some (.int .i64 s.err) := by rw [cell_of h.head]; rfl
  rw [hl] at c2
  clear h hl
  go_enter Tryz.func10, Tryz.ntmps10
  go_wp2
  go_quiet (fail)
  go_wp2
  go_ret2
  exact ⟨rfl, (Keep.refl Nil w).drewN _⟩
set_option maxHeartbeats 4000000 in
theorem sres_state (t : Int) {ob bb : Nat} {s : OS} {a : Option Addr} {cp : Nat} (h : OpenAt w ob bb t s a cp) (hl : s.left.length ≠ 0) : Calls Tryz.prog 10 #[.pointer (some ⟨ob, 0, none⟩)] w fun e w' => e = .returned (.tuple #[.int .i64 0, .int .i64 8]) ∧ Keep Nil w w' := by
  have c2 : w.cell? ⟨ob, 2, none⟩ = some (.slice a s.left.length cp) := by rw [cell_of h.head]; rfl
  have d : decide (0 < (s.left.length : Int)) = true := decide_eq_true (by omega)
  have d2 : 0 < s.left.length := by omega
  clear h hl
  go_enter Tryz.func10, Tryz.ntmps10
  go_wp2
  go_ret2
  exact ⟨rfl, Keep.refl _ _⟩
theorem sres_nil : Calls Tryz.prog 10 #[.pointer none] w fun e w' => e = .returned (.tuple #[.int .i64 0, .int .i64 1]) ∧ Keep Nil w w' := by
  go_enter Tryz.func10, Tryz.ntmps10
  go_wp2
  go_ret2
  exact ⟨rfl, Keep.refl _ _⟩
theorem snew_nil (t : Int) : Calls Tryz.prog 8 #[.pointer none, .int .i64 t] w fun e w' => e = .returned (.tuple #[.pointer none, .int .i64 1]) ∧ Keep Nil w w' := by
  go_enter Tryz.func8, Tryz.ntmps8
  go_wp2
  go_ret2
  exact ⟨rfl, Keep.refl _ _⟩
theorem snew_bad (b : Nat) (t : Int) (h : t < 0 ∨ 64 ≤ t) : Calls Tryz.prog 8 #[.pointer (some ⟨b, 0, none⟩), .int .i64 t] w fun e w' => e = .returned (.tuple #[.pointer none, .int .i64 2]) ∧ Keep Nil w w' := by
  by_cases h1 : t < 0
  · have d : decide (t < 0) = true := decide_eq_true h1
    clear h h1
    go_enter Tryz.func8, Tryz.ntmps8
    go_wp2
    go_ret2
    exact ⟨rfl, Keep.refl _ _⟩
  · have d : decide (t < 0) = false := decide_eq_false h1
    have d2 : decide (64 ≤ t) = true := decide_eq_true (by omega)
    clear h h1
    go_enter Tryz.func8, Tryz.ntmps8
    go_wp2
    go_ret2
    exact ⟨rfl, Keep.refl _ _⟩
theorem snums_range (k : Nat) : nums (List.range (k + 1)) = nums (List.range k) ++ [.int .i64 (k : Int)] := by
  rw [List.range_succ, nums_snoc]
set_option maxRecDepth 100000 in
set_option maxHeartbeats 4000000 in
theorem snew_ok (h : SP w A c b mb L F G ws log) (hok : c.ok) (t : Int) (t0 : 0 ≤ t) (t1 : t < 64) : Calls Tryz.prog 8 #[.pointer (some ⟨b, 0, none⟩), .int .i64 t] w (SNewTo w b t c.sl) := by
  have H := hid h
  have HOK := hid hok
  have d1 : decide (t < 0) = false := decide_eq_false (by omega)
  have d2 : decide (64 ≤ t) = false := decide_eq_false (by omega)
  have hsl := hok.sl2
  clear h hok t0 t1
  go_enter Tryz.func8, Tryz.ntmps8
  go_wp2_with fail
  refine (bconfig_ok (H.out.quiet ((Keep.refl Nil w).alloc _)) HOK.out).mono ?_
  rintro e w1 ⟨t1, t2, t3, t4, t5, t6, a, cp, rfl, hk⟩
  have ho := hk.at (heap_alloc_new w _) (fun h => h)
  have HO := hid ho
  have HK := hid (((Keep.refl Nil w).alloc _).trans hk (fun _ _ h => h))
  have hz : w.heap.size < w1.heap.size := lt_of_block ho
  clear ho hk
  go_wp2
  go_loopw [23] (fun i wr => ∃ k : Nat, k ≤ c.sl ∧ i = .int .i64 k ∧ ∃ (a : Option Addr) (cp : Nat), wr.heap[w.heap.size]? = some (.cells #[.pointer (some ⟨b, 0, none⟩), .int .i64 t, .slice a k cp, .int .i64 0, .int .i64 0] 132 (0, 0)) ∧ wr.ownsRow 0 3 1 (.slice a k cp) k (nums (List.range k)) ∧ (∀ j, (Value.slice a k cp).ownBlock = some j → w.heap.size ≤ j) ∧ Keep Nil w wr) (fun i _ => c.sl - (intOf i).toNat)
  case atStart => exact ⟨0, Nat.zero_le _, rfl, none, 0, HO.out, ⟨by simp [nums, i64s, ints], .inl ⟨rfl, rfl⟩⟩, fun j hj => (by cases hj), HK.out⟩
  case round =>
    obtain ⟨k, hk, rfl, a, cp, ho, hr, hn, hkw⟩ := hrel
    have HO2 := hid ho
    have HR := hid hr
    have HN := hid hn
    have HKW := hid hkw
    have n1 := rty_ne hr ho (by decide)
    have N1 := hid n1
    clear hkw hn
    by_cases hlt : k < c.sl
    · have dk : decide ((k : Int) < (c.sl : Int)) = true := decide_eq_true (by omega)
      have c2 : wr.cell? ⟨w.heap.size, 2, none⟩ = some (.slice a k cp) := by rw [cell_of ho]; rfl
      have hbz : w.heap.size < wr.heap.size := lt_of_block ho
      have wk : IntKind.i64.wrap ((k : Int) + 1) = (k : Int) + 1 := by rw [IntKind.wrap_i64]; omega
      have HLT := hid hlt
      clear hlt hk ho hr n1
      go_wp2_with (at_builtin; refine wpList_app _ rfl (.tmp 30) (.tmp 32) 32 rfl 3 _ 1 8 Tryz.underlying32 infoInt rfl (by decide) (.slice a k cp) k (nums (List.range k)) rfl ?own (.slice (some ⟨wr.heap.size, 0, none⟩) 1 1) 1 [.int .i64 (k : Int)] rfl ?rd ?one ?byt ?len ?_)
      case own => exact row_keep HR.out ((Keep.refl Nil wr).alloc _) (fun _ _ h => h)
      case rd => exact rd_new _ _ _ _ _ _
      case one => simp [Value.oneCell']
      case byt => omega
      case len => unfold maxLen; omega
      intro a' cp' w3 ho3 hg hs
      have hb3 : w3.heap[w.heap.size]? = some (.cells #[.pointer (some ⟨b, 0, none⟩), .int .i64 t, .slice a k cp, .int .i64 0, .int .i64 0] 132 (0, 0)) := (hg.block _ (by simp; omega) (fun e => N1.out e.symm)).trans (alloc_old HO2.out _)
      have f3 : w3.frozen? ⟨w.heap.size, 2, none⟩ = false := free_of hb3 2
      have c3 : w3.cell? ⟨w.heap.size, 2, none⟩ = some (.slice a k cp) := by rw [cell_of hb3]; rfl
      have hne : (Value.slice a' (k + 1) cp').ownBlock ≠ some w.heap.size := fun e => by
        rcases hs _ e with h | h
        · exact N1.out h
        · simp at h; omega
      have HB3 := hid hb3
      have HR3 := hid (ownsRow_setCell_other (a := ⟨w.heap.size, 2, none⟩) ho3 hne (.slice a' (k + 1) cp'))
      have HN3 := hid (show ∀ j, (Value.slice a' (k + 1) cp').ownBlock = some j → w.heap.size ≤ j from fun j hj => by
        rcases hs j hj with h | h
        · exact HN.out j h
        · simp at h; omega)
      have HK3 := hid (show Keep Nil w w3 from (HKW.out.alloc _).grown hg (fun j hj => .inr (HN.out j hj)))
      clear hb3 hne hg hs ho3
      go_wp2
      go_roundw
      case rel => exact ⟨k + 1, by have := HLT.out; omega, by go_num, a', cp', set_same HB3.out _, by rw [snums_range]; exact HR3.out, HN3.out, HK3.out.setCell (.inr (Nat.le_refl _)) _⟩
      case measure => have := HLT.out; simp [intOf]; omega
    · have hkn : k = c.sl := by omega
      subst hkn
      have dk : decide ((c.sl : Int) < (c.sl : Int)) = false := decide_eq_false (by omega)
      have hbz : w.heap.size < wr.heap.size := lt_of_block ho
      clear hlt hk ho hr n1
      go_wp2
      go_ret2
      have hlen : (List.range c.sl).length = c.sl := List.length_range
      refine ⟨w.heap.size, a, cp, rfl, ⟨by rw [hlen]; exact HO2.out, by rw [hlen]; exact row_rd HR.out, by rw [hlen]; exact row_cap HR.out, fun j hj => ?_⟩, HKW.out, Nat.le_refl _, HN.out⟩
      rw [hlen] at hj
      exact ⟨row_lt HR.out j hj, fun e => N1.out (by rw [hj, e])⟩
end
end Go.Proofs.YtjghenomeindcaaGreat
