/- pool: Out. -/
import Derived.Test.YtjghenomeindcaaGreatPoolL
import Derived.Test.YtjghenomeindcaaGreatIMap
import Derived.Test.YtjghenomeindcaaGreatSorts
import Derived.Sort.OwnSortedInts
import Derived.Lib.RowBridge
set_option linter.unusedVariables false
set_option linter.unusedSimpArgs false
namespace Go.Lf
/-- Two ascending lists with the same members are one. -/
theorem asc_ext : ∀ {l m : List Int}, l.Pairwise (· < ·) → m.Pairwise (· < ·) → (∀ x, x ∈ l ↔ x ∈ m) → l = m
  | [], [], _, _, _ => rfl
  | [], b :: m, _, _, h => absurd ((h b).2 List.mem_cons_self) (by simp)
  | a :: l, [], _, _, h => absurd ((h a).1 List.mem_cons_self) (by simp)
  | a :: l, b :: m, hl, hm, h => by
    rw [List.pairwise_cons] at hl hm
    have hab : a = b := by
      rcases List.mem_cons.1 ((h a).1 List.mem_cons_self) with e | e
      · exact e
      · rcases List.mem_cons.1 ((h b).2 List.mem_cons_self) with e' | e'
        · exact e'.symm
        · have := hm.1 a e
          have := hl.1 b e'
          omega
    subst hab
    rw [asc_ext hl.2 hm.2 fun x => ?_]
    constructor
    · intro hx
      rcases List.mem_cons.1 ((h x).1 (List.mem_cons_of_mem _ hx)) with e | e
      · have := hl.1 x hx; omega
      · exact e
    · intro hx
      rcases List.mem_cons.1 ((h x).2 (List.mem_cons_of_mem _ hx)) with e | e
      · have := hm.1 x hx; omega
      · exact e
/-- What a sort makes of a list whose members are those of an ascending list, each once. -/
theorem sort_to {zs l : List Int} (hl : l.Pairwise (· < ·)) (hn : zs.Nodup) (h : ∀ x, x ∈ zs ↔ x ∈ l) : zs.mergeSort (fun x y => decide (x ≤ y)) = l := by
  have hp := List.mergeSort_perm zs (fun x y => decide (x ≤ y))
  have hs : (zs.mergeSort (fun x y => decide (x ≤ y))).Pairwise (fun x y => decide (x ≤ y) = true) := List.pairwise_mergeSort (fun a b c h1 h2 => by simp at h1 h2 ⊢; omega) (fun a b => by simp; omega) zs
  have hnd : (zs.mergeSort (fun x y => decide (x ≤ y))).Nodup := hp.nodup_iff.2 hn
  refine asc_ext ?_ hl fun x => (hp.mem_iff).trans (h x)
  have := hs.and hnd
  exact this.imp fun ⟨h1, h2⟩ => by simp at h1; omega
end Go.Lf
namespace Go.Proofs.YtjghenomeindcaaGreat
open Go.RowKit Go.Lf Go.Shelf Go.Sort
/-- slices.Sort on a row that the call owns. -/
theorem sort_rowP {w : World} {base : Nat} {v : Value} {zs : List Int} (ho : w.ownsRow base 3 1 v zs.length (intsI zs)) (hl : zs.length < 1000000) :
    Calls Tryz.prog 96 #[v] w fun e w' => e = .returned (.tuple #[]) ∧ w'.ownsRow base 3 1 v zs.length (intsI (zs.mergeSort fun x y => decide (x ≤ y))) ∧ w.grownBy w' v.ownBlock := by
  rcases ho.2 with ⟨rfl, h0⟩ | ⟨g, cap, cur, rfl, hbg, hg, hnc, hcm, hcs, htake⟩
  · have hz : zs = [] := List.eq_nil_of_length_eq_zero h0
    subst hz
    refine (Tryz.slices_Sort_int_none none 0 w).mono ?_
    rintro e w' ⟨rfl, rfl⟩
    exact ⟨rfl, by simpa [intsI] using World.ownsRow_nil _ _ _ _, World.grownBy.refl _ _⟩
  · rw [Nat.mul_one] at hcs htake
    have hH : Holds (Value.int .i64) w g 0 zs.toArray := holds_of_blockI hg htake
    have hperm := List.mergeSort_perm zs (fun x y => decide (x ≤ y))
    have hlen := hperm.length_eq
    refine (Tryz.slices_Sort_int g 0 cap zs w hH (lt_of_block hg) (by omega)).mono ?_
    rintro e w' ⟨rfl, n, os, rfl⟩
    exact ⟨rfl, ownsRow_sortedI hlen hbg hg hnc hcm (by omega), grownBy_sortedI _⟩
def OutTo (w : World) (l : List Int) (e : Ending) (w' : World) : Prop := ∃ a cp, e = .returned (.slice a l.length cp) ∧ w'.ownsRow 0 3 1 (.slice a l.length cp) l.length (intsI l) ∧ Keep Nil w w' ∧ ∀ k, (Value.slice a l.length cp).ownBlock = some k → w.heap.size ≤ k
section
variable {w w1 w2 w' : World} {A : Nat → Prop} {c : Cfg} {pb mb L ob gb tb m : Nat} {F G : Nat → Prop} {s s' : PSt}
theorem pout_nil : Calls Tryz.prog 41 #[.pointer none] w fun e w' => e = .returned (.slice none 0 0) ∧ w = w' := by
  go_enter Tryz.func41, Tryz.ntmps41
  go_wp2
  go_ret
  exact ⟨rfl, rfl⟩
set_option maxRecDepth 100000 in
set_option maxHeartbeats 4000000 in
theorem pout_ok (h : PA w A c pb mb L ob gb F G s) (hok : c.ok) (hr : ∀ x, (s.out x).isSome = true → 1 ≤ x ∧ x ≤ c.nT) : Calls Tryz.prog 41 #[.pointer (some ⟨pb, 0, none⟩)] w (OutTo w (outL c.nT s.out)) := by
  obtain ⟨-, -, -, -, p4, -⟩ := h.cells
  obtain ⟨l, im, nd, hml⟩ := h.out
  have hmem : ∀ x, x ∈ mkeys l ↔ x ∈ outL c.nT s.out := fun x => by
    rw [outL_mem]
    have h1 : x ∈ mkeys l ↔ (s.out x).isSome = true := by
      have h2 := hml x
      have h3 := @mlook_none l x
      cases ho : s.out x with
      | none =>
        rw [ho] at h2
        have := h3.1 h2
        simp [this]
      | some b =>
        rw [ho] at h2
        have : ¬ (mlook l x = none) := by rw [h2]; simp
        simp only [Option.isSome_some, iff_true]
        exact Classical.byContradiction fun h => this (h3.2 h)
    rw [h1]
    exact ⟨fun h => ⟨hr x h, h⟩, fun h => h.2⟩
  have hln : l.length ≤ 1024 := by
    have h1 : (mkeys l).length ≤ c.nT := nodup_bd nd fun x hx => (outL_mem.1 ((hmem x).1 hx)).1
    have h2 : (mkeys l).length = l.length := by simp [mkeys]
    have := hok.nT
    omega
  have HMEM := hid hmem
  have HND := hid nd
  have HLN := hid hln
  have HIM := hid im
  clear h im nd hml hmem hln hr
  go_enter Tryz.func41, Tryz.ntmps41
  go_wp2_with (at_range; refine wpList_range_imap _ rfl _ rfl Tryz.underlying177 rfl HIM.out ?_)
  intro w1 hi hk hz
  have HI := hid hi
  have HK := hid hk
  have HZ := hid hz
  clear hi hk hz
  go_wp2
  go_loopw [3] (fun vs wz => ∃ (xs : List Int) (a : Option Addr) (cp : Nat), vs = .slice a xs.length cp ∧ wz.ownsRow 0 3 1 (.slice a xs.length cp) xs.length (intsI xs) ∧ IRng .i64 wz ob w.heap.size l xs ∧ Keep Nil w wz ∧ (∀ q, (Value.slice a xs.length cp).ownBlock = some q → w.heap.size ≤ q)) (fun vs _ => l.length - slLen vs)
  case atStart => exact ⟨[], none, 0, rfl, World.ownsRow_nil _ _ _ _, HI.out, HK.out, fun q e => by cases e⟩
  case round =>
    obtain ⟨xs, a, cp, rfl, hrow, hi, hkk, hnw⟩ := hrel
    have HR := hid hrow
    have HJ := hid hi
    have HKK := hid hkk
    have HNW := hid hnw
    clear hrow hi hkk hnw
    go_wp2_with (at_next; refine wpList_next_imap _ rfl _ rfl rfl HJ.out ?done ?more)
    case done =>
      intro hp
      have HP := hid hp
      have HXL := hid (show xs.length < 1000000 by have := HJ.out.len; have := HLN.out; omega)
      clear hp
      go_wp2_with fail
      refine (sort_rowP HR.out HXL.out).mono ?_
      rintro e w2 ⟨rfl, ho, hg⟩
      have HO := hid ho
      have HG := hid (show Keep Nil w w2 from HKK.out.grown hg (fun q e => .inr (HNW.out q e)))
      clear ho hg
      go_wp2
      go_ret
      have hs : xs.mergeSort (fun x y => decide (x ≤ y)) = outL c.nT s.out := sort_to (outL_sorted _ _) ((HP.out.nodup_iff).2 HND.out) (fun x => (HP.out.mem_iff).trans (HMEM.out x))
      have hlen : xs.length = (outL c.nT s.out).length := by rw [← hs]; exact (List.mergeSort_perm _ _).length_eq.symm
      have ho := HO.out
      rw [hs] at ho
      have hn := HNW.out
      rw [hlen] at ho hn ⊢
      exact ⟨a, cp, rfl, ho, HG.out, hn⟩
    case more =>
      intro x v w2 hi2 hk2 hz2 hen
      have hne := HJ.out.ne_row HR.out
      have HI2 := hid hi2
      have HK2 := hid (HKK.out.trans hk2 (fun q hq e => by omega))
      have HR2 := hid (row_keep HR.out hk2 (fun q e e2 => hne.2 (by rw [e, e2])))
      have hne2 := HI2.out.ne_row HR2.out
      have HNE := hid hne2
      have HKL := hid (show xs.length < 1024 by have h1 := hi2.len; have h2 := HLN.out; rw [List.length_append, List.length_singleton] at h1; omega)
      have HLT := hid (show xs.length < l.length by have h1 := hi2.len; rw [List.length_append, List.length_singleton] at h1; omega)
      have HZ2 := hid (show w.heap.size ≤ w2.heap.size from HK2.out.size)
      have HIL := hid hi2.lt
      have HOB := hid (show ob < w2.heap.size from by obtain ⟨es, cl, si, se, c0, a1, -⟩ := hi2; exact lt_of_block a1)
      clear hi2 hk2 hz2 hne hne2
      go_wp2_with (at_builtin; refine wpList_app _ rfl (.tmp 16) (.tmp 18) 32 rfl 3 _ 1 8 Tryz.underlying32 infoInt rfl (by decide) (.slice a xs.length cp) xs.length (intsI xs) rfl ?own _ 1 [.int .i64 x] rfl ?rd ?one ?byt ?len ?_)
      case own => exact HR2.out.alloc _
      case rd => exact rd_new _ _ _ _ _ _
      case one => simp [Value.oneCell']
      case byt => have := HKL.out; omega
      case len => have := HKL.out; unfold maxLen; omega
      intro a2 c2 w5 ho hgr hs
      have HO := hid ho
      have KA := ((Keep.refl (fun q => (Value.slice a xs.length cp).ownBlock = some q) w2).alloc (.cells #[.int .i64 x] 3)).grown hgr (fun q e => .inl e)
      have HKB := hid (show Keep Nil w w5 from (HK2.out.alloc _).grown hgr (fun q e => .inr (HNW.out q e)))
      have HNB := hid (show ∀ q, (Value.slice a2 (xs.length + 1) c2).ownBlock = some q → w.heap.size ≤ q from fun q e => (hs q e).elim (HNW.out q) (fun e => by have := HZ2.out; simp at e; omega))
      have HI5 := hid (HI2.out.keep KA HNE.out.1 HNE.out.2)
      clear ho hgr hs KA
      go_wp2
      go_roundw
      case rel => exact ⟨xs ++ [x], a2, c2, by rw [List.length_append]; rfl, by rw [List.length_append]; unfold intsI; rw [← intsI_snoc]; exact HO.out, HI5.out, HKB.out, by rw [List.length_append]; exact HNB.out⟩
      case measure => have := HLT.out; simp [slLen]; omega
end
end Go.Proofs.YtjghenomeindcaaGreat
