/- layout: the closure that places a group. -/
import Derived.Test.YtjghenomeindcaaGreatLayOps
set_option linter.unusedVariables false
set_option linter.unusedSimpArgs false
namespace Go.Proofs.YtjghenomeindcaaGreat
open Go.RowKit Go.Lf
theorem infoGrp : (Tryz.prog.info? 169).map (fun i => (i.zero, i.size, i.bytes)) = some (some (.agg #[.int .u8 0, .int .i64 0, .int .i64 0, .int .i64 0]), 4, 32) := by kernel_rfl
section
variable {w : World}
structure PlaceAt (w w' : World) (ab L : Nat) (cs : Array Value) (t : TypeId) (at' : Int) (ga : Option Addr) (n : Nat) (gc : Nat) : Prop where
  res : ∃ (ga' : Option Addr) (gc' : Nat) (xs : List Value), w'.heap[L]? = some (.cells (cs.setIfInBounds 26 (.slice ga' (n + 1) gc')) t (0, 0)) ∧ w'.ownsRow 0 169 4 (.slice ga' (n + 1) gc') (n + 1) xs ∧
    ∀ k, (Value.slice ga' (n + 1) gc').ownBlock = some k → (Value.slice ga n gc).ownBlock = some k ∨ w.heap.size ≤ k
  atc : w'.heap[ab]? = some (.cells #[.int .i64 at'] 3 (0, 0))
  keep : Keep (fun k => k = ab ∨ k = L ∨ (Value.slice ga n gc).ownBlock = some k) w w'
def PlaceTo (w : World) (ab L : Nat) (cs : Array Value) (t : TypeId) (v at' : Int) (ga : Option Addr) (n gc : Nat) (e : Ending) (w' : World) : Prop := e = .returned (.int .i64 v) ∧ PlaceAt w w' ab L cs t at' ga n gc
set_option maxRecDepth 100000 in
set_option maxHeartbeats 2000000 in
theorem place_ok (k many words at0 : Int) (ab lb L : Nat) (cs : Array Value) (ga : Option Addr) (n gc : Nat) (xs : List Value)
    (hab : w.heap[ab]? = some (.cells #[.int .i64 at0] 3 (0, 0))) (hlb : w.heap[lb]? = some (.cells #[.pointer (some ⟨L, 0, none⟩)] 48 (0, 0)))
    (hL : w.heap[L]? = some (.cells cs 152 (0, 0))) (hs : cs.size = 30) (hg : cs[26]? = some (.slice ga n gc)) (hrow : w.ownsRow 0 169 4 (.slice ga n gc) n xs)
    (n1 : (Value.slice ga n gc).ownBlock ≠ some L) (n2 : (Value.slice ga n gc).ownBlock ≠ some ab) (n3 : L ≠ ab) (n4 : (Value.slice ga n gc).ownBlock ≠ some lb) (hn : n ≤ 1000)
    (k0 : 0 ≤ k) (k1 : k ≤ 255) (p0 : 0 ≤ many * words) (p1 : many * words ≤ 1000000) (a0 : 0 ≤ at0) (a1 : at0 ≤ 1000000) :
    Calls Tryz.prog 71 #[.int .u8 k, .int .i64 many, .int .i64 words, .pointer (some ⟨ab, 0, none⟩), .pointer (some ⟨lb, 0, none⟩)] w (PlaceTo w ab L cs 152 at0 (at0 + many * words) ga n gc) := by
  have hl : w.cell? ⟨lb, 0, none⟩ = some (.pointer (some ⟨L, 0, none⟩)) := by rw [cell_of hlb]; rfl
  have hlz : lb < w.heap.size := lt_of_block hlb
  have c0 : w.cell? ⟨ab, 0, none⟩ = some (.int .i64 at0) := by rw [cell_of hab]; rfl
  have c1 : w.cell? ⟨L, 26, none⟩ = some (.slice ga n gc) := by rw [cell_of hL]; exact hg
  have hbz : L < w.heap.size := lt_of_block hL
  have haz : ab < w.heap.size := lt_of_block hab
  have HA := hid hab
  have HL := hid hL
  have HR := hid hrow
  have HN1 := hid n1
  have HN4 := hid n4
  have HLB := hid hlb
  have HN2 := hid n2
  have HS := hid hs
  have HC26 := hid hg
  clear hab hL hrow n1 n2 n4 hg hs hlb
  go_enter Tryz.func71, Tryz.ntmps71
  go_wp2
  go_region_law (refine step_app _ rfl (.tmp 15) (.tmp 21) 150 rfl 169 _ 4 32 Tryz.underlying150 infoGrp rfl (by decide) (.slice ga n gc) n xs (by simp [Act.eval]) ((row_drew HR.out).alloc _) _ 1 [.int .u8 k, .int .i64 at0, .int .i64 many, .int .i64 words] (by simp [Act.eval]) (rd_new _ _ _ _ _ _) (by simp [Value.oneCell']) (by omega) (by unfold maxLen; omega) ?_; intro ga' gc' w1 ho hg hs; have hb1 : w1.heap[L]? = some (.cells cs 152 (0, 0)) := (hg.block L (by simp; omega) (fun e => HN1.out e.symm)).trans (alloc_old HL.out _); have ha1 : w1.heap[ab]? = some (.cells #[.int .i64 at0] 3 (0, 0)) := (hg.block ab (by simp; omega) (fun e => HN2.out e.symm)).trans (alloc_old HA.out _); have hf1 : w1.frozen? ⟨L, 26, none⟩ = false := free_of hb1 26; have hc1 : w1.cell? ⟨L, 26, none⟩ = some (.slice ga n gc) := (by rw [cell_of hb1]; exact HC26.out); have hcl : w1.cell? ⟨lb, 0, none⟩ = some (.pointer (some ⟨L, 0, none⟩)) := (by rw [cell_of ((hg.block lb (by simp; omega) (fun e => HN4.out e.symm)).trans (alloc_old HLB.out _))]; rfl); have HO := hid ho; have HG := hid hg; have HGS := hid hs; have HB1 := hid hb1; have HA1 := hid ha1; clear ho hg hs hb1 ha1)
  all_goals
    obtain ⟨W2, hW2⟩ : ∃ W2, W2 = w1.setCell ⟨L, 26, none⟩ (.slice ga' (n + 1) gc') := ⟨_, rfl⟩
    rw [← hW2]
    have hL2 : W2.heap[L]? = some (.cells (cs.setIfInBounds 26 (.slice ga' (n + 1) gc')) 152 (0, 0)) := by rw [hW2]; exact set_same HB1.out _
    have hA2 : W2.heap[ab]? = some (.cells #[.int .i64 at0] 3 (0, 0)) := by rw [hW2]; exact set_other HA1.out (by simpa using Ne.symm n3) _
    have ca : W2.cell? ⟨ab, 0, none⟩ = some (.int .i64 at0) := by rw [cell_of hA2]; rfl
    have fa : W2.frozen? ⟨ab, 0, none⟩ = false := free_of hA2 0
    have hrow2 : W2.ownsRow 0 169 4 (.slice ga' (n + 1) gc') (n + 1) (xs ++ [.int .u8 k, .int .i64 at0, .int .i64 many, .int .i64 words]) := by
      rw [hW2]
      refine ownsRow_setCell_other HO.out (fun e => ?_) _
      rcases HGS.out L e with h | h
      · exact HN1.out h
      · simp at h; omega
    have hk2 : Keep (fun k => k = ab ∨ k = L ∨ (Value.slice ga n gc).ownBlock = some k) w W2 := by
      rw [hW2]
      exact Keep.setCell (Keep.grown ((Keep.refl _ _).alloc _ |>.drew) HG.out (fun j hj => .inl (.inr (.inr hj)))) (.inl (.inr (.inl rfl))) _
    have hne : ∀ j, (Value.slice ga' (n + 1) gc').ownBlock = some j → (Value.slice ga n gc).ownBlock = some j ∨ w.heap.size ≤ j := fun j hj => by
      rcases HGS.out j hj with h | h
      · exact .inl h
      · exact .inr (by simp at h; omega)
    have H2 := hid (And.intro hL2 (And.intro hA2 (And.intro hrow2 (And.intro hk2 hne))))
    clear hW2 hL2 hA2 hrow2 hk2 hne HGS HG HB1 HA1 HO
    go_wp2
    go_ret
    obtain ⟨hL2, hA2, hrow2, hk2, hne⟩ := H2.out
    refine ⟨rfl, ⟨ga', gc', _, set_other hL2 (by simpa using n3) _, ownsRow_setCell_other hrow2 (fun e => ?_) _, hne⟩, set_same hA2 _, Keep.setCell hk2 (.inl (.inl rfl)) _⟩
    rcases hne ab e with h | h
    · exact HN2.out h
    · omega
end
end Go.Proofs.YtjghenomeindcaaGreat
