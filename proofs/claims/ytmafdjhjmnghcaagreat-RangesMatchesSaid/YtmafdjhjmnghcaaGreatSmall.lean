/- The small configuration: contracts of Mod, domain. -/
import Derived.Test.YtmafdjhjmnghcaaGreatLayPlain
import Derived.Test.YtmafdjhjmnghcaaGreatOpenConf
import Derived.Test.YtmafdjhjmnghcaaGreatLayOps
import Derived.Test.YtmafdjhjmnghcaaGreatLayNewA
import Derived.Test.YtmafdjhjmnghcaaGreatIndex
import Derived.Test.YtmafdjhjmnghcaaGreatCallsFirst
set_option linter.unusedVariables false
set_option linter.unusedSimpArgs false
namespace Go.Proofs.YtmafdjhjmnghcaaGreat
open Go.RowKit Go.Lf
set_option maxHeartbeats 400000 in
theorem mod_ok (i n : Int) (b0 : -9223372036854775808 ≤ i) (b1 : i ≤ 9223372036854775807) (h0 : 0 < n) (h1 : n ≤ 1000000) (w : World) :
    Calls Tryz.prog 29 #[.int .i64 i, .int .i64 n] w fun e w' => e = .returned (.int .i64 (i % n)) ∧ w = w' := by
  have hn : (n == 0) = false := beq_eq_false_iff_ne.2 (by omega)
  have d1 : decide (n < 1) = false := decide_eq_false (by omega)
  have h2 := Int.tmod_lt_of_pos i h0
  have h3 := tmod_low' i n h0
  rw [← within_eq' i n]
  go_enter Tryz.func29, Tryz.ntmps29
  go_wp2
  go_ret
  exact ⟨rfl, rfl⟩
/-- A domain map is returned. -/
def DomTo (w : World) (d : Dom) (e : Ending) (w' : World) : Prop :=
  ∃ a cp, e = .returned (.agg #[.int .u8 d.k, .int .i64 d.n, .slice a d.cuts.length cp]) ∧ Rd w' 1 (.slice a d.cuts.length cp) d.cuts.length (u64s d.cuts) ∧ Keep Nil w w' ∧ ∀ k, (Value.slice a d.cuts.length cp).ownBlock = some k → w.heap.size ≤ k ∧ k < w'.heap.size
theorem infoDom : (Tryz.prog.info? 42).map (·.size) = some 3 := by kernel_rfl
theorem u8rem {k : Int} (h0 : 0 ≤ k) (h1 : k ≤ 255) : IntKind.u8.wrap (k.tmod 3) = k % 3 := by
  rw [Int.tmod_eq_emod_of_nonneg h0, IntKind.wrap_u8]; omega
theorem set3 {W : World} {b : Nat} {t : TypeId} {z0 z1 z2 : Value} (x0 x1 x2 : Value) (h : W.heap[b]? = some (.cells #[z0, z1, z2] t (0, 0))) : (((W.setCell ⟨b, 0, none⟩ x0).setCell ⟨b, 1, none⟩ x1).setCell ⟨b, 2, none⟩ x2).heap[b]? = some (.cells #[x0, x1, x2] t (0, 0)) := by
  have h0 : (W.setCell ⟨b, 0, none⟩ x0).heap[b]? = some (.cells #[x0, z1, z2] t (0, 0)) := set_same h _
  have h1 : ((W.setCell ⟨b, 0, none⟩ x0).setCell ⟨b, 1, none⟩ x1).heap[b]? = some (.cells #[x0, x1, z2] t (0, 0)) := set_same h0 _
  exact set_same h1 _
theorem u64s_snoc (l : List Int) (x : Int) : u64s (l ++ [x]) = u64s l ++ [Value.int .u64 x] := by simp [u64s]
theorem nil_rd64 (w : World) : Rd w 1 (.slice none 0 0) 0 (u64s []) := ⟨_, _, rfl, by simp [u64s], .inl ⟨rfl, rfl, rfl⟩⟩
section
variable {w : World} {k n : Int} {cuts : List Int} {a : Option Addr} {cp : Nat}
set_option maxRecDepth 100000 in
set_option maxHeartbeats 8000000 in
theorem dom_small (k0 : 0 ≤ k) (k1 : k ≤ 255) (n0 : -9223372036854775808 ≤ n) (n1 : n ≤ 9223372036854775807) (hrd : Rd w 1 (.slice a cuts.length cp) cuts.length (u64s cuts)) (hlen : cuts.length ≤ maxLen) (hwf : ∀ x ∈ cuts, 0 ≤ x ∧ x < 18446744073709551616) :
    Calls Tryz.prog 83 #[.agg #[.int .u8 k, .int .i64 n, .slice a cuts.length cp]] w (DomTo w (smallD k n cuts)) := by
  have hk3 : 0 ≤ k % 3 ∧ k % 3 < 3 := by omega
  by_cases h0 : k % 3 = 0
  · have e0 : (k % 3 == 0) = true := beq_iff_eq.2 h0
    have HD := hid (show smallD k n cuts = ⟨1, 0, []⟩ from if_pos h0)
    rw [HD.out]
    clear hk3 h0 hrd hlen hwf HD
    go_enter Tryz.func83, Tryz.ntmps83
    go_wp2
    have hh := heap_alloc_new (w.alloc (.cells #[.int .u8 k, .int .i64 n, .slice a cuts.length cp] 42 (0, 0))) (.cells #[.int .u8 1, .int .i64 0, .slice none 0 0] 42 (0, 0))
    rw [World.size_alloc] at hh
    exact bodyPost_ret (results_cell_row rfl _ _ (w.heap.size + 1) _ _ (0, 0) _ rfl hh Tryz.underlying42 rfl infoDom) rfl ⟨none, 0, rfl, nil_rd64 _, ((Keep.refl Nil w).alloc _).alloc _, fun j h => by cases h⟩
  · have e0 : (k % 3 == 0) = false := beq_eq_false_iff_ne.2 h0
    by_cases h1 : k % 3 = 1
    · have e1 : (k % 3 == 1) = true := beq_iff_eq.2 h1
      have HD := hid (show smallD k n cuts = ⟨2, 1 + n % 5, []⟩ from (if_neg h0).trans (if_pos h1))
      rw [HD.out]
      have wn : IntKind.i64.wrap (1 + n % 5) = 1 + n % 5 := by rw [IntKind.wrap_i64]; omega
      clear hk3 h0 h1 hrd hlen hwf HD
      go_enter Tryz.func83, Tryz.ntmps83
      go_wp2_with fail
      refine (mod_ok n 5 n0 n1 (by decide) (by decide) _).mono ?_
      rintro e w' ⟨rfl, rfl⟩
      go_wp2
      have hh := heap_alloc_new (w.alloc (.cells #[.int .u8 k, .int .i64 n, .slice a cuts.length cp] 42 (0, 0))) (.cells #[.int .u8 2, .int .i64 (1 + n % 5), .slice none 0 0] 42 (0, 0))
      rw [World.size_alloc] at hh
      exact bodyPost_ret (results_cell_row rfl _ _ (w.heap.size + 1) _ _ (0, 0) _ rfl hh Tryz.underlying42 rfl infoDom) rfl ⟨none, 0, rfl, nil_rd64 _, ((Keep.refl Nil w).alloc _).alloc _, fun j h => by cases h⟩
    · have e1 : (k % 3 == 1) = false := beq_eq_false_iff_ne.2 h1
      have HRD := hid hrd
      have HWF := hid hwf
      have HD := hid (show smallD k n cuts = if (pk cuts).length = 0 then ⟨1, 0, []⟩ else ⟨3, 0, pk cuts⟩ from (if_neg h0).trans (if_neg h1))
      have hml : cuts.length ≤ 9223372036854775807 := hlen
      clear hk3 h0 h1 hrd hwf hlen
      go_enter Tryz.func83, Tryz.ntmps83
      go_wp2
      obtain ⟨W0, hW0⟩ : ∃ W0, W0 = (w.alloc (.cells #[.int .u8 k, .int .i64 n, .slice a cuts.length cp] 42 (0, 0))).alloc (.cells #[.int .u8 0, .int .i64 0, .slice none 0 0] 42 (0, 0)) := ⟨_, rfl⟩
      rw [← hW0]
      have hb1 : W0.heap[w.heap.size]? = some (.cells #[.int .u8 k, .int .i64 n, .slice a cuts.length cp] 42 (0, 0)) := by rw [hW0]; exact alloc_old (heap_alloc_new w _) _
      have hb2 : W0.heap[w.heap.size + 1]? = some (.cells #[.int .u8 0, .int .i64 0, .slice none 0 0] 42 (0, 0)) := by
        rw [hW0]
        have := heap_alloc_new (w.alloc (.cells #[.int .u8 k, .int .i64 n, .slice a cuts.length cp] 42 (0, 0))) (.cells #[.int .u8 0, .int .i64 0, .slice none 0 0] 42 (0, 0))
        rwa [World.size_alloc] at this
      have HK0 := hid (show Keep Nil w W0 from by rw [hW0]; exact ((Keep.refl Nil w).alloc _).alloc _)
      have HB1 := hid hb1
      have HB2 := hid hb2
      have hz2 : w.heap.size + 2 = W0.heap.size := by rw [hW0, World.size_alloc, World.size_alloc]
      have HZ2 := hid hz2
      clear hW0 hb1 hb2 hz2
      go_loopw [3, 4] (fun z i wr => ∃ (j : Nat) (a' : Option Addr) (cp' : Nat), j ≤ cuts.length ∧ i = .int .i64 j ∧ z = .slice a' (pk (cuts.take j)).length cp' ∧ wr.ownsRow 0 26 1 (.slice a' (pk (cuts.take j)).length cp') (pk (cuts.take j)).length (u64s (pk (cuts.take j))) ∧ (∀ q, (Value.slice a' (pk (cuts.take j)).length cp').ownBlock = some q → W0.heap.size ≤ q) ∧ Keep Nil W0 wr) (fun _ i _ => cuts.length - (intOf i).toNat)
      case atStart => exact ⟨0, none, 0, Nat.zero_le _, rfl, rfl, ⟨by simp [u64s, pk], .inl ⟨rfl, rfl⟩⟩, fun q h => (by cases h), Keep.refl _ _⟩
      case round =>
        obtain ⟨j, a', cp', hj, rfl, hzz, hr, hnew, hkw⟩ := hrel
        subst hzz
        have hpk := (pk_ok (cuts.take j)).1
        have HR := hid hr
        have HNEW := hid hnew
        have HKW := hid hkw
        have hb1 := hkw.at HB1.out (fun h => h)
        have c2 : wr.cell? ⟨w.heap.size, 2, none⟩ = some (.slice a cuts.length cp) := by rw [cell_of hb1]; rfl
        clear hr hnew hkw hb1
        obtain ⟨P, hP⟩ : ∃ P, P = pk (cuts.take j) := ⟨_, rfl⟩
        rw [← hP] at HR HNEW hpk ⊢
        have HP := hid hP
        by_cases hlt : j < cuts.length
        · by_cases h4 : P.length < 4
          · have dj : decide ((j : Int) < (cuts.length : Int)) = true := decide_eq_true (by omega)
            have d4 : decide ((P.length : Int) < 4) = true := decide_eq_true (by omega)
            obtain ⟨x, hx⟩ : ∃ x, cuts[j]? = some x := ⟨_, List.getElem?_eq_getElem hlt⟩
            obtain ⟨bb, off, cc, hv, hcell⟩ := Rd.cell (rd_keep HRD.out (HK0.out.trans HKW.out (fun _ _ h => h)) (fun _ _ h => h)) (by omega)
            simp only [Value.slice.injEq] at hv
            obtain ⟨hv1, -, hv2⟩ := hv
            have cx := hcell j (.int .u64 x) (u64s_at hx)
            have j0 : (0 : Int) ≤ (j : Int) := by omega
            have j1 : (j : Int) < (cuts.length : Int) := by omega
            have wj : IntKind.i64.wrap ((j : Int) + 1) = (j : Int) + 1 := by rw [IntKind.wrap_i64]; omega
            have HTK := hid (pk_take hx)
            have HLT := hid hlt
            have h4' := hid h4
            clear hcell hx hlt hj h4
            subst hv1 hv2
            by_cases hx0 : 0 < x
            · have dx : decide (0 < x) = true := decide_eq_true hx0
              by_cases hP0 : P.length = 0
              · have HNX := hid (show pk (cuts.take (j + 1)) = P ++ [x] from by rw [HTK.out, ← HP.out]; exact if_pos ⟨h4'.out, hx0, .inl hP0⟩)
                have hPn : P = [] := List.eq_nil_of_length_eq_zero hP0
                clear hP hx0 hP0 h4' hpk d4
                subst hPn
                go_wp2_with (at_builtin; refine wpList_app _ rfl (.tmp 53) (.tmp 55) 40 rfl 26 _ 1 8 Tryz.underlying40 infoU64L rfl (by decide) (.slice a' 0 cp') 0 (u64s []) rfl ?own (.slice (some ⟨wr.heap.size, 0, none⟩) 1 1) 1 [.int .u64 x] rfl ?rd ?one ?byt ?len ?_)
                case own => exact row_keep HR.out ((Keep.refl Nil wr).alloc _) (fun _ _ h => h)
                case rd => exact rd_new _ _ _ _ _ _
                case one => simp [Value.oneCell']
                case byt => omega
                case len => unfold maxLen; omega
                intro a2 cp2 w3 ho hg hs
                have HO3 := hid ho
                have HN3 := hid (show ∀ q, (Value.slice a2 (0 + 1) cp2).ownBlock = some q → W0.heap.size ≤ q from fun q hq => by
                  rcases hs q hq with h | h
                  · exact HNEW.out q h
                  · have := HKW.out.size; simp at h; omega)
                have HK3 := hid (show Keep Nil W0 w3 from (HKW.out.alloc _).grown hg (fun q hq => .inr (HNEW.out q hq)))
                clear ho hg hs
                go_wp2
                go_roundw
                case rel => exact ⟨j + 1, a2, cp2, by have := HLT.out; omega, by go_num, by rw [HNX.out, List.length_append]; rfl, by rw [HNX.out, List.length_append, u64s_snoc]; exact HO3.out, by rw [HNX.out, List.length_append]; exact HN3.out, HK3.out⟩
                case measure => have := HLT.out; simp [intOf]; omega
              · have z0 : ((P.length : Int) == 0) = false := beq_eq_false_iff_ne.2 (by omega)
                obtain ⟨pb, po, pc, hpv, hpcell⟩ := Rd.cell (row_rd HR.out) (by omega)
                simp only [Value.slice.injEq] at hpv
                obtain ⟨hp1, -, hp2⟩ := hpv
                have hlast : P[P.length - 1]? = some (gcut P (P.length - 1)) := gcut_at (by omega)
                have cl := hpcell (P.length - 1) _ (u64s_at hlast)
                obtain ⟨y, hy⟩ : ∃ y, y = gcut P (P.length - 1) := ⟨_, rfl⟩
                rw [← hy] at cl
                obtain ⟨m, hm⟩ : ∃ m, P.length = m + 1 := ⟨P.length - 1, by omega⟩
                have l0 : (0 : Int) ≤ (P.length : Int) - 1 := by omega
                have l1 : (P.length : Int) - 1 < (P.length : Int) := by omega
                have wl : IntKind.i64.wrap ((P.length : Int) - 1) = (P.length : Int) - 1 := by rw [IntKind.wrap_i64]; omega
                have tl : ((P.length : Int) - 1).toNat = P.length - 1 := by omega
                subst hp1 hp2
                by_cases hyx : y < x
                · have dy : decide (y < x) = true := decide_eq_true hyx
                  have HNX := hid (show pk (cuts.take (j + 1)) = P ++ [x] from by rw [HTK.out, ← HP.out]; exact if_pos ⟨h4'.out, hx0, .inr (by rw [← hy]; exact hyx)⟩)
                  have zn : (P.length == 0) = false := beq_eq_false_iff_ne.2 hP0
                  clear hP hx0 hlast hpcell hyx hy hm
                  go_wp2_with (at_builtin; refine wpList_app _ rfl (.tmp 53) (.tmp 55) 40 rfl 26 _ 1 8 Tryz.underlying40 infoU64L rfl (by decide) (.slice (some ⟨pb, po, none⟩) P.length cp') P.length (u64s P) rfl ?own (.slice (some ⟨wr.heap.size, 0, none⟩) 1 1) 1 [.int .u64 x] rfl ?rd ?one ?byt ?len ?_)
                  case own => exact row_keep HR.out ((Keep.refl Nil wr).alloc _) (fun _ _ h => h)
                  case rd => exact rd_new _ _ _ _ _ _
                  case one => simp [Value.oneCell']
                  case byt => omega
                  case len => unfold maxLen; omega
                  intro a2 cp2 w3 ho hg hs
                  have HO3 := hid ho
                  have HN3 := hid (show ∀ q, (Value.slice a2 (P.length + 1) cp2).ownBlock = some q → W0.heap.size ≤ q from fun q hq => by
                    rcases hs q hq with h | h
                    · exact HNEW.out q h
                    · have := HKW.out.size; simp at h; omega)
                  have HK3 := hid (show Keep Nil W0 w3 from (HKW.out.alloc _).grown hg (fun q hq => .inr (HNEW.out q hq)))
                  clear ho hg hs
                  go_wp2
                  go_roundw
                  case rel => exact ⟨j + 1, a2, cp2, by have := HLT.out; omega, by go_num, by rw [HNX.out, List.length_append]; rfl, by rw [HNX.out, List.length_append, u64s_snoc]; exact HO3.out, by rw [HNX.out, List.length_append]; exact HN3.out, HK3.out⟩
                  case measure => have := HLT.out; simp [intOf]; omega
                · have dy : decide (y < x) = false := decide_eq_false hyx
                  have HNX := hid (show pk (cuts.take (j + 1)) = P from by rw [HTK.out, ← HP.out]; exact if_neg (fun h => by rcases h.2.2 with h | h; exact hP0 h; exact hyx (by rw [hy]; exact h)))
                  have zn : (P.length == 0) = false := beq_eq_false_iff_ne.2 hP0
                  clear hP hx0 hlast hpcell hyx hy hm
                  go_wp2
                  go_roundw
                  case rel => exact ⟨j + 1, (some ⟨pb, po, none⟩), cp', by have := HLT.out; omega, by go_num, by rw [HNX.out], by rw [HNX.out]; exact HR.out, by rw [HNX.out]; exact HNEW.out, HKW.out⟩
                  case measure => have := HLT.out; simp [intOf]; omega
            · have dx : decide (0 < x) = false := decide_eq_false hx0
              have HNX := hid (show pk (cuts.take (j + 1)) = P from by rw [HTK.out, ← HP.out]; exact if_neg (fun h => hx0 h.2.1))
              clear hP hx0
              go_wp2
              go_roundw
              case rel => exact ⟨j + 1, a', cp', by have := HLT.out; omega, by go_num, by rw [HNX.out], by rw [HNX.out]; exact HR.out, by rw [HNX.out]; exact HNEW.out, HKW.out⟩
              case measure => have := HLT.out; simp [intOf]; omega
          · have hP4 : P.length = 4 := by omega
            have dj : decide ((j : Int) < (cuts.length : Int)) = true := decide_eq_true (by omega)
            have d4 : decide ((P.length : Int) < 4) = false := decide_eq_false (by omega)
            have HALL := hid (show pk cuts = P from by rw [hP]; exact pk_full (by rw [← hP]; exact hP4))
            clear h4
            have hb2 := HKW.out.at HB2.out (fun h => h)
            have g0 : wr.cell? ⟨w.heap.size + 1, 0, none⟩ = some (.int .u8 0) := by rw [cell_of hb2]; rfl
            have g1 : wr.cell? ⟨w.heap.size + 1, 1, none⟩ = some (.int .i64 0) := by rw [cell_of hb2]; rfl
            have g2 : wr.cell? ⟨w.heap.size + 1, 2, none⟩ = some (.slice none 0 0) := by rw [cell_of hb2]; rfl
            have f0 : wr.frozen? ⟨w.heap.size + 1, 0, none⟩ = false := free_of hb2 0
            have f1 : wr.frozen? ⟨w.heap.size + 1, 1, none⟩ = false := free_of hb2 1
            have f2 : wr.frozen? ⟨w.heap.size + 1, 2, none⟩ = false := free_of hb2 2
            have hrz : w.heap.size + 1 < wr.heap.size := lt_of_block hb2
            have HH2 := hid hb2
            clear hb2 hP hj
            have hP0 : ¬ P.length = 0 := by omega
            clear hP4
            have z0 : ((P.length : Int) == 0) = false := beq_eq_false_iff_ne.2 (by omega)
            have HE := hid (show smallD k n cuts = ⟨3, 0, P⟩ from by rw [HD.out, HALL.out]; exact if_neg hP0)
            have hne := rty_ne HR.out HH2.out (by decide)
            have HNE := hid hne
            have zn : (P.length == 0) = false := beq_eq_false_iff_ne.2 hP0
            clear hne
            go_wp2
            refine bodyPost_ret (results_cell_row rfl _ _ (w.heap.size + 1) _ _ (0, 0) _ rfl (set3 _ _ _ HH2.out) Tryz.underlying42 rfl infoDom) rfl ?_
            rw [HE.out]
            refine ⟨a', cp', rfl, row_rd (ownsRow_setCell_other (a := ⟨w.heap.size + 1, 2, none⟩) (ownsRow_setCell_other (a := ⟨w.heap.size + 1, 1, none⟩) (ownsRow_setCell_other (a := ⟨w.heap.size + 1, 0, none⟩) HR.out HNE.out _) HNE.out _) HNE.out _), ((((HK0.out.trans HKW.out (fun _ _ h => h)).setCell (.inr (Nat.le_succ _)) _).setCell (.inr (Nat.le_succ _)) _).setCell (.inr (Nat.le_succ _)) _), fun q h => ⟨by have := HNEW.out q h; have := HK0.out.size; omega, by have := row_lt HR.out q h; simpa using this⟩⟩
        · have hjl : j = cuts.length := by omega
          have dj : decide ((j : Int) < (cuts.length : Int)) = false := decide_eq_false (by omega)
          have HALL := hid (show pk cuts = P from by rw [hP, hjl, List.take_length])
          clear hjl
          have hb2 := HKW.out.at HB2.out (fun h => h)
          have g0 : wr.cell? ⟨w.heap.size + 1, 0, none⟩ = some (.int .u8 0) := by rw [cell_of hb2]; rfl
          have g1 : wr.cell? ⟨w.heap.size + 1, 1, none⟩ = some (.int .i64 0) := by rw [cell_of hb2]; rfl
          have g2 : wr.cell? ⟨w.heap.size + 1, 2, none⟩ = some (.slice none 0 0) := by rw [cell_of hb2]; rfl
          have f0 : wr.frozen? ⟨w.heap.size + 1, 0, none⟩ = false := free_of hb2 0
          have f1 : wr.frozen? ⟨w.heap.size + 1, 1, none⟩ = false := free_of hb2 1
          have f2 : wr.frozen? ⟨w.heap.size + 1, 2, none⟩ = false := free_of hb2 2
          have hrz : w.heap.size + 1 < wr.heap.size := lt_of_block hb2
          have HH2 := hid hb2
          clear hb2 hP hj
          by_cases hP0 : P.length = 0
          · have hPn : P = [] := List.eq_nil_of_length_eq_zero hP0
            have HE := hid (show smallD k n cuts = ⟨1, 0, []⟩ from by rw [HD.out, HALL.out]; exact if_pos hP0)
            clear hP0
            subst hPn
            go_wp2
            refine bodyPost_ret (results_cell_row rfl _ _ (w.heap.size + 1) _ _ (0, 0) _ rfl (set3 _ _ _ HH2.out) Tryz.underlying42 rfl infoDom) rfl ?_
            rw [HE.out]
            exact ⟨none, 0, rfl, nil_rd64 _, ((((HK0.out.trans HKW.out (fun _ _ h => h)).setCell (.inr (Nat.le_succ _)) _).setCell (.inr (Nat.le_succ _)) _).setCell (.inr (Nat.le_succ _)) _), fun j h => by cases h⟩
          · have z0 : ((P.length : Int) == 0) = false := beq_eq_false_iff_ne.2 (by omega)
            have HE := hid (show smallD k n cuts = ⟨3, 0, P⟩ from by rw [HD.out, HALL.out]; exact if_neg hP0)
            have hne := rty_ne HR.out HH2.out (by decide)
            have HNE := hid hne
            have zn : (P.length == 0) = false := beq_eq_false_iff_ne.2 hP0
            clear hne
            go_wp2
            refine bodyPost_ret (results_cell_row rfl _ _ (w.heap.size + 1) _ _ (0, 0) _ rfl (set3 _ _ _ HH2.out) Tryz.underlying42 rfl infoDom) rfl ?_
            rw [HE.out]
            refine ⟨a', cp', rfl, row_rd (ownsRow_setCell_other (a := ⟨w.heap.size + 1, 2, none⟩) (ownsRow_setCell_other (a := ⟨w.heap.size + 1, 1, none⟩) (ownsRow_setCell_other (a := ⟨w.heap.size + 1, 0, none⟩) HR.out HNE.out _) HNE.out _) HNE.out _), ((((HK0.out.trans HKW.out (fun _ _ h => h)).setCell (.inr (Nat.le_succ _)) _).setCell (.inr (Nat.le_succ _)) _).setCell (.inr (Nat.le_succ _)) _), fun q h => ⟨by have := HNEW.out q h; have := HK0.out.size; omega, by have := row_lt HR.out q h; simpa using this⟩⟩
end
end Go.Proofs.YtmafdjhjmnghcaaGreat
