/- leapfrogref08.Replay: its contract. -/
import Derived.Test.YtnfkjdmjgphghaaRefNew
import Derived.Test.YtnfkjdmjgphghaaReplay
namespace Go.Proofs.Ytnfkjdmjgphghaa
open Go.RowKit Go.Lf

def RRepInv (w : World) (ws : List Int) (l : List Acc) (b k : Nat) (wr : World) : Prop :=
  ∃ F cur, RefAt wr b F cur [] ∧ after ws (l.take k) = some cur ∧ Own w F wr

theorem RefRep.keep {w w' : World} {S F : Nat → Prop} {b gw wc lc : Nat} {la : Option Addr} {ws : List Int} {log : List Acc} (h : RefRep w b gw wc la lc ws log) (hF : ∀ k, F k ↔ k = b ∨ k = gw ∨ (Value.slice la log.length lc).ownBlock = some k) (hk : Keep S w w') (hd : ∀ k, F k → ¬ S k) : RefRep w' b gw wc la lc ws log := by
  refine ⟨hk.at h.head (hd b ((hF b).2 (.inl rfl))), row_keep h.wrow hk (fun k e => hd k ((hF k).2 (.inr (.inl ?_)))), row_keep h.lrow hk (fun k e => hd k ((hF k).2 (.inr (.inr e)))), h.ne1, h.ne2, h.ne3⟩
  simp [Value.ownBlock] at e
  exact e.symm
/-- A word of the reference memory is set. -/
theorem RefRep.set {w : World} {b gw wc lc : Nat} {la : Option Addr} {ws : List Int} {log : List Acc} (h : RefRep w b gw wc la lc ws log) (i : Nat) (x : Int) :
    RefRep (w.setCell ⟨gw, i, none⟩ (.int .u64 x)) b gw wc la lc (ws.set i x) log := by
  refine ⟨?_, ?_, ?_, h.ne1, h.ne2, h.ne3⟩
  · rw [List.length_set]; exact set_other h.head (by simpa using h.ne1) _
  · rw [List.length_set, ← u64s_set]; exact (h.wrow.stored i _).1
  · exact ownsRow_setCell_other h.lrow (by simpa using h.ne3) _

set_option maxRecDepth 100000 in
set_option maxHeartbeats 2000000 in
theorem rreplay_ok (va vb : Value) (ws : List Int) (l : List Acc) (w : World) (h1 : Rd w 1 va ws.length (u64s ws)) (h2 : Rd w 6 vb l.length (logCells l)) (h0 : 0 < ws.length) (hm : ws.length ≤ 65536) (hl : l.length ≤ 1000000000) :
    Calls Try.prog 16 #[va, vb] w (RepTo w ws l) := by
  obtain ⟨a, c, rfl, -, -⟩ := id h2
  have H2 := hid h2
  clear h2
  go_enter Try.func16, Try.ntmps16
  go_wp2_with (go_at_call 12; refine (rnew_ok _ ws _ h1 h0 hm).mono ?_; rintro e w2 ⟨b, F, rfl, hmem, k2, f2⟩)
  have HI := hid (show RRepInv w ws l b 0 w2 from ⟨F, ws, hmem, rfl, Own.fresh (Keep.refl _ _) k2 f2⟩)
  clear hmem k2 f2
  go_wp2
  go_loopw [9] (fun i wr => ∃ (k : Nat), k ≤ l.length ∧ i = .int .i64 k ∧ RRepInv w ws l b k wr) (fun i _ => l.length - (intOf i).toNat)
  case atStart => exact ⟨0, Nat.zero_le _, rfl, HI.out⟩
  case round =>
    obtain ⟨k, hk, rfl, F, cur, hmem, haf, ho⟩ := hrel
    have HM := hid hmem
    have HA := hid haf
    have HO := hid ho
    clear hmem haf ho HI
    by_cases hlt : k < l.length
    · obtain ⟨x, hx⟩ : ∃ x, l[k]? = some x := ⟨_, List.getElem?_eq_getElem hlt⟩
      obtain ⟨ab, off, cc, hve, hc⟩ := Rd.cell H2.out (by omega)
      simp only [Value.slice.injEq] at hve
      obtain ⟨rfl, -, rfl⟩ := hve
      have q : ∀ j u, x.cells[j]? = some u → wr.cell? ⟨ab, off + k * 6 + j, none⟩ = some u := fun j u hu => by rw [Nat.add_assoc]; exact HO.out.1.cell (hc (k * 6 + j) _ (logCells_at hx hu)) (fun h => h)
      have c0 : wr.cell? ⟨ab, off + k * 6, none⟩ = some (.int .i64 x.t) := q 0 _ rfl
      have c1 := q 1 _ rfl
      have c2 := q 2 _ rfl
      have c3 := q 3 _ rfl
      have c4 := q 4 _ rfl
      have c5 := q 5 _ rfl
      have HX := hid hx
      clear q hx hc
      obtain ⟨gw, wc, la, lc, hr, hF⟩ := HM.out.rep
      have hc0 := hr.cell0
      have hbl := lt_of_block hr.head
      have hgl := hr.lt2
      have HR := hid hr
      clear hr
      by_cases hT : 0 ≤ x.t ∧ x.t < 64
      · obtain ⟨hT0, hT1⟩ := hT
        by_cases hA : 0 ≤ x.a ∧ x.a < (cur.length : Int)
        · obtain ⟨hA0, hA1⟩ := hA
          obtain ⟨y, hy⟩ : ∃ y, cur[x.a.toNat]? = some y := ⟨_, List.getElem?_eq_getElem (by omega)⟩
          have hcx := HR.out.word hy
          have hA2 : ¬ x.a < 0 := by omega
          have dA : decide (x.a < 0) = false := by simpa using hA0
          have dB : decide ((cur.length : Int) ≤ x.a) = false := by simp; omega
          by_cases hne : x.o = y
          · subst hne
            have hq : (x.o != x.o) = false := by simp
            have HE := hid (errOf_zero.2 ⟨hT0, hT1, hA0, hA1⟩)
            have HY := hid hy
            have hfx := HR.out.free x.a.toNat
            clear hy
            go_wp2
            go_quiet ((go_at_call 34; exact quiet_eq (thread_yes _ hT0 hT1 _)))
            obtain ⟨W, hW⟩ : ∃ W, W = (wr.alloc (.cells #[.int .i64 x.t, .int .i64 x.a, .int .u8 x.k, .int .u64 x.o, .int .u64 x.n, .bool x.s] 56)).drewN nq := ⟨_, rfl⟩
            rw [← hW]
            have kW : Keep Nil wr W := by rw [hW]; exact ((Keep.refl _ _).alloc _).drewN _
            have hbx : W.heap[wr.heap.size]? = some (.cells #[.int .i64 x.t, .int .i64 x.a, .int .u8 x.k, .int .u64 x.o, .int .u64 x.n, .bool x.s] 56 (0, 0)) := by rw [hW]; exact heap_alloc_new wr _
            have e1 : W.cell? ⟨wr.heap.size, 1, none⟩ = some (.int .i64 x.a) := by rw [cell_of hbx]; rfl
            have e2 : W.cell? ⟨wr.heap.size, 2, none⟩ = some (.int .u8 x.k) := by rw [cell_of hbx]; rfl
            have e3 : W.cell? ⟨wr.heap.size, 3, none⟩ = some (.int .u64 x.o) := by rw [cell_of hbx]; rfl
            have e4 : W.cell? ⟨wr.heap.size, 4, none⟩ = some (.int .u64 x.n) := by rw [cell_of hbx]; rfl
            have e5 : W.cell? ⟨wr.heap.size, 5, none⟩ = some (.bool x.s) := by rw [cell_of hbx]; rfl
            have f0 := kW.cell hc0 (fun h => h)
            have f1 := kW.cell hcx (fun h => h)
            have f2 : W.frozen? ⟨gw, x.a.toNat, none⟩ = false := by rw [← hfx]; exact World.frozen?_of_block (w := wr) (kW.block gw hgl (fun h => h))
            have KW := hid kW
            have HK := hid (possB_kind HE.out HY.out)
            clear hW kW hbx hc0 hcx hfx c0 c1 c2 c3 c4 c5
            have fin : kindB x.k x.o x.n x.s = true → RRepInv w ws l b (k + 1) (W.setCell ⟨gw, x.a.toNat, none⟩ (.int .u64 x.n)).drew := fun hkb =>
              ⟨F, cur.set x.a.toNat x.n, RefAt.keep (S := Nil) ⟨gw, wc, la, lc, (HR.out.keep hF KW.out (fun _ _ h => h)).set _ _, hF⟩ (Keep.refl _ _).drew (fun _ _ h => h), after_take_succ HA.out HX.out (HK.out.trans hkb), ((HO.out.quiet KW.out).step (Keep.setCell (Keep.refl _ _) (.inl ((hF gw).2 (.inr (.inl rfl)))) _) (fun j hj => .inl hj)).quiet (Keep.refl _ _).drew⟩
            have FIN := hid fin
            have out : kindB x.k x.o x.n x.s = false → BadAt ws l k := fun hkb => ⟨cur, x, HA.out, HX.out, HK.out.trans hkb⟩
            have OUT := hid out
            have OW := hid (HO.out.quiet KW.out)
            clear fin out
            obtain ⟨xt, xa, xk, xo, xn, xs⟩ := x
            dsimp only at *
            by_cases hno : xn = xo
            · subst hno
              cases xs
              all_goals go_wp2
              all_goals first
                | (go_ret3
                   refine ⟨OW.out.1, .inr ⟨k, OUT.out ?_, rfl⟩⟩
                   simp_all [kindB])
                | (have FF := FIN.out ?hkb
                   case hkb => simp_all [kindB]
                   have FG := hid FF
                   clear FF
                   go_still_tail 9, (by kernel_rfl)
                   change wpList _ _ _ _ _ W.drew
                   go_wp2
                   go_roundw
                   case rel => exact ⟨k + 1, by omega, by go_num, FG.out⟩
                   case measure => simp [intOf]; omega)
            · have hnb : (xn == xo) = false := by simpa using hno
              have hob : (xo == xn) = false := by simpa using Ne.symm hno
              clear hno
              cases xs
              all_goals go_wp2
              all_goals first
                | (go_ret3
                   refine ⟨OW.out.1, .inr ⟨k, OUT.out ?_, rfl⟩⟩
                   simp_all [kindB])
                | (have FF := FIN.out ?hkb
                   case hkb => simp_all [kindB]
                   have FG := hid FF
                   clear FF
                   go_still_tail 9, (by kernel_rfl)
                   change wpList _ _ _ _ _ W.drew
                   go_wp2
                   go_roundw
                   case rel => exact ⟨k + 1, by omega, by go_num, FG.out⟩
                   case measure => simp [intOf]; omega)
          · have hq : (x.o != y) = true := by simpa using hne
            have hbad : BadAt ws l k := ⟨cur, x, HA.out, HX.out, possB_old hy (Ne.symm hne)⟩
            have HB := hid hbad
            clear hy hbad hne
            go_wp2
            go_quiet ((go_at_call 34; exact quiet_eq (thread_yes _ hT0 hT1 _)))
            go_wp2
            go_ret3
            exact ⟨(HO.out.quiet (((Keep.refl _ _).alloc _).drewN _)).1, .inr ⟨k, HB.out, rfl⟩⟩
        · have hbad : BadAt ws l k := ⟨cur, x, HA.out, HX.out, possB_err (fun h => hA (by have := errOf_zero.1 h; exact ⟨this.2.2.1, this.2.2.2⟩))⟩
          have HB := hid hbad
          by_cases hA0 : x.a < 0
          · have dA : decide (x.a < 0) = true := by simpa using hA0
            clear hbad hA
            go_wp2
            go_quiet ((go_at_call 34; exact quiet_eq (thread_yes _ hT0 hT1 _)))
            go_wp2
            go_ret3
            exact ⟨(HO.out.quiet (((Keep.refl _ _).alloc _).drewN _)).1, .inr ⟨k, HB.out, rfl⟩⟩
          · have dA : decide (x.a < 0) = false := by simpa using hA0
            have dB : decide ((cur.length : Int) ≤ x.a) = true := by simp; omega
            clear hbad hA
            go_wp2
            go_quiet ((go_at_call 34; exact quiet_eq (thread_yes _ hT0 hT1 _)))
            go_wp2
            go_ret3
            exact ⟨(HO.out.quiet (((Keep.refl _ _).alloc _).drewN _)).1, .inr ⟨k, HB.out, rfl⟩⟩
      · have hbad : BadAt ws l k := ⟨cur, x, HA.out, HX.out, possB_err (fun h => hT (by have := errOf_zero.1 h; exact ⟨this.1, this.2.1⟩))⟩
        have HB := hid hbad
        have HT := hid hT
        clear hbad hT
        go_wp2
        go_quiet ((go_at_call 34; exact quiet_eq (thread_no _ (by have := HT.out; omega) _)))
        go_wp2
        go_ret3
        exact ⟨(HO.out.quiet (((Keep.refl _ _).alloc _).drewN _)).1, .inr ⟨k, HB.out, rfl⟩⟩
    · obtain rfl : k = l.length := by omega
      have haf : after ws l = some cur := by have := HA.out; rwa [List.take_of_length_le (Nat.le_refl _)] at this
      have HAF := hid haf
      obtain ⟨gw, wc, la, lc, hr, hF⟩ := HM.out.rep
      have hc0 := hr.cell0
      have HR := hid hr
      clear haf hr
      go_wp2
      go_ret3
      exact ⟨HO.out.1, .inl ⟨cur, _, HAF.out, rfl, row_rd HR.out.wrow⟩⟩
end Go.Proofs.Ytnfkjdmjgphghaa
