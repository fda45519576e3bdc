/- words.Replay: its contract. -/
import Derived.Test.YtnfkjdmjgphghaaPossible
import Derived.StillTailTactics
namespace Go.Proofs.Ytnfkjdmjgphghaa
open Go.RowKit Go.Lf

/-- How Replay ends: all accesses made, or none from index k on. -/
def RepTo (w : World) (ws : List Int) (l : List Acc) (e : Ending) (w' : World) : Prop :=
  Keep Nil w w' ∧ ((∃ cur v, after ws l = some cur ∧ e = .returned (.tuple #[v, .int .i64 l.length, .int .i64 0]) ∧ Rd w' 1 v cur.length (u64s cur)) ∨
    (∃ k : Nat, BadAt ws l k ∧ e = .returned (.tuple #[.slice none 0 0, .int .i64 k, .int .i64 16])))

/-- What holds at each round's head of Replay. -/
def RepInv (w : World) (ws : List Int) (l : List Acc) (b k : Nat) (wr : World) : Prop :=
  ∃ F cur, MemAt wr b F cur [] ∧ after ws (l.take k) = some cur ∧ Own w F wr

set_option maxRecDepth 100000 in
set_option maxHeartbeats 2000000 in
theorem replay_ok (va vb : Value) (ws : List Int) (l : List Acc) (w : World) (h1 : Rd w 1 va ws.length (u64s ws)) (h2 : Rd w 6 vb l.length (logCells l)) (h0 : 0 < ws.length) (hm : ws.length ≤ 65536) (hl : l.length ≤ 1000000000) :
    Calls Try.prog 15 #[va, vb] w (RepTo w ws l) := by
  obtain ⟨a, c, rfl, -, -⟩ := id h2
  have H2 := hid h2
  clear h2
  go_enter Try.func15, Try.ntmps15
  go_wp2_with (go_at_call 11; refine (new_ok _ ws _ h1 h0 hm).mono ?_; rintro e w2 ⟨b, F, rfl, hmem, k2, f2⟩)
  have HI := hid (show RepInv w ws l b 0 w2 from ⟨F, ws, hmem, rfl, Own.fresh (Keep.refl _ _) k2 f2⟩)
  clear hmem k2 f2
  go_wp2
  go_loopw [20] (fun i wr => ∃ (k : Nat), k ≤ l.length ∧ i = .int .i64 k ∧ RepInv w ws l b k wr) (fun i _ => l.length - (intOf i).toNat)
  case atStart => exact ⟨0, Nat.zero_le _, rfl, HI.out⟩
  case round =>
    obtain ⟨k, hk, rfl, F, cur, hmem, haf, ho⟩ := hrel
    have HM := hid hmem
    have HA := hid haf
    have HO := hid ho
    clear hmem haf ho HI
    by_cases hlt : k < l.length
    · obtain ⟨x, hx⟩ : ∃ x, l[k]? = some x := ⟨_, List.getElem?_eq_getElem hlt⟩
      obtain ⟨ab, off, cc, hve, hc⟩ := Rd.cell H2.out (by omega)
      simp only [Value.slice.injEq] at hve
      obtain ⟨rfl, -, rfl⟩ := hve
      have q : ∀ j u, x.cells[j]? = some u → wr.cell? ⟨ab, off + k * 6 + j, none⟩ = some u := fun j u hu => by rw [Nat.add_assoc]; exact HO.out.1.cell (hc (k * 6 + j) _ (logCells_at hx hu)) (fun h => h)
      have c0 : wr.cell? ⟨ab, off + k * 6, none⟩ = some (.int .i64 x.t) := q 0 _ rfl
      have c1 := q 1 _ rfl
      have c2 := q 2 _ rfl
      have c3 := q 3 _ rfl
      have c4 := q 4 _ rfl
      have c5 := q 5 _ rfl
      have HX := hid hx
      clear q hx hc
      go_wp2_with fail
      refine (poss_any (HM.out.keep (Keep.alloc (Keep.refl Nil _) _) (fun _ _ h => h)) x).mono ?_
      rintro e w1 ⟨rfl, k1⟩
      have hmem1 := HM.out.keep ((Keep.alloc (Keep.refl Nil _) _).trans k1 (fun _ _ h => h)) (fun _ _ h => h)
      have hbx := k1.at (heap_alloc_new wr _) (fun h => h)
      have hO1 := HO.out.quiet ((Keep.alloc (Keep.refl Nil _) _).trans k1 (fun _ _ h => h))
      by_cases hp : possB cur x = true
      · obtain ⟨ht0, ht1, ha0, ha1, hy, -⟩ := possB_at hp
        obtain ⟨bw, la, lc, hr, hF⟩ := hmem1.rep
        have hc0 := hr.cell0
        have hcx := hr.word hy
        have hfx := hr.free x.a.toNat
        have e1 : w1.cell? ⟨wr.heap.size, 1, none⟩ = some (.int .i64 x.a) := by rw [cell_of hbx]; rfl
        have e4 : w1.cell? ⟨wr.heap.size, 4, none⟩ = some (.int .u64 x.n) := by rw [cell_of hbx]; rfl
        have HR := hid hr
        have HP := hid hp
        have HO1 := hid hO1
        have hlw : x.a < (cur.length : Int) := ha1
        clear c0 c1 c2 c3 c4 c5 hmem1 hbx hr hy k1 ht0 ht1 hO1
        go_wp2
        clear hp
        go_still_tail 9, (by kernel_rfl)
        change wpList _ _ _ _ _ w1.drew
        go_wp2_with (go_at_call 31; refine (astore_any _ _ _ _ w1.drew hcx hfx).mono ?_; rintro e w' ⟨rfl, rfl⟩)
        go_roundw
        case rel =>
          have hset := HR.out.set x.a.toNat x.n
          refine ⟨k + 1, by omega, by go_num, F, cur.set x.a.toNat x.n, ?_, after_take_succ HA.out HX.out HP.out, ?_⟩
          · exact MemAt.keep (S := Nil) ⟨bw, la, lc, hset, hF⟩ (Keep.refl _ _).drew (fun _ _ h => h)
          · exact HO1.out.step (Keep.setCell (Keep.refl _ _).drew (.inl ((hF bw).2 (.inr (.inl rfl)))) _) (fun j hj => .inl hj)
        case measure => simp [intOf]; omega
      · have hp' : possB cur x = false := by simpa using hp
        have hbad : BadAt ws l k := ⟨cur, x, HA.out, HX.out, hp'⟩
        have HB := hid hbad
        have HO1 := hid hO1
        clear hp c0 c1 c2 c3 c4 c5 hmem1 hbx k1 hbad hO1
        go_wp2
        go_ret3
        exact ⟨HO1.out.1, .inr ⟨k, HB.out, rfl⟩⟩
    · obtain rfl : k = l.length := by omega
      have haf : after ws l = some cur := by have := HA.out; rwa [List.take_of_length_le (Nat.le_refl _)] at this
      have hcl : cur.length = ws.length := after_length haf
      have HAF := hid haf
      have hcl2 : cur.length ≤ 1000000000 := by omega
      clear haf hcl
      go_wp2_with (go_at_call 13; refine (words_ok HM.out hcl2).mono ?_; rintro e w1 ⟨g, rfl, hg, _, k1⟩)
      go_ret3
      exact ⟨(HO.out.quiet k1).1, .inl ⟨cur, _, HAF.out, rfl, by simpa [length_u64s] using rd_of_heap (size := 1) hg (by simp [length_u64s])⟩⟩
end Go.Proofs.Ytnfkjdmjgphghaa
