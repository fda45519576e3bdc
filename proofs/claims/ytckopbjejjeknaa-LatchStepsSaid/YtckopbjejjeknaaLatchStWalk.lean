/- LatchSteps: the walk. -/
import Derived.Test.YtckopbjejjeknaaLatchJ
import Derived.Test.YtckopbjejjeknaaDo
import Derived.Test.YtckopbjejjeknaaMemNew
import Derived.Test.YtckopbjejjeknaaRefNew
import Derived.Test.YtckopbjejjeknaaLogRd
import Derived.Test.YtckopbjejjeknaaKit
import Derived.Test.YtckopbjejjeknaaIndex
set_option linter.unusedVariables false
set_option linter.unusedSimpArgs false
namespace Go.Lf
open Go.RowKit
/-- An event. -/
structure LEv where
  d : Int
  r : Int
  t : Int
  a : Int
  n : Int
def LEv.cells (x : LEv) : List Value := [.int .u8 x.d, .int .i64 x.r, .int .i64 x.t, .int .i64 x.a, .int .i64 x.n]
def LEv.wf (x : LEv) : Prop := (Lit.int .u8 x.d).wf = true ∧ (Lit.int .i64 x.r).wf = true ∧ (Lit.int .i64 x.t).wf = true ∧ (Lit.int .i64 x.a).wf = true ∧ (Lit.int .i64 x.n).wf = true
def levCells (l : List LEv) : List Value := l.flatMap LEv.cells
theorem levCells_at {l : List LEv} {k j : Nat} {x : LEv} {u : Value} (hx : l[k]? = some x) (hu : x.cells[j]? = some u) : (levCells l)[k * 5 + j]? = some u := flat_get (size := 5) (fun _ => rfl) hx hu
def ptrs (l : List Nat) : List Value := l.map fun b => .pointer (some ⟨b, 0, none⟩)
theorem ptrs_at {l : List Nat} {k b : Nat} (h : l[k]? = some b) : (ptrs l)[k]? = some (.pointer (some ⟨b, 0, none⟩)) := by simp [ptrs, h]
theorem ptrs_snoc (l : List Nat) (b : Nat) : ptrs (l ++ [b]) = ptrs l ++ [.pointer (some ⟨b, 0, none⟩)] := by simp [ptrs]
end Go.Lf
namespace Go.Proofs.Ytckopbjejjeknaa
open Go.RowKit Go.Lf
section
variable {w wr : World} {mb rb n : Nat}
theorem infoPA : (Try.prog.info? 43).map (fun i => (i.zero, i.size, i.bytes)) = some (some (.pointer none), 1, 8) := by kernel_rfl
theorem infoPB : (Try.prog.info? 64).map (fun i => (i.zero, i.size, i.bytes)) = some (some (.pointer none), 1, 8) := by kernel_rfl
def Row2 (u v : Value) : Nat → Prop := fun q => u.ownBlock = some q ∨ v.ownBlock = some q
/-- Between two events: u and v are the rows of the locks. -/
structure SL (w : World) (mb rb n k : Nat) (u v : Value) (S : LSt) (bl cl : List Nat) (L : Nat → Prop) (wr : World) : Prop where
  j : LJ w mb rb n k L S bl cl wr
  hl : S.ops.length ≤ k
  ru : wr.ownsRow 0 43 1 u bl.length (ptrs bl)
  rv : wr.ownsRow 0 64 1 v cl.length (ptrs cl)
  ll : ∀ q, Row2 u v q → L q
  ap : ∀ q, u.ownBlock = some q → v.ownBlock ≠ some q
def SL' (w : World) (mb rb n k : Nat) (u v : Value) (wr : World) : Prop := ∃ S bl cl, SL w mb rb n k u v S bl cl (Row2 u v) wr
theorem SL'.own {k : Nat} {u v : Value} (h : SL' w mb rb n k u v wr) : Keep Nil w wr := by obtain ⟨S, bl, cl, h⟩ := h; exact h.j.two.own
variable {u v : Value} {S S' : LSt} {bl cl : List Nat} {L : Nat → Prop} {k : Nat}
theorem SL.quiet (h : SL w mb rb n k u v S bl cl L wr) {w' : World} (hk : Keep Nil wr w') : SL w mb rb n k u v S bl cl L w' :=
  ⟨h.j.quiet hk, h.hl, row_keep h.ru hk (fun _ _ h => h), row_keep h.rv hk (fun _ _ h => h), h.ll, h.ap⟩
theorem SL.mono (h : SL w mb rb n k u v S bl cl L wr) {k' : Nat} (hk : k ≤ k') : SL w mb rb n k' u v S bl cl L wr := ⟨h.j.mono hk, by have := h.hl; omega, h.ru, h.rv, h.ll, h.ap⟩
theorem SL.boxed (h : SL w mb rb n k u v S bl cl L wr) (o : Obj) : SL w mb rb n k u v S bl cl (fun q => L q ∨ q = wr.heap.size) (wr.alloc o) :=
  ⟨h.j.loc ((Keep.refl L wr).alloc o) (fun q hq => hq.elim .inl (fun e => .inr (by simp; omega))), h.hl, h.ru.alloc _, h.rv.alloc _, fun q hq => .inl (h.ll q hq), h.ap⟩
theorem SL.turn (h : SL w mb rb n k u v S bl cl L wr) {k' : Nat} (hk' : k ≤ k') {w' : World} (hj : LJ w mb rb n k' L S' bl cl w') (hk : Keep (Out w L) wr w') : SL w mb rb n k' u v S' bl cl L w' := by
  have e1 := hj.lens.1
  have e2 := h.j.lens.1
  have := h.hl
  exact ⟨hj, by omega, row_keep h.ru hk (fun q hq hO => hO.1 (h.ll q (.inl hq))), row_keep h.rv hk (fun q hq hO => hO.1 (h.ll q (.inr hq))), h.ll, h.ap⟩
theorem SL.back (h : SL w mb rb n k u v S bl cl L wr) : SL' w mb rb n k u v wr :=
  ⟨S, bl, cl, h.j.loc (Keep.refl _ _) (fun q hq => .inl (h.ll q hq)), h.hl, h.ru, h.rv, fun q hq => hq, h.ap⟩
/-- Both rows have grown. -/
theorem sl_grown {a b : Nat} {u' v' : Value} {w7 w8 w9 : World} (hj : LJ w mb rb n k L S (bl ++ [a]) (cl ++ [b]) w7) (hl : S.ops.length ≤ k) (hL : ∀ q, Row2 u v q → L q) (hru : w7.ownsRow 0 43 1 u bl.length (ptrs bl)) (hrv : w7.ownsRow 0 64 1 v cl.length (ptrs cl))
    (k8 : Keep (fun q => u.ownBlock = some q) w7 w8) (ho8 : w8.ownsRow 0 43 1 u' (bl.length + 1) (ptrs bl ++ [.pointer (some ⟨a, 0, none⟩)])) (hs8 : ∀ q, u'.ownBlock = some q → u.ownBlock = some q ∨ w7.heap.size ≤ q)
    (k9 : Keep (fun q => v.ownBlock = some q) w8 w9) (ho9 : w9.ownsRow 0 64 1 v' (cl.length + 1) (ptrs cl ++ [.pointer (some ⟨b, 0, none⟩)])) (hs9 : ∀ q, v'.ownBlock = some q → v.ownBlock = some q ∨ w8.heap.size ≤ q) (hap : ∀ q, u.ownBlock = some q → v.ownBlock ≠ some q) :
    SL' w mb rb n k u' v' w9 := by
  have lu : ∀ q, u'.ownBlock = some q → q < w8.heap.size := fun q hq => (ho8.lt q hq).2
  have lv : ∀ q, v'.ownBlock = some q → q < w9.heap.size := fun q hq => (ho9.lt q hq).2
  have lv0 : ∀ q, v.ownBlock = some q → q < w7.heap.size := fun q hq => (hrv.lt q hq).2
  have z8 := k8.size
  have z9 := k9.size
  have hkk : Keep L w7 w9 := (k8.mono fun q _ hq => hL q (.inl hq)).trans (k9.mono (T := L) fun q _ hq => hL q (.inr hq)) (fun _ _ h => h)
  have hne : ∀ q, u'.ownBlock = some q → v.ownBlock ≠ some q := fun q hq hv => by
    rcases hs8 q hq with e | e
    · exact hap q e hv
    · have := lv0 q hv; omega
  refine ⟨S, bl ++ [a], cl ++ [b], hj.loc hkk (fun q hq => ?_), hl, ?_, ?_, fun q hq => hq, fun q hq hv => ?_⟩
  · rcases hq with hq | hq
    · rcases hs8 q hq with e | e
      · exact .inl (hL q (.inl e))
      · exact .inr ⟨e, by have := lu q hq; omega⟩
    · rcases hs9 q hq with e | e
      · exact .inl (hL q (.inr e))
      · exact .inr ⟨by omega, lv q hq⟩
  · rw [List.length_append, ptrs_snoc]
    exact row_keep ho8 k9 (fun q hq hv => hne q hq hv)
  · rw [List.length_append, ptrs_snoc]
    exact ho9
  · rcases hs9 q hv with e | e
    · exact hne q hq e
    · have := lu q hq; omega

set_option maxRecDepth 100000 in
set_option maxHeartbeats 16000000 in
theorem lsteps_ok (v0 : Value) (ws : List Int) (hrw : Rd w 1 v0 ws.length (u64s ws)) (h0 : 1 ≤ ws.length) (h20 : ws.length ≤ 20) (a : Option Addr) (cc : Nat) (l : List LEv) (hrd : Rd w 5 (.slice a l.length cc) l.length (levCells l)) (hwf : ∀ x ∈ l, x.wf) (hl : l.length ≤ 300) :
    Calls Try.prog 7 #[v0, .slice a l.length cc] w fun e w' => e = .returned (.bool true) ∧ Keep Nil w w' := by
  obtain ⟨wa, wcap, rfl, -, -⟩ := id hrw
  have HD := hid hrd
  have HW := hid hwf
  have HRW := hid hrw
  have dl : decide (300 < (l.length : Int)) = false := decide_eq_false (by omega)
  have d1 : decide ((ws.length : Int) < 1) = false := decide_eq_false (by omega)
  have d2 : decide (20 < (ws.length : Int)) = false := decide_eq_false (by omega)
  have d1' : decide (ws.length < 1) = false := decide_eq_false (by omega)
  have d2' : decide (20 < ws.length) = false := decide_eq_false (by omega)
  clear hrd hwf hrw
  go_enter Try.func7, Try.ntmps7
  go_wp2_with (at_builtin; refine wpList_app _ rfl (.tmp 41) (.tmp 42) 26 rfl 42 _ 1 8 Try.underlying26 infoU64 rfl (by decide) (.slice (some ⟨w.heap.size, 0, none⟩) 0 0) 0 [] rfl ?own (.slice wa ws.length wcap) ws.length (u64s ws) rfl ?rd ?one ?byt ?len ?_)
  case own => exact ⟨rfl, .inr ⟨_, 0, #[], rfl, Nat.zero_le _, heap_alloc_new w _, Nat.le_refl _, Nat.zero_le _, rfl, rfl⟩⟩
  case rd => exact rd_keep HRW.out (Keep.alloc (Keep.refl Nil _) _) (fun _ _ h => h)
  case one => simp [u64s, Value.oneCell']
  case byt => omega
  case len => unfold maxLen; omega
  intro a1 c1 w1 ho hg hs
  have k1 : Keep Nil w w1 := Keep.grown ((Keep.refl Nil w).alloc _) hg (fun j hj => .inr (by simp [Value.ownBlock] at hj; omega))
  (try simp only [Nat.zero_add, List.nil_append] at ho)
  have HRD := hid (row_rd ho)
  have HK := hid k1
  clear ho hg hs k1
  try simp only [Nat.zero_add]
  go_wp2_with fail
  refine (new_ok _ _ _ HRD.out (by omega) (by omega)).mono ?_
  rintro e w2 ⟨mb, F, rfl, hmm, k2, f2⟩
  have HM := hid hmm
  have HO := hid (Own.fresh HK.out k2 f2)
  have HRW2 := hid (rd_keep HRW.out (HK.out.trans k2 (fun _ _ h => h)) (fun _ _ h => h))
  clear hmm k2 f2 HRD HK
  go_wp2_with fail
  refine (rnew_ok _ _ _ HRW2.out (by omega) (by omega)).mono ?_
  rintro e w3 ⟨rb, G, rfl, hr, k3, f3⟩
  have hS0 : SL' w mb rb ws.length 0 (.slice none 0 0) (.slice none 0 0) w3 := by
    refine ⟨⟨ws, [], []⟩, [], [], ⟨?_, rfl, by simp, fun i s hs => by simp at hs⟩, by simp, World.ownsRow_nil _ _ _ _, World.ownsRow_nil _ _ _ _, fun q hq => hq, fun q hq => by simp [Value.ownBlock] at hq⟩
    have t0 := Two.fresh (P := (MemLies mb).objs (LockOp mb)) (R := (RefLies rb).objs (RLockOp rb)) (s := ((ws, []), [], [])) (r := ((ws, []), [], [])) HO.out.1 (A := F) ⟨F, ObjsAt.init (P := MemLies mb) HM.out⟩ (fun k hk => (HO.out.2 k hk).elim (fun e => e.elim) id) k3 (B := G) ⟨G, ObjsAt.init (P := RefLies rb) hr⟩ (fun k hk => (f3 k hk).elim (fun e => e.elim) id)
    exact t0.less (fun q hq => by simp [Row2, Value.ownBlock] at hq)
  have HS0 := hid hS0
  clear hS0 hr k3 f3 HM HO HRW2 HRW
  go_wp2
  go_loopw [9, 10, 11] (fun u' v' i wr => ∃ (k : Nat) (u v : Value), k ≤ l.length ∧ i = .int .i64 k ∧ u' = u ∧ v' = v ∧ Hid (SL' w mb rb ws.length k u v wr)) (fun _ _ i _ => l.length - (intOf i).toNat)
  case atStart => exact ⟨0, _, _, Nat.zero_le _, rfl, rfl, rfl, HS0⟩
  case round =>
    obtain ⟨k, u, v, hk, rfl, huu, hvv, HR⟩ := hrel
    obtain rfl : u = _ := huu.symm
    obtain rfl : v = _ := hvv.symm
    clear HS0
    by_cases hlt : k < l.length
    · obtain ⟨x, hx⟩ : ∃ x, l[k]? = some x := ⟨_, List.getElem?_eq_getElem hlt⟩
      obtain ⟨w1', w2', w3', w4', w5'⟩ := HW.out x (List.mem_of_getElem? hx)
      obtain ⟨xb, xo, xc, hve, hc⟩ := Rd.cell HD.out (by omega)
      simp only [Value.slice.injEq] at hve
      obtain ⟨rfl, -, rfl⟩ := hve
      obtain ⟨x0, x1⟩ := u8_wf w1'
      have hkk : Keep Nil w wr := HR.out.own
      have q : ∀ j u, x.cells[j]? = some u → wr.cell? ⟨xb, xo + k * 5 + j, none⟩ = some u := fun j u hu => by rw [Nat.add_assoc]; exact hkk.cell (hc _ _ (levCells_at hx hu)) (fun h => h)
      have q0 : wr.cell? ⟨xb, xo + k * 5, none⟩ = some (.int .u8 x.d) := q 0 _ rfl
      have q1 : wr.cell? ⟨xb, xo + k * 5 + 1, none⟩ = some (.int .i64 x.r) := q 1 _ rfl
      have q2 : wr.cell? ⟨xb, xo + k * 5 + 2, none⟩ = some (.int .i64 x.t) := q 2 _ rfl
      have q3 : wr.cell? ⟨xb, xo + k * 5 + 3, none⟩ = some (.int .i64 x.a) := q 3 _ rfl
      have q4 : wr.cell? ⟨xb, xo + k * 5 + 4, none⟩ = some (.int .i64 x.n) := q 4 _ rfl
      clear q hc hx hkk
      obtain ⟨S, bl, cl, hS⟩ := HR.out
      have hB := hS.boxed (.cells #[.int .u8 x.d, .int .i64 x.r, .int .i64 x.t, .int .i64 x.a, .int .i64 x.n] 63)
      have hxb := heap_alloc_new wr (.cells #[.int .u8 x.d, .int .i64 x.r, .int .i64 x.t, .int .i64 x.a, .int .i64 x.n] 63)
      have l1 : bl.length ≤ k := by have := hS.j.lens.1; have := hS.hl; omega
      have l2 : cl.length ≤ k := by have := hS.j.lens.2; have := hS.hl; omega
      have l3 := hS.hl
      have LL := hid hS.j.lens
      clear hS HR
      by_cases d0 : x.d % 4 = 0
      · have e0 : (x.d % 4 == 0) = true := beq_iff_eq.2 d0
        clear d0
        by_cases he : lckErr x.t x.a x.n ws.length = 0
        · have ha := ljnew_ok hB.j x.t x.a x.n he
          have HA := hid ha
          have HXB := hid hxb
          have HBB := hid hB
          clear ha hxb hB he
          go_wp2_with fail
          refine HA.out.mono ?_
          rintro e w6 ⟨rfl, k6, hb⟩
          have hx6 := k6.loc HXB.out (.inr rfl)
          have y2 : w6.cell? ⟨wr.heap.size, 2, none⟩ = some (.int .i64 x.t) := by rw [cell_of hx6]; rfl
          have y3 : w6.cell? ⟨wr.heap.size, 3, none⟩ = some (.int .i64 x.a) := by rw [cell_of hx6]; rfl
          have y4 : w6.cell? ⟨wr.heap.size, 4, none⟩ = some (.int .i64 x.n) := by rw [cell_of hx6]; rfl
          have HB := hid hb
          clear hb hx6 k6 HA
          go_wp2_with fail
          refine HB.out.mono ?_
          rintro e w7 ⟨rfl, hj, kk⟩
          have J2 := hid hj
          have RU := hid (row_keep HBB.out.ru kk (fun q hq hO => hO.1 (.inl (.inl hq))))
          have RV := hid (row_keep HBB.out.rv kk (fun q hq hO => hO.1 (.inl (.inr hq))))
          have AP := hid HBB.out.ap
          rw [World.size_alloc] at J2
          clear hj kk HXB HB HBB y2 y3 y4
          generalize w6.heap.size = eb at *
          go_wp2_with (at_builtin; refine wpList_app _ rfl (.tmp 177) (.tmp 179) 60 rfl 43 _ 1 8 Try.underlying60 infoPA rfl (by decide) u bl.length (ptrs bl) rfl ?own _ 1 [.pointer (some ⟨wr.heap.size + 1, 0, none⟩)] rfl ?rd ?one ?byt ?len ?_)
          case own => exact RU.out.alloc _
          case rd => exact rd_new _ _ _ _ _ _
          case one => simp [Value.oneCell']
          case byt => omega
          case len => unfold maxLen; omega
          intro a' c' w8 ho8 hg8 hs8
          have K8 := hid (show Keep (fun q => u.ownBlock = some q) w7 w8 from Keep.grown ((Keep.refl _ w7).alloc _) hg8 (fun j hj => .inl hj))
          have O8 := hid ho8
          have S8 := hid (show ∀ q, (Value.slice a' (bl.length + 1) c').ownBlock = some q → u.ownBlock = some q ∨ w7.heap.size ≤ q from fun q hq => (hs8 q hq).elim .inl (fun h => .inr (by simp at h; omega)))
          have RV8 := hid (row_keep RV.out K8.out (fun q hq hu => AP.out q hu hq))
          clear ho8 hg8 hs8
          go_wp2_with (at_builtin; refine wpList_app _ rfl (.tmp 181) (.tmp 183) 61 rfl 64 _ 1 8 Try.underlying61 infoPB rfl (by decide) v cl.length (ptrs cl) rfl ?own _ 1 [.pointer (some ⟨eb, 0, none⟩)] rfl ?rd ?one ?byt ?len ?_)
          case own => exact RV8.out.alloc _
          case rd => exact rd_new _ _ _ _ _ _
          case one => simp [Value.oneCell']
          case byt => omega
          case len => unfold maxLen; omega
          intro a'' c'' w9 ho9 hg9 hs9
          have hsl : SL' w mb rb ws.length (k + 1) (.slice a' (bl.length + 1) c') (.slice a'' (cl.length + 1) c'') w9 :=
            sl_grown J2.out (by simp [LSt.made]; omega) (fun q hq => .inl hq) RU.out RV.out K8.out O8.out S8.out (Keep.grown ((Keep.refl _ w8).alloc _) hg9 (fun j hj => .inl hj)) ho9 (fun q hq => (hs9 q hq).elim .inl (fun h => .inr (by simp at h; omega))) AP.out
          have HSL := hid hsl
          clear ho9 hg9 hs9 hsl J2 RU RV AP K8 O8 S8 RV8
          go_wp2
          go_roundw
          case rel => exact ⟨k + 1, _, _, by omega, by go_num, rfl, rfl, HSL⟩
          case measure => simp [intOf]; omega
        · obtain ⟨ha, hb⟩ := ljnew_err hB.j x.t x.a x.n he
          obtain ⟨e1, he1⟩ : ∃ e1, e1 = lckErr x.t x.a x.n ws.length := ⟨_, rfl⟩
          rw [← he1] at ha hb
          have HA := hid ha
          have HB := hid hb
          have de : (e1 != e1) = false := by simp
          have HSL := hid ((hB.mono (by omega : k ≤ k + 1)).back)
          clear ha hb hxb hB he he1
          go_wp2_with fail
          refine HA.out.mono ?_
          rintro e w6 ⟨rfl, rfl⟩
          go_wp2_with fail
          refine HB.out.mono ?_
          rintro e w6 ⟨rfl, rfl⟩
          clear HA HB
          go_wp2
          go_roundw
          case rel => exact ⟨k + 1, _, _, by omega, by go_num, rfl, rfl, HSL⟩
          case measure => simp [intOf]; omega
      · have e0 : (x.d % 4 == 0) = false := beq_eq_false_iff_ne.2 d0
        by_cases d3 : x.d % 4 = 3
        · have e3 : (x.d % 4 == 3) = true := beq_iff_eq.2 d3
          clear d0 d3
          have hD := hB.quiet ((Keep.refl Nil _).drew)
          obtain ⟨e1, S', hu⟩ := ljunlock hD.j (by omega) x.t x.a
          have HU := hid hu
          have HXB := hid hxb
          have HDD := hid hD
          have de : (e1 != e1) = false := by simp
          clear hu hxb hB hD
          go_wp2_with fail
          go_region_held3 (fun w' => w'.cell? ⟨wr.heap.size, 2, none⟩ = some (.int .i64 x.t) ∧ w'.cell? ⟨wr.heap.size, 3, none⟩ = some (.int .i64 x.a)) (go_keep)
            (first
              | (go_at_call 25; (with_reducible refine HU.out.mono ?_); rintro e w6 ⟨rfl, k6, hb⟩; have hx6 := k6.loc (show (World.drew _).heap[wr.heap.size]? = _ from HXB.out) (.inr rfl); have y2 : w6.cell? ⟨wr.heap.size, 2, none⟩ = some (.int .i64 x.t) := (by rw [cell_of hx6]; rfl); have y3 : w6.cell? ⟨wr.heap.size, 3, none⟩ = some (.int .i64 x.a) := (by rw [cell_of hx6]; rfl); have HB := hid hb; clear hb hx6 k6)
              | (go_at_call 29; (with_reducible refine HB.out.mono ?_); rintro e w7 ⟨rfl, hj, kk⟩; have hx7 := kk.loc (show (World.drew _).heap[wr.heap.size]? = _ from HXB.out) (.inr rfl); have z2 : w7.cell? ⟨wr.heap.size, 2, none⟩ = some (.int .i64 x.t) := (by rw [cell_of hx7]; rfl); have z3 : w7.cell? ⟨wr.heap.size, 3, none⟩ = some (.int .i64 x.a) := (by rw [cell_of hx7]; rfl); have HJ := hid hj; have KK := hid kk; clear hj kk hx7))
          have HSL := hid ((HDD.out.turn (by omega : k ≤ k + 1) HJ.out KK.out).back)
          clear HJ KK HDD HXB HB HU
          go_wp2
          go_roundw
          case rel => exact ⟨k + 1, _, _, by omega, by go_num, rfl, rfl, HSL⟩
          case measure => simp [intOf]; omega
        · have e3 : (x.d % 4 == 3) = false := beq_eq_false_iff_ne.2 d3
          clear d0 d3
          obtain ⟨va, vc, rfl⟩ := row_slice hB.rv
          obtain ⟨ua, uc, rfl⟩ := row_slice hB.ru
          by_cases ho : cl.length = 0
          · have dz : ((cl.length : Int) == 0) = true := beq_iff_eq.2 (by omega)
            have dz' : (cl.length == 0) = true := beq_iff_eq.2 (by omega)
            have HSL := hid ((hB.mono (by omega : k ≤ k + 1)).back)
            clear ho hxb hB
            go_wp2
            go_roundw
            case rel => exact ⟨k + 1, _, _, by omega, by go_num, rfl, rfl, HSL⟩
            case measure => simp [intOf]; omega
          · have dz : ((cl.length : Int) == 0) = false := beq_eq_false_iff_ne.2 (by omega)
            have dz' : (cl.length == 0) = false := beq_eq_false_iff_ne.2 (by omega)
            obtain ⟨r0, r1⟩ := i64_wf w2'
            obtain ⟨t, ht⟩ : ∃ t : Nat, x.r % (cl.length : Int) = t := ⟨(x.r % (cl.length : Int)).toNat, by have := Int.emod_nonneg x.r (show (cl.length : Int) ≠ 0 by omega); omega⟩
            have htl : t < cl.length := by have := Int.emod_lt_of_pos x.r (show (0 : Int) < cl.length by omega); omega
            obtain ⟨pb, hpb⟩ : ∃ pb, cl[t]? = some pb := ⟨_, List.getElem?_eq_getElem htl⟩
            obtain ⟨pa, hpa⟩ : ∃ pa, bl[t]? = some pa := ⟨_, List.getElem?_eq_getElem (by have := LL.out; omega)⟩
            have hi := index13_any x.r (cl.length : Int) r0 r1 (by omega) (by omega) (wr.alloc (.cells #[.int .u8 x.d, .int .i64 x.r, .int .i64 x.t, .int .i64 x.a, .int .i64 x.n] 63))
            rw [ht] at hi
            have HI := hid hi
            obtain ⟨S', pc, d, s', hs', hst⟩ := ljstep hB.j (by omega) hpa hpb
            have HST := hid hst
            have HS' := hid hs'
            obtain ⟨s0, hs0⟩ : ∃ s, S.ops[t]? = some s := ⟨_, List.getElem?_eq_getElem (by have := LL.out; omega)⟩
            obtain ⟨_, _, hpA⟩ := hB.j.p
            obtain ⟨_, _, hrA⟩ := hB.j.r
            have NA := hid (lnext_any s0 (hpA.objs t pa s0 hpa hs0).1)
            have NB := hid (rlnext_any (hrA.objs t pb s0 hpb hs0).1)
            obtain ⟨pn, hpn⟩ : ∃ pn : Int, pn = if s0.live = true then 2 else 0 := ⟨_, rfl⟩
            rw [← hpn] at NA NB
            obtain ⟨qv, rfl⟩ : ∃ q, va = some ⟨q, 0, none⟩ := by
              rcases hB.rv.2 with ⟨hv, h0⟩ | ⟨q, cap, cur, hv, _⟩
              · omega
              · simp only [Value.slice.injEq] at hv; exact ⟨q, hv.1⟩
            obtain ⟨qu, rfl⟩ : ∃ q, ua = some ⟨q, 0, none⟩ := by
              rcases hB.ru.2 with ⟨hv, h0⟩ | ⟨q, cap, cur, hv, _⟩
              · have := LL.out; omega
              · simp only [Value.slice.injEq] at hv; exact ⟨q, hv.1⟩
            have tz0 : (0 : Int) ≤ (t : Int) := by omega
            have tz1 : (t : Int) < (cl.length : Int) := by omega
            have tz2 : (t : Int) < (bl.length : Int) := by have := LL.out; omega
            have HPA := hid hpa
            have HPB := hid hpb
            have RA := hid (fun (W : World) (hr : W.ownsRow 0 43 1 (.slice (some ⟨qu, 0, none⟩) bl.length uc) bl.length (ptrs bl)) => (show W.cell? ⟨qu, t, none⟩ = some (.pointer (some ⟨pa, 0, none⟩)) by rw [hr.cellAt t (by omega)]; exact ptrs_at hpa))
            have RB := hid (fun (W : World) (hr : W.ownsRow 0 64 1 (.slice (some ⟨qv, 0, none⟩) cl.length vc) cl.length (ptrs cl)) => (show W.cell? ⟨qv, t, none⟩ = some (.pointer (some ⟨pb, 0, none⟩)) by rw [hr.cellAt t (by omega)]; exact ptrs_at hpb))
            have ca := RA.out _ hB.ru
            have cb := RB.out _ hB.rv
            have HBB := hid hB
            clear hi ht ho hB hxb hst hs' hs0 hpA hrA hpn hpa hpb
            go_wp2_with fail
            refine HI.out.mono ?_
            rintro e w6 ⟨rfl, rfl⟩
            go_wp2_with fail
            refine NB.out.mono ?_
            rintro e w6 ⟨rfl, rfl⟩
            go_wp2_with fail
            refine NA.out.mono ?_
            rintro e w6 ⟨rfl, rfl⟩
            go_wp2_with fail
            refine HST.out.mono ?_
            rintro e w6 ⟨rfl, k6, hb⟩
            have cb6 := RB.out w6 (row_keep HBB.out.rv k6 (fun q hq hO => hO.1 (HBB.out.ll q (.inr hq))))
            have HB := hid hb
            clear hb HST NA NB HI ca cb k6
            go_wp2_with fail
            refine HB.out.mono ?_
            rintro e w7 ⟨rfl, hj, kk⟩
            have T7 := hid (HBB.out.turn (by omega : k ≤ k + 1) hj kk)
            have ca7 := RA.out w7 T7.out.ru
            obtain ⟨_, _, hpA⟩ := hj.p
            obtain ⟨_, _, hrA⟩ := hj.r
            have qa := lres_any s' (hpA.objs t pa s' HPA.out HS'.out).1
            have qb := fun m => rlres_any (s := s') (lb := pb) (rb := rb) (w := w7.drewN m) (hrA.objs t pb s' HPB.out HS'.out).1
            obtain ⟨re, hre⟩ : ∃ re : Int, re = if s'.live = true then 8 else s'.e := ⟨_, rfl⟩
            unfold LResTo at qa
            unfold RLResTo at qb
            rw [← hre] at qa
            simp only [← hre] at qb
            have QA := hid qa
            have QB := hid qb
            clear hj kk hpA hrA HB cb6 HBB qa qb hre
            go_wp2_with fail
            refine QA.out.mono ?_
            rintro e w8 ⟨m8, rfl, rfl⟩
            have cb8 := RB.out (w7.drewN m8) T7.out.rv
            clear ca7 QA
            go_wp2_with fail
            refine (QB.out m8).mono ?_
            rintro e w9 ⟨m9, rfl, rfl⟩
            have HSL := hid ((T7.out.quiet ((Keep.refl Nil w7).drewN (m8 + m9))).back)
            clear cb8 QB T7
            go_wp2
            go_roundw
            case rel => exact ⟨k + 1, _, _, by omega, by go_num, rfl, rfl, HSL⟩
            case measure => simp [intOf]; omega
    · obtain rfl : k = l.length := by omega
      obtain ⟨S, bl, cl, hS⟩ := HR.out
      obtain ⟨_, _, hpA⟩ := hS.j.p
      obtain ⟨_, _, hrA⟩ := hS.j.r
      have hmem : MemAt wr mb _ S.ws S.log := hpA.sys
      have hrf : RefAt wr rb _ S.ws S.log := hrA.sys
      obtain ⟨gw, wc, la, lc, hr, hF⟩ := hrf.rep
      have s1 := hr.cell1
      have HRR := hid hr
      have HMM := hid hmem
      have HOW := hid hS.j.two.own
      have hll : S.log.length < 1000000000000 := by have := hS.j.ok.llog; omega
      obtain ⟨lg, hlg⟩ : ∃ lg, lg = S.log := ⟨_, rfl⟩
      rw [← hlg] at HRR HMM s1 hll
      have hll' : lg.length ≤ 1000000000000 := by omega
      clear hS hr hF HR hlt hk hlg hmem hrf hpA hrA
      obtain ⟨wo, rfl⟩ : ∃ wo : World, wo = wr := ⟨_, rfl⟩
      go_wp2
      go_region_held3 (fun w' => w'.cell? ⟨rb, 1, none⟩ = some (.slice la lg.length lc)) (go_keep)
        (first
          | (go_at_call 34; refine (log_all (HMM.out.keep (Keep.refl Nil wo).drew (fun _ _ h => h)) hll).mono ?_; rintro e wA ⟨gA, cA, rfl, rdA, kA', -⟩; have kA : Keep Nil wo wA := (Keep.refl Nil wo).drew.trans kA' (fun _ _ h => h); have pA1 := kA.cell s1 (fun h => h); have RA := hid rdA; clear rdA kA')
          | (go_at_call 33; refine (eqA_yes _ _ lg _ RA.out (rd_keep (row_rd HRR.out.lrow) kA (fun _ _ h => h)) hll').mono ?_; rintro e wD ⟨rfl, kD'⟩; have kD : Keep Nil wo wD := kA.trans kD' (fun _ _ h => h); have pD1 := kD.cell s1 (fun h => h); clear kD'))
      go_wp2
      go_ret
      exact ⟨rfl, HOW.out.trans kD (fun _ _ h => h)⟩
set_option maxRecDepth 100000 in
set_option maxHeartbeats 4000000 in
theorem walk_lsteps (w : World) (v0 : Value) (ws : List Int) (hrw : Rd w 1 v0 ws.length (ws.map (Value.int .u64))) (_hwf : ∀ x ∈ ws, (Lit.int .u64 x).wf = true) (hm0 : ws.length ≤ maxLen) (v : Value) (l : List LEv) (hrd : Rd w 5 v l.length (levCells l)) (hwf : ∀ x ∈ l, LEv.wf x) (hm : l.length ≤ maxLen) :
    Calls Try.prog 7 #[v0, v] w fun e w' => e = .returned (.bool true) ∧ Keep Nil w w' := by
  obtain ⟨a, cc, rfl, -, -⟩ := id hrd
  obtain ⟨a0, cc0, rfl, -, -⟩ := id hrw
  unfold maxLen at hm hm0
  by_cases h1 : ws.length < 1
  · have d1 : decide ((ws.length : Int) < 1) = true := decide_eq_true (by omega)
    have d1' : decide (ws.length < 1) = true := decide_eq_true (by omega)
    clear h1 hwf _hwf hrd hrw
    go_enter Try.func7, Try.ntmps7
    go_wp2
    go_ret
    exact ⟨rfl, Keep.refl _ _⟩
  have d1 : decide ((ws.length : Int) < 1) = false := decide_eq_false (by omega)
  have d1' : decide (ws.length < 1) = false := decide_eq_false (by omega)
  by_cases h2 : 20 < ws.length
  · have d2 : decide (20 < (ws.length : Int)) = true := decide_eq_true (by omega)
    have d2' : decide (20 < ws.length) = true := decide_eq_true (by omega)
    clear h1 h2 hwf _hwf hrd hrw
    go_enter Try.func7, Try.ntmps7
    go_wp2
    go_ret
    exact ⟨rfl, Keep.refl _ _⟩
  have d2 : decide (20 < (ws.length : Int)) = false := decide_eq_false (by omega)
  have d2' : decide (20 < ws.length) = false := decide_eq_false (by omega)
  by_cases h5 : 300 < l.length
  · have d5 : decide (300 < (l.length : Int)) = true := decide_eq_true (by omega)
    clear h1 h2 h5 hwf _hwf hrd hrw
    go_enter Try.func7, Try.ntmps7
    go_wp2
    go_ret
    exact ⟨rfl, Keep.refl _ _⟩
  exact lsteps_ok _ ws hrw (by omega) (by omega) a cc l hrd hwf (by omega)
end
end Go.Proofs.Ytckopbjejjeknaa
