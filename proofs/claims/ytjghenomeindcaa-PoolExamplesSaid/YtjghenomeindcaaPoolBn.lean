/- law14: begin. -/
import Derived.Test.YtjghenomeindcaaPoolFw
import Derived.Test.YtjghenomeindcaaLayNew
set_option linter.unusedVariables false
set_option linter.unusedSimpArgs false
namespace Go.Lf
open Go.RowKit
theorem pinit_len (c : Cfg) : (ints c.init).length = c.words := by unfold ints; rw [List.length_map, c.init_len]
theorem pcfg_ok {ts : List Nat} (h6 : ts.length = 6) (hs : ts.sum ≤ 40) : (pcfg ts).ok :=
  ⟨(by decide : (1 : Int) ≤ 8), (by decide : (8 : Int) ≤ 64), (by decide : 1 ≤ 1), (by decide : 1 ≤ 64), .inl rfl, fun h => absurd (show (1 : Int) = 3 from h) (by decide), fun _ => rfl, .inl ⟨rfl, rfl, rfl⟩, h6, by show ts.sum ≤ 1024; omega, (by decide : 1 ≤ 1), (by decide : 1 ≤ 16), (by decide : (1 : Int) ≤ 1), (by decide : (1 : Int) ≤ 255), (by decide : (0 : Int) ≤ 0), (by decide : (0 : Int) ≤ 64)⟩
theorem pcfg_nT {ts : List Nat} : (pcfg ts).nT = ts.sum := by
  show (hts 1 ts).length = _
  rw [hts_len]
theorem tws_len (h m : Nat) (l : List Nat) : (tws h m l).length ≤ l.length := by
  induction l generalizing m with
  | nil => exact Nat.le_refl _
  | cons x l ih =>
    unfold tws
    have := ih (m + 1)
    split
    · simp only [List.length_cons]; omega
    · simp only [List.length_cons]; omega
/-- The run whose stacks hold the towers from an index on. -/
def PRun.from (c : Cfg) (t : Nat) : PRun := { PRun.init c with L := fun h => tws (h + 1) t (c.hs.drop t) }
theorem PRun.from_zero (c : Cfg) : PRun.from c 0 = PRun.init c := rfl
theorem PRun.from_end (c : Cfg) : PRun.from c c.nT = { PRun.init c with L := fun _ => [] } := by
  have e : (fun h => tws (h + 1) c.nT (c.hs.drop c.nT)) = fun _ => [] := funext fun h => tws_end _ _
  show { PRun.init c with L := fun h => tws (h + 1) c.nT (c.hs.drop c.nT) } = _
  rw [e]
theorem PRun.from_step (c : Cfg) {t k : Nat} (hx : c.hs[t]? = some (k + 1)) : { PRun.from c (t + 1) with L := pup (PRun.from c (t + 1)).L k (((t : Int) + 1) :: (PRun.from c (t + 1)).L k) } = PRun.from c t := by
  suffices e : pup (fun h => tws (h + 1) (t + 1) (c.hs.drop (t + 1))) k (((t : Int) + 1) :: tws (k + 1) (t + 1) (c.hs.drop (t + 1))) = fun h => tws (h + 1) t (c.hs.drop t) by
    show { PRun.init c with L := pup (fun h => tws (h + 1) (t + 1) (c.hs.drop (t + 1))) k (((t : Int) + 1) :: tws (k + 1) (t + 1) (c.hs.drop (t + 1))) } = { PRun.init c with L := fun h => tws (h + 1) t (c.hs.drop t) }
    rw [e]
  funext h
  rw [tws_drop hx]
  unfold pup
  by_cases e : h = k
  · subst e
    rw [if_pos rfl, if_pos rfl]
  · rw [if_neg e, if_neg (by omega)]
end Go.Lf
namespace Go.Proofs.Ytjghenomeindcaa
open Go.RowKit Go.Lf
section
variable {w w' w1 : World} {c : Cfg} {R : PRun} {rb pb L mb ob gb : Nat} {own : Nat → Option Nat} {f : Nat → Nat → Value} {F G : Nat → Prop}
theorem rd_none (w : World) : Rd w 1 (.slice none 0 0) 0 (u64s []) := ⟨_, _, rfl, by simp [u64s], .inl ⟨rfl, rfl, rfl⟩⟩
/-- Pools that were just made. -/
theorem pa_new (hl : LayOn w L c G) (hm : MemAt w mb F (ints c.init) []) (hGF : ∀ k, G k → ¬ F k ∧ k < w.heap.size) (hp : PoolAt0 w' pb ob gb mb L c) (hk : Keep Nil w w') (h1 : w.heap.size ≤ pb) (h2 : w.heap.size ≤ ob) (h3 : w.heap.size ≤ gb) : PA w' (fun k => k = pb ∨ k = ob ∨ k = gb ∨ F k ∨ G k) c pb mb L ob gb F G (PRun.init c).s := by
  have hF : ∀ k, F k → k < w.heap.size := hm.lt
  refine ⟨hp.head, hm.keep hk (fun _ _ h => h), hl.keep hk (fun _ _ h => h), ⟨[], ⟨#[], 0, hp.out, rfl, ?_⟩, List.nodup_nil, fun _ => rfl⟩, ?_, List.length_replicate, fun _ => Iff.rfl, ty_ne hp.head hp.gens (by decide) |> fun _ => ?_, ty_ne hp.head hp.gens (by decide), ?_, ⟨fun h => ?_, fun h => ?_, fun h => ?_⟩, ⟨fun h => ?_, fun h => ?_, fun h => ?_⟩, fun k hG => ⟨(hGF k hG).1, by have := (hGF k hG).2; have := hk.size; omega⟩⟩
  · first
      | exact Stamped.empty
      | (intro e he; simp at he)
      | (refine ⟨?_, ?_⟩ <;> simp)
      | skip
  · rw [hp.gens]
    simp [intsI, PRun.init]
  · intro e
    have := hp.head
    rw [e, hp.out] at this
    cases this
  · intro e
    have := hp.gens
    rw [← e, hp.out] at this
    cases this
  · have := hF _ h; omega
  · have := hF _ h; omega
  · have := hF _ h; omega
  · have := (hGF _ h).2; omega
  · have := (hGF _ h).2; omega
  · have := (hGF _ h).2; omega
theorem RunAt.from (h : RunAt ⟨w, Nil⟩ w' c R rb pb L own f) (hk : Keep Nil w1 w) : RunAt ⟨w1, Nil⟩ w' c R rb pb L own f :=
  ⟨h.head, h.orb, hk.trans h.kp (fun _ _ h => h), fun k e => ⟨.inl (Nat.le_trans hk.size ((h.olt k e).1.resolve_right (fun h => h))), (h.olt k e).2⟩, h.pl, h.op, h.of, h.mine, h.stk, h.sw, h.seen, h.steps⟩
def FromTo (w0 : World) (c : Cfg) (t rb pb L : Nat) (w' : World) : Prop := ∃ own f, RunAt ⟨w0, Nil⟩ w' c (PRun.from c t) rb pb L own f
/-- The cells of a run that was just boxed. -/
def f00 (j _i : Nat) : Value := if j < 2 then .pointer none else if j = 2 then .int .i64 0 else if j < 5 then .slice none 0 0 else .int .i64 0
theorem rn_lit (L pb : Nat) : (rnCells L pb f00).toArray = #[Value.pointer (some ⟨L, 0, none⟩), Value.pointer (some ⟨pb, 0, none⟩), Value.pointer none, Value.pointer none, Value.pointer none, Value.pointer none, Value.pointer none, Value.pointer none, Value.pointer none, Value.pointer none, Value.pointer none, Value.pointer none, Value.pointer none, Value.pointer none, Value.int .i64 0, Value.int .i64 0, Value.int .i64 0, Value.int .i64 0, Value.int .i64 0, Value.int .i64 0, Value.slice none 0 0, Value.slice none 0 0, Value.slice none 0 0, Value.slice none 0 0, Value.slice none 0 0, Value.slice none 0 0, Value.slice none 0 0, Value.slice none 0 0, Value.slice none 0 0, Value.slice none 0 0, Value.slice none 0 0, Value.slice none 0 0, Value.int .i64 0, Value.int .i64 0, Value.int .i64 0, Value.int .i64 0, Value.int .i64 0, Value.int .i64 0, Value.int .i64 0, Value.int .i64 0, Value.int .i64 0, Value.int .i64 0, Value.int .i64 0, Value.int .i64 0, Value.int .i64 0, Value.int .i64 0, Value.int .i64 0, Value.int .i64 0, Value.int .i64 0, Value.int .i64 0] := rfl
def BegTo (w0 : World) (c : Cfg) (e : Ending) (w' : World) : Prop := ∃ rb pb L own f, e = .returned (.pointer (some ⟨rb, 0, none⟩)) ∧ RunAt ⟨w0, Nil⟩ w' c (PRun.init c) rb pb L own f
theorem run_new {A : Nat → Prop} {s : PSt} (hp : (PoolL c pb L).lie w A s) (hs : s = (PRun.init c).s) (hA : ∀ k, A k → w1.heap.size ≤ k) (hk : Keep Nil w1 w) : RunAt ⟨w1, Nil⟩ (w.alloc (.cells (rnCells L pb f00).toArray 74 (0, 0))) c (PRun.from c c.nT) w.heap.size pb L (omark (omark (fun _ => none) A 0) (fun k => k = w.heap.size) 1) f00 := by
  subst hs
  have hz := hk.size
  have ka : Keep Nil w (w.alloc (.cells (rnCells L pb f00).toArray 74 (0, 0))) := (Keep.refl Nil w).alloc _
  have hA2 := fun k (h : A k) => (PoolL c pb L).lt hp k h
  rw [PRun.from_end]
  refine ⟨heap_alloc_new w _, omark_in rfl, hk.trans ka (fun _ _ h => h), fun k e => ?_, ⟨A, (PoolL c pb L).keep hp ka (fun _ _ h => h), fun k e => ?_⟩, fun t _ => ⟨rfl, rfl⟩, fun _ _ => rfl, fun _ _ => ⟨ORow.nil _ _, fun k e => by cases e⟩, fun _ _ => ⟨ORow.nil _ _, fun k e => by cases e⟩, fun _ _ => rfl, fun _ _ => rfl, fun _ _ => rfl⟩
  · rw [World.size_alloc]
    rcases omark_ne e with e | e
    · subst e; exact ⟨.inl hz, Nat.lt_succ_self _⟩
    · rcases omark_ne e with e | e
      · exact ⟨.inl (hA k e), by have := hA2 k e; omega⟩
      · exact absurd rfl e
  · have := hA2 k e
    rw [omark_out (by show ¬ k = _; omega), omark_in e]
theorem pnew_lay (W : World) (t1 t2 t3 t4 t5 t6 : Nat) (hs : [t1, t2, t3, t4, t5, t6].sum ≤ 40) : Calls Try.prog 12 #[cfgV (pcfg [t1, t2, t3, t4, t5, t6]) t1 t2 t3 t4 t5 t6 none 0] W (NewTo W (pcfg [t1, t2, t3, t4, t5, t6])) :=
  lnew_ok (pcfg [t1, t2, t3, t4, t5, t6]) (pcfg_ok rfl hs) t1 t2 t3 t4 t5 t6 rfl none 0 (rd_none W)
set_option maxRecDepth 100000 in
set_option maxHeartbeats 4000000 in
theorem begin_ok (w : World) (t1 t2 t3 t4 t5 t6 : Nat) (hs : [t1, t2, t3, t4, t5, t6].sum ≤ 40) : Calls Try.prog 8 #[.agg #[.int .i64 t1, .int .i64 t2, .int .i64 t3, .int .i64 t4, .int .i64 t5, .int .i64 t6]] w (BegTo w (pcfg [t1, t2, t3, t4, t5, t6])) := by
  obtain ⟨c, hc⟩ : ∃ c, c = pcfg [t1, t2, t3, t4, t5, t6] := ⟨_, rfl⟩
  have HOK := hid (show c.ok from hc ▸ pcfg_ok rfl hs)
  have hn : c.nT ≤ 40 := by rw [hc, pcfg_nT]; exact hs
  have HTW := hid (show c.tw = [t1, t2, t3, t4, t5, t6] from by rw [hc]; rfl)
  have HNEW := hid (fun W => pnew_lay W t1 t2 t3 t4 t5 t6 hs)
  have HCFG := hid (fun W => config_ok W t1 t2 t3 t4 t5 t6)
  have hz := hid (show 0 < c.words ∧ c.words ≤ 65536 from ⟨by have := le_words c; omega, words_bd HOK.out⟩)
  rw [← hc] at HNEW HCFG ⊢
  clear hs hc
  go_enter Try.func8, Try.ntmps8
  go_wp2_with fail
  refine (HCFG.out _).mono ?_
  rintro e w1 ⟨rfl, hk1⟩
  have HK1 := hid (((Keep.refl Nil w).alloc _).trans hk1 (fun _ _ h => h))
  clear hk1
  go_wp2_with fail
  refine (HNEW.out _).mono ?_
  rintro e w2 ⟨L, G, rfl, hl, hk, hG⟩
  have HL := hid hl
  have HK2 := hid (HK1.out.trans hk (fun _ _ h => h))
  have HG := hid hG
  clear hl hk hG
  go_wp2_with fail
  refine (initial_ok HL.out.at_ HOK.out (by have := hz.out; omega)).mono ?_
  rintro e w3 ⟨rfl, hrow, hk3⟩
  have hr3 : Rd w3 1 (.slice (some ⟨w2.heap.size, 0, none⟩) c.words c.words) (ints c.init).length (u64s (ints c.init)) := by
    rw [pinit_len]
    exact rd_of_heap hrow (by rw [show (u64s (ints c.init)).length = (ints c.init).length by simp [u64s], pinit_len, Nat.mul_one])
  have HR3 := hid hr3
  have HL3 := hid (HL.out.keep hk3 (fun _ _ h => h))
  have HK3 := hid (HK2.out.trans hk3 (fun _ _ h => h))
  have Z3 := hid (show w.heap.size ≤ w2.heap.size ∧ w2.heap.size < w3.heap.size from ⟨HK2.out.size, lt_of_block hrow⟩)
  clear hrow hk3 hr3
  go_wp2_with fail
  refine (new_ok _ (ints c.init) _ HR3.out (by rw [pinit_len]; exact hz.out.1) (by rw [pinit_len]; exact hz.out.2)).mono ?_
  rintro e w4 ⟨mb, F, rfl, hm, hk4, hf⟩
  have HM := hid hm
  have HL4 := hid (HL3.out.keep hk4 (fun _ _ h => h))
  have HF := hid (show ∀ k, F k → w3.heap.size ≤ k from fun k h => (hf k h).resolve_left (fun h => h))
  have HK4 := hid (HK3.out.trans hk4 (fun _ _ h => h))
  have Z4 := hid hk4.size
  clear hm hk4 hf
  go_wp2_with fail
  refine (poolnew_ok HL4.out.at_ HM.out (pinit_len c) HOK.out hz.out.2).mono ?_
  rintro e w5 ⟨pb, ob, gb, rfl, hp0, hk5, b1, b2, b3, -⟩
  have hpa : PA w5 (fun k => k = pb ∨ k = ob ∨ k = gb ∨ F k ∨ G k) c pb mb L ob gb F G (PRun.init c).s := pa_new HL4.out HM.out (fun k hk => ⟨fun hF => by have := HF.out k hF; have := (HG.out k hk).2; have := Z3.out; omega, by have := (HG.out k hk).2; have := Z3.out; have := Z4.out; omega⟩) hp0 hk5 b1 b2 b3
  have HRN := hid (run_new (w1 := w) ⟨mb, ob, gb, F, G, hpa⟩ rfl (fun k hk => by
    have z1 := Z3.out
    have z2 := Z4.out
    rcases hk with rfl | rfl | rfl | h | h
    · omega
    · omega
    · omega
    · have := HF.out k h; omega
    · have := (HG.out k h).1; have := HK1.out.size; omega) (HK4.out.trans hk5 (fun _ _ h => h)))
  clear hpa hp0 hk5 b1 b2 b3 HM HL4 HL3 HR3 HL HF HG HK4 HK3 HK2 HK1 Z3 Z4
  go_wp2_with fail
  have hq := HRN.out
  rw [rn_lit] at hq
  generalize w5.alloc _ = W at hq ⊢
  generalize omark _ _ 1 = own at hq
  generalize w5.heap.size = rb at hq ⊢
  have HQ := hid hq
  obtain ⟨A, ⟨mb', ob', gb', F', G', hpa⟩, -⟩ := hq.pl
  have HLW := hid hpa.lay.at_
  clear hq hpa HRN
  refine (towers_ok HLW.out).mono ?_
  rintro e W' ⟨rfl, rfl⟩
  have n0 : decide ((c.nT : Int) < 0) = false := decide_eq_false (by omega)
  have n1 : decide ((c.nT : Int) > 240) = false := decide_eq_false (by omega)
  go_wp2_with fail
  refine (towers_ok HLW.out).mono ?_
  rintro e W' ⟨rfl, rfl⟩
  clear n0 n1
  go_wp2
  go_loopw [9] (fun i wz => ∃ t : Nat, t ≤ c.nT ∧ i = .int .i64 (t : Int) ∧ Hid (FromTo w c t rb pb L wz)) (fun i _ => (intOf i).toNat)
  case atStart => exact ⟨c.nT, Nat.le_refl _, rfl, hid ⟨own, f00, HQ.out⟩⟩
  case round =>
    clear HQ HLW
    obtain ⟨t, ht, rfl, HR⟩ := hrel
    match t, ht, HR with
    | 0, ht, HR =>
      have c0 : decide (((0 : Nat) : Int) ≥ 1) = false := rfl
      go_wp2
      go_ret
      obtain ⟨own1, f1, h1⟩ := HR.out
      exact ⟨rb, pb, L, own1, f1, rfl, h1⟩
    | t + 1, ht, HR =>
      obtain ⟨own1, f, h1⟩ := HR.out
      obtain ⟨x, hx⟩ : ∃ x, c.hs[t]? = some x := ⟨_, List.getElem?_eq_getElem (by have : c.nT = c.hs.length := rfl; omega)⟩
      have hx6 := HOK.out.hs x (List.mem_of_getElem? hx)
      obtain ⟨k, rfl⟩ : ∃ k, x = k + 1 := ⟨x - 1, by omega⟩
      have k6 : k < 6 := by omega
      obtain ⟨A, ⟨mb', ob', gb', F', G', hpa⟩, -⟩ := h1.pl
      have HH := hid (fun tt htt => height_ok hpa.lay.at_ HOK.out hx tt htt)
      have HX := hid hx
      have H1 := hid h1
      have c0 : decide (((t + 1 : Nat) : Int) ≥ 1) = true := decide_eq_true (by omega)
      have a1 : decide (((k : Int) + 1) < 1) = false := decide_eq_false (by omega)
      have a2 : decide (((k : Int) + 1) > 6) = false := decide_eq_false (by omega)
      clear hx hpa h1 HR hx6
      go_wp2_with fail
      refine (HH.out _ (by omega)).mono ?_
      rintro e W' ⟨rfl, rfl⟩
      obtain ⟨vs, hvs⟩ : ∃ v, v = f 4 k := ⟨_, rfl⟩
      obtain ⟨zs, hzs⟩ : ∃ zs, zs = ((PRun.from c (t + 1)).L k).reverse := ⟨_, rfl⟩
      have HS := hid (show RwAt wr own1 (20 + k) vs zs from hzs ▸ hvs ▸ H1.out.stk k k6)
      have q26 : wr.cell? ⟨rb, 26 + k, none⟩ = some vs := hvs ▸ H1.out.cell (j := 4) (by decide) k6
      have hzl := hid (show zs.length < 1000000 from by
        rw [hzs, List.length_reverse]
        have h1 := tws_len (k + 1) (t + 1) (c.hs.drop (t + 1))
        have h2 : ((PRun.from c (t + 1)).L k).length = (tws (k + 1) (t + 1) (c.hs.drop (t + 1))).length := rfl
        rw [List.length_drop] at h1
        have : c.nT = c.hs.length := rfl
        omega)
      have HZ := hid hzs
      have HVS := hid hvs
      have hz5 : rb < wr.heap.size := lt_of_block H1.out.head
      have HNR := hid (show vs.ownBlock ≠ some rb from fun e => by have := HS.out.2 rb e; rw [H1.out.orb] at this; simp at this; omega)
      have wk : IntKind.i64.wrap ((k : Int) + 1 - 1) = (k : Int) := by rw [IntKind.wrap_i64]; omega
      have wk2 : IntKind.i64.wrap (k : Int) = (k : Int) := by rw [IntKind.wrap_i64]; omega
      have ek : (k : Int) + 1 - 1 = (k : Int) := by omega
      have ek2 : wrap64 (k : Int) = (k : Int) := by unfold wrap64; omega
      have k0 : (0 : Int) ≤ (k : Int) := by omega
      have kk : (k : Int) < 6 := by omega
      clear hvs hzs
      go_wp2
      go_region_law (refine step_oapp _ rfl (.tmp 91) (.tmp 93) 48 rfl 3 Try.underlying48 infoInt vs zs (by simp [Act.eval]) (HS.out.1.keep (((Keep.refl Nil wr).alloc _).drew) (fun _ _ h => h)) ((t : Int) + 1) _ (by simp [Act.eval]) (rd_new _ _ _ _ _ _) hzl.out ?_; intro a2 c2 w6 ho2 ho1 hgr hst2; have hb1 : w6.heap[rb]? = wr.heap[rb]? := (hgr.block rb (by simp; omega) (fun e => HNR.out e.symm)).trans (Below.heap_alloc wr.drew _ rb hz5); have hb2 := hb1.trans H1.out.head; have c26 : w6.cell? ⟨rb, 26 + k, none⟩ = some vs := (by rw [World.cell?_of_block (a := ⟨rb, 26 + k, none⟩) hb1]; exact q26); have z26 : w6.frozen? ⟨rb, 26 + k, none⟩ = false := free_of hb2 _; have K6 := hid ((((Keep.refl (fun q => vs.ownBlock = some q) wr).alloc _).drew).grown hgr (fun q e => .inl e)); have HO2 := hid ho2; have HO1 := hid ho1; have HS2 := hid hst2; clear hgr hb1 hb2 ho2 ho1 hst2)
      all_goals
        obtain ⟨own2, h6, hrw⟩ := H1.out.grow (tag := 20 + k) (by omega) (by omega) (fun u hu => by omega) HS.out.2 K6.out HO2.out (fun q e => (HS2.out q e).imp id (fun e => by simp at e; omega)) (fun u hu e => by omega) (fun u hu e => by
          obtain rfl : u = k := by omega
          rw [← HVS.out, ← HZ.out]
          exact HO1.out)
        rw [HZ.out, ← List.reverse_cons] at hrw
        have H7 := hid (h6.setStk k6 _ _ hrw)
        obtain ⟨W7, hW7⟩ : ∃ W7, W7 = w6.setCell ⟨rb, 26 + k, none⟩ (.slice a2 (zs.length + 1) c2) := ⟨_, rfl⟩
        have H7' := hid (show FromTo w c t rb pb L W7 from by
          rw [hW7, HZ.out]
          have := H7.out
          rw [PRun.from_step c HX.out] at this
          exact ⟨_, _, this⟩)
        rw [← hW7]
        clear hW7 H7 c26 z26 h6 hrw
        go_wp2
        go_roundw
        case rel => exact ⟨t, by omega, by go_num, H7'⟩
        case measure => simp [intOf]
end
end Go.Proofs.Ytjghenomeindcaa
