/- WordsCalls: the walk. -/
import Derived.Test.YtnfkjdmjgphghaaCall
import Derived.Test.YtnfkjdmjgphghaaLogRd
import Derived.Test.YtnfkjdmjgphghaaKit
import Derived.Test.YtnfkjdmjgphghaaRun
import Derived.Test.YtnfkjdmjgphghaaLogFrom
namespace Go.Lf
open Go.RowKit
theorem logCells_set1 {l : List Acc} {k : Nat} {x : Acc} (h : l[k]? = some x) (v : Int) : (logCells l).set (k * 6 + 1) (.int .i64 v) = logCells (l.set k { x with a := v }) := by
  induction l generalizing k with
  | nil => simp at h
  | cons y l ih =>
    cases k with
    | zero => simp at h; subst h; simp [logCells, Acc.cells]
    | succ k =>
      have e : (k + 1) * 6 + 1 = (k * 6 + 1) + 6 := by omega
      rw [e]
      have := ih (k := k) (by simpa using h)
      simp [logCells, Acc.cells] at this ⊢
      exact this
end Go.Lf
namespace Go.Proofs.Ytnfkjdmjgphghaa
open Go.RowKit Go.Lf

/-- What holds at each round's head: both memories, made since w. -/
def CallsInv (w : World) (b b' n m : Nat) (wr : World) : Prop :=
  ∃ F G ws log, PairAt wr b b' F G ws log ∧ Keep Nil w wr ∧ Foot w Nil (fun j => F j ∨ G j) ∧ ws.length = n ∧ log.length ≤ m ∧ ∀ v ∈ ws, U64 v

theorem CallsInv.next {w wr w1 : World} {b b' n m m' : Nat} {F G : Nat → Prop} (hk : Keep Nil w wr) (hf : Foot w Nil (fun j => F j ∨ G j)) (h : PairTo wr b b' F G n m w1) (hm : m ≤ m') : CallsInv w b b' n m' w1 := by
  obtain ⟨F', G', ws, log, hp, k1, f1, hn, hl, hu⟩ := h
  exact ⟨F', G', ws, log, hp, hk.trans k1 (fun j hj hF => by rcases hf j hF with h' | h'; exact h'; omega), hf.trans hk f1, hn, by omega, hu⟩
theorem CallsInv.quiet {w wr w1 : World} {b b' n m : Nat} (h : CallsInv w b b' n m wr) (hk : Keep Nil wr w1) : CallsInv w b b' n m w1 := by
  obtain ⟨F, G, ws, log, hp, k1, f1, r⟩ := h
  exact ⟨F, G, ws, log, hp.keep hk (fun _ _ h => h), k1.trans hk (fun _ _ h => h), f1, r⟩

set_option maxRecDepth 100000 in
set_option maxHeartbeats 4000000 in
theorem calls_ok (va vb : Value) (ws : List Int) (l : List Do) (fr : Int) (w : World) (h1 : Rd w 1 va ws.length (u64s ws)) (h2 : Rd w 5 vb l.length (doCells l)) (h0 : 0 < ws.length) (hm : ws.length ≤ 300) (hl : l.length ≤ 200)
    (hu : ∀ v ∈ ws, U64 v) (hd : ∀ x ∈ l, x.wf) : Calls Try.prog 7 #[va, vb, .int .i64 fr] w fun e w' => e = .returned (.bool true) ∧ Keep Nil w w' := by
  obtain ⟨a, c, rfl, -, -⟩ := id h1
  obtain ⟨a2, c2, rfl, -, -⟩ := id h2
  have d2 : decide (300 < (ws.length : Int)) = false := decide_eq_false (by omega)
  have d3 : decide (200 < (l.length : Int)) = false := decide_eq_false (by omega)
  have H1 := hid h1
  have H2 := hid h2
  have HU := hid hu
  have HD := hid hd
  clear h1 h2 hu hd
  go_enter Try.func7, Try.ntmps7
  go_wp2_with (at_builtin; refine wpList_app _ rfl (.tmp 25) (.tmp 26) 22 rfl 39 _ 1 8 Try.underlying22 infoU64 rfl (by decide) (.slice (some ⟨w.heap.size, 0, none⟩) 0 0) 0 [] rfl ?own (.slice a ws.length c) ws.length (u64s ws) rfl ?rd ?one ?byt ?len ?_)
  case own => exact empty_row w _ _
  case rd => exact rd_keep H1.out (Keep.alloc (Keep.refl Nil _) _) (fun _ _ h => h)
  case one => exact u64s_one _
  case byt => omega
  case len => unfold maxLen; omega
  intro oa oc w1 ho hg hs
  have k1 : Keep Nil w w1 := Keep.grown (Keep.alloc (Keep.refl _ _) _) hg (fun j hj => .inr (by simp [Value.ownBlock] at hj; omega))
  obtain ⟨og, rfl⟩ : ∃ g, oa = some ⟨g, 0, none⟩ := by
    rcases ho.2 with ⟨_, hz⟩ | ⟨g, cap, cur, hv, _⟩
    · omega
    · simp only [Value.slice.injEq] at hv; exact ⟨g, hv.1⟩
  have hog : w.heap.size ≤ og := by
    rcases hs og rfl with h | h
    · simp [Value.ownBlock] at h; omega
    · simp at h; omega
  have K1 := hid k1
  have RO := hid ho
  clear ho hg hs k1
  go_wp2_with (go_at_call 11; refine (new_ok _ ws _ (row_rd RO.out) h0 (by omega)).mono ?_; rintro e w2 ⟨b, F, rfl, hmem, k2, f2⟩)
  have HMEM := hid hmem
  have K2 := hid k2
  have F2 := hid f2
  clear hmem k2 f2
  go_wp2_with fail
  refine (rnew_ok _ ws _ (rd_keep H1.out (K1.out.trans K2.out (fun _ _ h => h)) (fun _ _ h => h)) h0 (by omega)).mono ?_
  rintro e w3 ⟨b', G, rfl, href, k3, f3⟩
  have hpair : PairAt w3 b b' F G ws [] := ⟨HMEM.out.keep k3 (fun _ _ h => h), href, fun k hF hG => by rcases f3 k hG with h | h; exact h; have := HMEM.out.lt k hF; omega⟩
  have hFw : ∀ k, F k → w1.heap.size ≤ k := fun k hF => (F2.out k hF).elim (fun h => h.elim) id
  have hGw : ∀ k, G k → w2.heap.size ≤ k := fun k hG => (f3 k hG).elim (fun h => h.elim) id
  have hoz : og < w1.heap.size := (RO.out.lt og rfl).2
  have ro3 : w3.ownsRow 0 39 1 (.slice (some ⟨og, 0, none⟩) ws.length oc) ws.length (u64s ws) := row_keep RO.out (K2.out.trans k3 (fun _ _ h => h)) (fun _ _ h => h)
  have kk3 := (K1.out.trans K2.out (fun _ _ h => h)).trans k3 (fun _ _ h => h)
  have hz2 := K2.out.size
  have HP := hid hpair
  have FF := hid (show Foot w Nil (fun j => F j ∨ G j) from fun j hj => .inr (by have := K1.out.size; rcases hj with hj | hj; have := hFw j hj; omega; have := hGw j hj; omega))
  have NF := hid (show ∀ k, F k ∨ G k → ¬ k = og from fun k hk e => by subst e; rcases hk with hk | hk; have := hFw _ hk; omega; have := hGw _ hk; omega)
  have RO3 := hid ro3
  have KK3 := hid kk3
  clear hpair href k3 f3 hFw hGw ro3 kk3 hz2
  go_wp2
  go_loopw [12] (fun i wr => ∃ (k : Nat) (zs : List Int), k ≤ ws.length ∧ i = .int .i64 k ∧ zs.length = ws.length ∧ wr.ownsRow 0 39 1 (.slice (some ⟨og, 0, none⟩) ws.length oc) ws.length (u64s zs) ∧ Keep (fun j => j = og) w3 wr) (fun i _ => ws.length - (intOf i).toNat)
  case atStart => exact ⟨0, ws, Nat.zero_le _, rfl, rfl, RO3.out, Keep.refl _ _⟩
  case round =>
    obtain ⟨k, zs, hk, rfl, hzl, hro, hkk⟩ := hrel
    have HZL := hid hzl
    have HRO := hid hro
    have HKK := hid hkk
    clear hzl hro hkk
    by_cases hlt : k < ws.length
    · obtain ⟨x, hx⟩ : ∃ x, zs[k]? = some x := ⟨_, List.getElem?_eq_getElem (by have := HZL.out; omega)⟩
      have cx : wr.cell? ⟨og, k, none⟩ = some (.int .u64 x) := by rw [HRO.out.cellAt k (by omega)]; exact u64s_at hx
      have fx : wr.frozen? ⟨og, k, none⟩ = false := HRO.out.frozenAt k
      clear hx
      go_wp2
      go_roundw
      case rel => exact ⟨k + 1, zs.set k (IntKind.u64.wrap (x + 1)), by omega, by go_num, by rw [List.length_set]; exact HZL.out, by rw [← u64s_set]; exact (HRO.out.stored k _).1, Keep.setCell HKK.out (.inl rfl) _⟩
      case measure => simp [intOf]; omega
    · have hinv : CallsInv w b b' ws.length 0 wr := ⟨F, G, ws, [], HP.out.keep HKK.out (fun k hk => NF.out k hk), KK3.out.trans HKK.out (fun j hj e => by subst e; omega), FF.out, rfl, Nat.le_refl _, HU.out⟩
      have HI := hid hinv
      clear hinv
      go_wp2
      go_loopw [13] (fun i wr => ∃ (k : Nat), k ≤ l.length ∧ i = .int .i64 k ∧ CallsInv w b b' ws.length k wr) (fun i _ => l.length - (intOf i).toNat)
      case atStart => exact ⟨0, Nat.zero_le _, rfl, HI.out⟩
      case round =>
        obtain ⟨k, hk, rfl, F, G, cw, lg, hp, hkw, hff, hcl, hll, hcu⟩ := hrel
        have HP := hid hp
        have HKW := hid hkw
        have HFF := hid hff
        have HCL := hid hcl
        have HLL := hid hll
        have HCU := hid hcu
        clear hp hkw hff hcl hll hcu HI
        by_cases hlt : k < l.length
        · obtain ⟨x, hx⟩ : ∃ x, l[k]? = some x := ⟨_, List.getElem?_eq_getElem hlt⟩
          obtain ⟨lb, lo, lcc, hve, hlc⟩ := Rd.cell H2.out (by omega)
          simp only [Value.slice.injEq] at hve
          obtain ⟨rfl, -, rfl⟩ := hve
          have qw : ∀ j u, x.cells[j]? = some u → w.cell? ⟨lb, lo + k * 5 + j, none⟩ = some u := fun j u hu => by rw [Nat.add_assoc]; exact hlc (k * 5 + j) _ (doCells_at hx hu)
          have q : ∀ j u, x.cells[j]? = some u → wr.cell? ⟨lb, lo + k * 5 + j, none⟩ = some u := fun j u hu => HKW.out.cell (qw j u hu) (fun h => h)
          have e0 : wr.cell? ⟨lb, lo + k * 5, none⟩ = some (.int .u8 x.w) := q 0 _ rfl
          have e1 : wr.cell? ⟨lb, lo + k * 5 + 1, none⟩ = some (.int .i64 x.t) := q 1 _ rfl
          have e2 : wr.cell? ⟨lb, lo + k * 5 + 2, none⟩ = some (.int .i64 x.a) := q 2 _ rfl
          have e3 : wr.cell? ⟨lb, lo + k * 5 + 3, none⟩ = some (.int .u64 x.o) := q 3 _ rfl
          have e4 : wr.cell? ⟨lb, lo + k * 5 + 4, none⟩ = some (.int .u64 x.v) := q 4 _ rfl
          have hxw := HD.out x (List.mem_of_getElem? hx)
          have HXW := hid hxw
          have QW := hid qw
          have b0 : (0 : Int) ≤ (k : Int) := by omega
          have b1 : (k : Int) < (l.length : Int) := by omega
          have hkm : k < 100000000 := by omega
          clear hx hlc qw q hxw
          go_wp2
          go_region_with (first | (go_at_call 26; refine (call_any (m := k) (HP.out.keep (Keep.refl Nil _).drew (fun _ _ h => h)) x HXW.out HCU.out HLL.out hkm).mono ?_; rintro e w5 ⟨rfl, hto⟩; have hci := CallsInv.next (HKW.out.drew) HFF.out hto (Nat.le_refl _); obtain ⟨F5, G5, cw5, lg5, hp5, hk5, hf5, hn5, hm5, hu5⟩ := hci; obtain ⟨gw5, wc5, la5, lc5, hr5, hF5⟩ := hp5.ref.rep; have r1 := hr5.cell1; have P5 := hid hp5; have K5 := hid hk5; have FF5 := hid hf5; have N5 := hid (hn5.trans HCL.out); have M5 := hid hm5; have U5 := hid hu5; have R5 := hid hr5; clear hp5 hk5 hf5 hn5 hm5 hu5 hr5 hto) | (go_at_call 22; refine (len_ok P5.out.mem).mono ?_; rintro e w6 ⟨rfl, rfl⟩))
          all_goals
            have R5b := R5.out.cell0
            have hcw5 : cw5.length ≤ 1000000000 := by have := N5.out; omega
            go_wp2_with fail
            refine (words_ok P5.out.mem hcw5).mono ?_
            rintro e w7 ⟨g7, rfl, hg7, hz7, k7⟩
            have r0 := k7.cell R5b (fun h => h)
            have RD7 := hid (show Rd w7 1 (.slice (some ⟨g7, 0, none⟩) cw5.length cw5.length) cw5.length (u64s cw5) from rd_of_heap (size := 1) hg7 (by simp [length_u64s]))
            have RR7 := hid (rd_keep (row_rd R5.out.wrow) k7 (fun _ _ h => h))
            have HG7 := hid hg7
            have HZ7 := hid hz7
            have K7 := hid k7
            clear hg7 hz7 k7 R5b r1
            go_wp2_with fail
            refine (eqU_yes _ _ cw5 _ RD7.out RR7.out (by omega)).mono ?_
            rintro e w8 ⟨rfl, k8⟩
            have hg8 := k8.at HG7.out (fun h => h)
            have hc0 : 0 < cw5.length := by have := N5.out; omega
            have hc1 : (0 : Int) < (cw5.length : Int) := by omega
            obtain ⟨x0, hx0⟩ : ∃ x0, cw5[0]? = some x0 := ⟨_, List.getElem?_eq_getElem hc0⟩
            have v0 : w8.cell? ⟨g7, 0, none⟩ = some (.int .u64 x0) := by rw [cell_of hg8]; simpa using u64s_at hx0
            have f0 : w8.frozen? ⟨g7, 0, none⟩ = false := free_of hg8 _
            have K8 := hid k8
            have hz5 := K5.out.size
            have hst : ∀ u, CallsInv w b b' ws.length (k + 1) (w8.setCell ⟨g7, 0, none⟩ u) := by
              intro u
              obtain ⟨F8, G8, cw8, lg8, hp8, hk8, hf8, hr8⟩ := CallsInv.quiet (w := w) (b := b) (b' := b') (n := ws.length) (m := k + 1) ⟨F5, G5, cw5, lg5, P5.out, K5.out, FF5.out, N5.out, M5.out, U5.out⟩ (Keep.refl _ _)
              have kk := K7.out.trans K8.out (fun _ _ h => h)
              have ks : Keep (fun j => j = g7) _ (w8.setCell ⟨g7, 0, none⟩ u) := Keep.setCell (S := fun j => j = g7) (kk.mono (fun _ _ h => h.elim)) (.inl rfl) u
              exact ⟨F8, G8, cw8, lg8, hp8.keep ks (fun j hj e => by subst e; have h1 := hj.elim (hp8.mem.lt _) (hp8.ref.lt _); have h2 := HZ7.out; omega), hk8.trans ks (fun j hj e => by subst e; have h2 := HZ7.out; omega), hf8, hr8⟩
            have HST := hid hst
            clear k8 hg8 hx0 hst
            go_wp2
            go_roundw
            case rel => exact ⟨k + 1, by omega, by go_num, HST.out _⟩
            case measure => simp [intOf]; omega
        · obtain rfl : k = l.length := by omega
          have hlg : lg.length < 1000000000000 := by have := HLL.out; omega
          go_wp2_with fail
          refine (log_all HP.out.mem hlg).mono ?_
          rintro e w5 ⟨la, lc, rfl, rd5, k5, hfr⟩
          have hgh : ∀ g, la = some ⟨g, 0, none⟩ → 0 < lg.length → wr.heap.size ≤ g ∧ w5.heap[g]? = some (.cells (logCells lg).toArray 56 (0, 0)) := by
            intro g hg h0
            obtain ⟨g', e, h1, h2⟩ := hfr h0
            rw [hg] at e
            simp only [Option.some.injEq, Addr.mk.injEq, and_true] at e
            subst e
            exact ⟨h1, h2⟩
          have hsome : 0 < lg.length → ∃ g, la = some ⟨g, 0, none⟩ := fun h0 => by obtain ⟨g', e, _⟩ := hfr h0; exact ⟨g', e⟩
          have HGH := hid hgh
          have HSO := hid hsome
          have K5 := hid k5
          clear rd5 k5 hfr hgh hsome
          go_wp2
          go_loopw [16] (fun i wx => ∃ (j : Nat) (zs : List Acc), j ≤ lg.length ∧ i = .int .i64 j ∧ zs.length = lg.length ∧ (∀ g, la = some ⟨g, 0, none⟩ → 0 < lg.length → wx.heap[g]? = some (.cells (logCells zs).toArray 56 (0, 0))) ∧ Keep (fun j => la = some ⟨j, 0, none⟩ ∧ 0 < lg.length) w5 wx) (fun i _ => lg.length - (intOf i).toNat)
          case atStart => exact ⟨0, lg, Nat.zero_le _, rfl, rfl, fun g hg h0 => (HGH.out g hg h0).2, Keep.refl _ _⟩
          case round =>
            obtain ⟨wo, rfl⟩ : ∃ wo : World, wo = wr := ⟨_, rfl⟩
            obtain ⟨j, zs, hj, rfl, hzl, hrow, hk6⟩ := hrel
            have HZL := hid hzl
            have HROW := hid hrow
            have K6 := hid hk6
            clear hzl hrow hk6
            by_cases hjl : j < lg.length
            · obtain ⟨g, rfl⟩ := HSO.out (by omega)
              have hg := HROW.out g rfl (by omega)
              obtain ⟨y, hy⟩ : ∃ y, zs[j]? = some y := ⟨_, List.getElem?_eq_getElem (by have := HZL.out; omega)⟩
              have y1 : wo.cell? ⟨g, j * 6 + 1, none⟩ = some (.int .i64 y.a) := by rw [cell_of hg]; simpa using logCells_at hy (show y.cells[1]? = some (.int .i64 y.a) from rfl)
              have yf : wo.frozen? ⟨g, j * 6 + 1, none⟩ = false := free_of hg _
              have HGG := hid hg
              have HYY := hid hy
              clear hg hy
              go_wp2
              go_roundw
              case rel => exact ⟨j + 1, zs.set j { y with a := -1 }, by omega, by go_num, by rw [List.length_set]; exact HZL.out, fun g' hg' _ => by simp only [Option.some.injEq, Addr.mk.injEq, and_true] at hg'; subst hg'; rw [set_same HGG.out, ← logCells_set1 HYY.out]; simp, Keep.setCell K6.out (.inl ⟨rfl, by omega⟩) _⟩
              case measure => simp [intOf]; omega
            · have kf : Keep (fun j => la = some ⟨j, 0, none⟩ ∧ 0 < lg.length) _ wo := (K5.out.mono (fun _ _ h => h.elim)).trans K6.out (fun _ _ h => h)
              have hpf := HP.out.keep kf (fun j hj e => by have h1 := (HGH.out j e.1 e.2).1; have h2 := hj.elim (HP.out.mem.lt j) (HP.out.ref.lt j); omega)
              have kww : Keep Nil w wo := HKW.out.trans kf (fun j hj e => by have h1 := (HGH.out j e.1 e.2).1; have h2 := HKW.out.size; omega)
              have HF := hid hpf
              have KWW := hid kww
              obtain ⟨gw9, wc9, la9, lc9, hr9, hF9⟩ := HF.out.ref.rep
              have s0 := hr9.cell0
              have s1 := hr9.cell1
              have HR9 := hid hr9
              have hcw9 : cw.length ≤ 1000000000 := by have := HCL.out; omega
              have e00 : logFrom lg 0 = lg := by rw [logFrom_in (Int.le_refl _)]; rfl
              have E00 := hid e00
              have hl9 : lg.length ≤ 1000000000000 := by omega
              have hlf : (logFrom lg fr).length ≤ 1000000000000 := by unfold logFrom; split; rw [List.length_drop]; omega; simp
              have tok1 : True := trivial
              have tok2 : True := trivial
              clear kf hpf kww hr9 e00
              go_wp2
              go_region_held3 (fun w' => w'.cell? ⟨b', 0, none⟩ = some (.slice (some ⟨gw9, 0, none⟩) cw.length wc9) ∧ w'.cell? ⟨b', 1, none⟩ = some (.slice la9 lg.length lc9)) (go_keep)
                (first
                  | (go_at_call 13; refine (words_ok (HF.out.keep (Keep.refl Nil wo).drew (fun _ _ h => h)).mem hcw9).mono ?_; rintro e wA ⟨gA, rfl, hgA, _, kA'⟩; have kA : Keep Nil wo wA := (Keep.refl Nil wo).drew.trans kA' (fun _ _ h => h); have pA0 := kA.cell s0 (fun h => h); have pA1 := kA.cell s1 (fun h => h); have rdA : Rd wA 1 (.slice (some ⟨gA, 0, none⟩) cw.length cw.length) cw.length (u64s cw) := rd_of_heap (size := 1) hgA (by simp [length_u64s]); have RA := hid rdA; clear hgA rdA kA')
                  | (go_at_call 17; refine (eqU_yes _ _ cw _ RA.out (rd_keep (row_rd HR9.out.wrow) kA (fun _ _ h => h)) (by omega)).mono ?_; rintro e wB ⟨rfl, kB'⟩; have kB : Keep Nil wo wB := kA.trans kB' (fun _ _ h => h); have pB0 := kB.cell s0 (fun h => h); have pB1 := kB.cell s1 (fun h => h); clear kB')
                  | (go_at_call 25; have _t := tok1; refine (log_from (HF.out.mem.keep kB (fun _ _ h => h)) 0 hlg).mono ?_; rintro e wC ⟨vC, rfl, rC, kC'⟩; have kC : Keep Nil wo wC := kB.trans kC' (fun _ _ h => h); have pC0 := kC.cell s0 (fun h => h); have pC1 := kC.cell s1 (fun h => h); rw [E00.out] at rC; have RC := hid rC; clear kC' rC tok1)
                  | (go_at_call 27; have _t := tok2; refine (eqA_yes _ _ lg _ RC.out (rd_keep (row_rd HR9.out.lrow) kC (fun _ _ h => h)) hl9).mono ?_; rintro e wD ⟨rfl, kD'⟩; have kD : Keep Nil wo wD := kC.trans kD' (fun _ _ h => h); have pD0 := kD.cell s0 (fun h => h); have pD1 := kD.cell s1 (fun h => h); clear kD' tok2)
                  | (go_at_call 25; refine (log_from (HF.out.mem.keep kD (fun _ _ h => h)) fr hlg).mono ?_; rintro e wE ⟨vE, rfl, rE, kE'⟩; have kE : Keep Nil wo wE := kD.trans kE' (fun _ _ h => h); have pE0 := kE.cell s0 (fun h => h); have pE1 := kE.cell s1 (fun h => h); have RE := hid rE; clear kE' rE)
                  | (go_at_call 28; refine (rlog_from (HF.out.ref.keep kE (fun _ _ h => h)) fr hlg).mono ?_; rintro e wG ⟨vG, rfl, rG, kG'⟩; have kG : Keep Nil wo wG := kE.trans kG' (fun _ _ h => h); have pG0 := kG.cell s0 (fun h => h); have pG1 := kG.cell s1 (fun h => h); have RE2 := hid (rd_keep RE.out kG' (fun _ _ h => h)); have RG := hid rG; clear kG' rG)
                  | (go_at_call 27; refine (eqA_yes _ _ (logFrom lg fr) _ RE2.out RG.out hlf).mono ?_; rintro e wH ⟨rfl, kH'⟩; have kH : Keep Nil wo wH := kG.trans kH' (fun _ _ h => h); have pH0 := kH.cell s0 (fun h => h); have pH1 := kH.cell s1 (fun h => h); clear kH'))
              go_wp2
              go_ret
              exact ⟨rfl, KWW.out.trans kH (fun _ _ h => h)⟩

set_option maxRecDepth 100000 in
set_option maxHeartbeats 1000000 in
theorem walk_calls (w : World) (va : Value) (ws : List Int) (h1 : Rd w 1 va ws.length (u64s ws)) (b1 : ∀ n ∈ ws, (Lit.int .u64 n).wf = true) (m1 : ws.length ≤ maxLen)
    (vb : Value) (l : List Do) (h2 : Rd w 5 vb l.length (doCells l)) (b2 : ∀ x ∈ l, Do.wf x) (m2 : l.length ≤ maxLen) (fr : Int) (_bf : (Lit.int .i64 fr).wf = true) :
    Calls Try.prog 7 #[va, vb, .int .i64 fr] w fun e w' => e = .returned (.bool true) ∧ Keep Nil w w' := by
  unfold maxLen at m1 m2
  by_cases hn1 : 300 < ws.length
  · obtain ⟨a, c, rfl, -, -⟩ := h1
    obtain ⟨a2, c2, rfl, -, -⟩ := h2
    have d1 : decide (300 < (ws.length : Int)) = true := decide_eq_true (by omega)
    clear hn1 b1 b2
    go_enter Try.func7, Try.ntmps7
    go_wp2
    go_ret
    exact ⟨rfl, Keep.refl _ _⟩
  have d1 : decide (300 < (ws.length : Int)) = false := decide_eq_false (by omega)
  by_cases hn2 : 200 < l.length
  · obtain ⟨a, c, rfl, -, -⟩ := h1
    obtain ⟨a2, c2, rfl, -, -⟩ := h2
    have d2 : decide (200 < (l.length : Int)) = true := decide_eq_true (by omega)
    clear hn1 hn2 b1 b2
    go_enter Try.func7, Try.ntmps7
    go_wp2
    go_ret
    exact ⟨rfl, Keep.refl _ _⟩
  by_cases hn0 : ws.length = 0
  · obtain rfl : ws = [] := List.eq_nil_of_length_eq_zero hn0
    have d2 : decide (200 < (l.length : Int)) = false := decide_eq_false (by omega)
    obtain ⟨a, c, rfl, -, -⟩ := id h1
    obtain ⟨a2, c2, rfl, -, -⟩ := h2
    have H1 := hid h1
    simp only [List.length_nil] at d1 ⊢
    clear hn0 hn1 hn2 b1 b2 h1
    go_enter Try.func7, Try.ntmps7
    go_wp2_with (at_builtin; refine wpList_app _ rfl (.tmp 25) (.tmp 26) 22 rfl 39 _ 1 8 Try.underlying22 infoU64 rfl (by decide) (.slice (some ⟨w.heap.size, 0, none⟩) 0 0) 0 [] rfl ?own (.slice a 0 c) 0 [] rfl ?rd ?one ?byt ?len ?_)
    case own => exact empty_row w _ _
    case rd => exact rd_keep H1.out (Keep.alloc (Keep.refl Nil _) _) (fun _ _ h => h)
    case one => simp
    case byt => omega
    case len => unfold maxLen; omega
    intro oa oc w1 ho hg hs
    have k1 : Keep Nil w w1 := Keep.grown (Keep.alloc (Keep.refl _ _) _) hg (fun j hj => .inr (by simp [Value.ownBlock] at hj; omega))
    have K1 := hid k1
    clear ho hg hs k1
    go_wp2_with (first | (go_at_call 11; refine (new_err _ _ _ _ (.inl rfl) (Nat.zero_le _)).mono ?_; rintro e w2 ⟨rfl, rfl⟩) | (go_at_call 12; refine (rnew_err _ _ _ _ (.inl rfl) (Nat.zero_le _)).mono ?_; rintro e w2 ⟨rfl, rfl⟩))
    go_ret
    exact ⟨rfl, K1.out⟩
  exact calls_ok va vb ws l fr w h1 h2 (by omega) (by omega) (by omega) (fun v hv => U64.of_wf (b1 v hv)) b2
end Go.Proofs.Ytnfkjdmjgphghaa
