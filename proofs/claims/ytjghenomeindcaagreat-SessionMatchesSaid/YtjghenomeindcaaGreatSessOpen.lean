/- the statements on sessions: open. -/
import Derived.Test.YtjghenomeindcaaGreatSessCl
set_option linter.unusedVariables false
set_option linter.unusedSimpArgs false
namespace Go.Lf
/-- What opening a session does. -/
def OSpec (n : Nat) (ws : List Int) (t : Int) (s st err : Int) (ws' : List Int) : Prop :=
  (∃ k, k < n ∧ ws[k]? = some 0 ∧ (∀ j, j < k → ∃ x, ws[j]? = some x ∧ x ≠ 0) ∧ s = (k : Int) ∧ st = (k : Int) + 1 ∧ err = 0 ∧ ws' = ws.set k (t + 1)) ∨
  ((∀ j, j < n → ∃ x, ws[j]? = some x ∧ x ≠ 0) ∧ s = 0 ∧ st = (n : Int) ∧ err = 10 ∧ ws' = ws)
/-- An opening after so many steps. -/
def OPh (n : Nat) (ws : List Int) (t : Int) (k : Nat) (s : OS) (ws' : List Int) : Prop :=
  (k < n ∧ s = ⟨List.range' k (n - k), 0, 0⟩ ∧ ws' = ws ∧ ∀ j, j < k → ∃ x, ws[j]? = some x ∧ x ≠ 0) ∨ (s.left = [] ∧ OSpec n ws t s.slot (k : Int) s.err ws')
end Go.Lf
namespace Go.Proofs.YtjghenomeindcaaGreat
open Go.RowKit Go.Lf
structure OR (w wr : World) (A : Nat → Prop) (c : Cfg) (b mb o : Nat) (t : Int) (ws : List Int) (log : List Acc) (k : Nat) : Prop where
  ex : ∃ A' ws' log' s a cp, (StoreL c b mb).lie wr A' (ws', log') ∧ OpenAt wr o b t s a cp ∧ Keep A w wr ∧ Foot w A A' ∧ ¬ A' o ∧ (∀ j, (Value.slice a s.left.length cp).ownBlock = some j → ¬ A' j ∧ w.heap.size ≤ j) ∧ w.heap.size ≤ o ∧ log'.length ≤ log.length + k ∧ OPh c.sl ws t k s ws'
section
variable {w wr w' : World} {A A' : Nat → Prop} {c : Cfg} {b mb o : Nat} {t : Int} {ws ws' ws2 : List Int} {log log' log2 : List Acc} {k : Nat} {s s2 : OS} {a : Option Addr} {cp : Nat}
theorem OR.step (hlie : (StoreL c b mb).lie wr A' (ws', log')) (ho : OpenAt wr o b t s a cp) (hk : Keep A w wr) (hf : Foot w A A') (hA : ¬ A' o) (hB : ∀ j, (Value.slice a s.left.length cp).ownBlock = some j → ¬ A' j ∧ w.heap.size ≤ j) (ho0 : w.heap.size ≤ o) (hl : log2.length ≤ log.length + (k + 1))
    (hs : SStepTo wr A' c b mb ws2 log2 o t s2 (.slice a s.left.length cp) w') (hp : OPh c.sl ws t (k + 1) s2 ws2) :
    OR w w' A c b mb o t ws log (k + 1) ∧ ∃ a2 cp2, OpenAt w' o b t s2 a2 cp2 := by
  obtain ⟨A2, a2, cp2, h1, h2, h3, h4, h5⟩ := hs
  have hz := hk.size
  have hoz := lt_of_block ho.head
  refine ⟨⟨A2, ws2, log2, s2, a2, cp2, h1, h2, hk.trans h3 (fun k hlt e => e.elim (fun e => (hf k e).elim id (fun e => by omega)) (fun e => by omega)), fun k e => (h4 k e).elim (hf k) (fun e => .inr (by omega)), fun e => (h4 o e).elim hA (fun e => by omega), fun j e => ?_, ho0, hl, hp⟩, a2, cp2, h2⟩
  have hj := h5 j e
  exact ⟨fun e2 => (h4 j e2).elim (hB j hj).1 (fun e2 => by have := (ho.blk j hj).1; omega), (hB j hj).2⟩
def SOpnTo (w : World) (A : Nat → Prop) (c : Cfg) (b mb : Nat) (ws : List Int) (log : List Acc) (t : Int) (e : Ending) (w' : World) : Prop :=
  ∃ s st err ws' log', e = .returned (.tuple #[.int .i64 s, .int .i64 st, .int .i64 err]) ∧ (StoreL c b mb).To w A (ws', log') w' ∧ OSpec c.sl ws t s st err ws' ∧ log'.length ≤ log.length + 64
set_option maxRecDepth 100000 in
set_option maxHeartbeats 8000000 in
theorem open_ok (h : (StoreL c b mb).lie w A (ws, log)) (hok : c.ok) (hlen : c.sl ≤ ws.length) (t0 : 0 ≤ t) (t1 : t < 64) (hlog : log.length < 100000000000) : Calls Tryz.prog 16 #[.pointer (some ⟨b, 0, none⟩), .int .i64 t] w (SOpnTo w A c b mb ws log t) := by
  obtain ⟨L, F, G, hsp⟩ := h
  have H := hid hsp
  have HOK := hid hok
  have hsl := hok.sl2
  have hsl1 := hid hok.sl1
  clear hok hsp
  go_enter Tryz.func16, Tryz.ntmps16
  go_wp2_with fail
  refine (snew_ok H.out HOK.out t t0 t1).mono ?_
  rintro e w1 ⟨o, a, cp, rfl, hO, hk, ho, hb⟩
  have HOR := hid (show OR w w1 A c b mb o t ws log 0 from ⟨A, ws, log, ⟨List.range c.sl, 0, 0⟩, a, cp, ⟨L, F, G, H.out.quiet hk⟩, hO, hk.mono (fun _ _ h => h.elim), fun _ h => .inl h, fun e => by have := H.out.lt o e; omega, fun j e => by
      have e' : (Value.slice a c.sl cp).ownBlock = some j := by have e2 := e; simp only [List.length_range] at e2; exact e2
      exact ⟨fun e2 => by have := H.out.lt j e2; have := hb j e'; omega, hb j e'⟩, ho, Nat.le_refl _, .inl ⟨hsl1.out, by rw [List.range_eq_range', Nat.sub_zero], rfl, fun j hj => by omega⟩⟩)
  clear hO hk ho hb
  go_wp2
  go_loopw [5] (fun i wr => ∃ k : Nat, k ≤ c.sl ∧ i = .int .i64 k ∧ OR w wr A c b mb o t ws log k) (fun i _ => c.sl + 1 - (intOf i).toNat)
  case atStart => exact ⟨0, Nat.zero_le _, rfl, HOR.out⟩
  case round =>
    obtain ⟨k, hk, rfl, ⟨A', ws', log', s, a, cp, hlie, hO, hkk, hf, hA, hB, ho0, hl, hp⟩⟩ := hrel
    have dk : decide ((k : Int) < 100) = true := decide_eq_true (by omega)
    have wk : IntKind.i64.wrap ((k : Int) + 1) = (k : Int) + 1 := by rw [IntKind.wrap_i64]; omega
    rcases hp with ⟨hlt, rfl, rfl, hnz⟩ | ⟨hleft, hspec⟩
    · obtain ⟨L', F', G', hsp⟩ := hlie
      obtain ⟨n, hn⟩ : ∃ n, c.sl - k = n + 1 := ⟨c.sl - k - 1, by omega⟩
      obtain ⟨x, hx⟩ : ∃ x, ws'[k]? = some x := ⟨_, List.getElem?_eq_getElem (by omega)⟩
      have hO' : OpenAt wr o b t ⟨k :: List.range' (k + 1) n, 0, 0⟩ a cp := by rw [hn] at hO; exact hO
      have hB' : ∀ j, (Value.slice a (k :: List.range' (k + 1) n).length cp).ownBlock = some j → ¬ A' j ∧ w.heap.size ≤ j := by rw [hn] at hB; exact hB
      have HO := hid hO'
      have HB := hid hB'
      have HSP := hid hsp
      have HKK := hid hkk
      have HF := hid hf
      have HA := hid hA
      have HL := hid hl
      have HX := hid hx
      have HNZ := hid hnz
      have HO0 := hid ho0
      have HLT := hid hlt
      have HN := hid hn
      have hkb : k ≤ 64 := by omega
      have hll : log'.length < 1000000000000 := by omega
      clear hO hO' hB hB' hsp hkk hf hA hl hx hnz ho0 hk hlt hn
      go_wp2_with fail
      refine (snext_own t HO.out (by simp)).mono ?_
      rintro e w2 ⟨rfl, rfl⟩
      go_wp2_with fail
      by_cases hx0 : x = 0
      · subst hx0
        have hspec : OPh c.sl ws' t (k + 1) ⟨[], (k : Int), 0⟩ (ws'.set k (t + 1)) := .inr ⟨rfl, .inl ⟨k, HLT.out, HX.out, HNZ.out, rfl, by push_cast; rfl, rfl, rfl⟩⟩
        have fin : ∀ w3 : World, SStepTo wr A' c b mb (ws'.set k (t + 1)) (log' ++ [⟨t, k, 4, 0, t + 1, true⟩]) o t ⟨[], (k : Int), 0⟩ (.slice a (k :: List.range' (k + 1) n).length cp) w3 → OR w w3 A c b mb o t ws' log (k + 1) ∧ ∃ a2 cp2, OpenAt w3 o b t ⟨[], (k : Int), 0⟩ a2 cp2 := fun w3 hs =>
          OR.step ⟨L', F', G', HSP.out⟩ HO.out HKK.out HF.out HA.out HB.out HO0.out (by have := HL.out; simp; omega) hs hspec
        have HFIN := hid fin
        clear fin hspec
        by_cases hn0 : n = 0
        · subst hn0
          refine (sstep_yes0 HSP.out HO.out HA.out (fun j e => (HB.out j e).1) t0 t1 hkb HX.out hll).mono ?_
          rintro e w3 ⟨rfl, hs⟩
          obtain ⟨hor, a2, cp2, ho2⟩ := HFIN.out _ hs
          have HOR2 := hid hor
          have HO2 := hid ho2
          clear hs hor ho2
          go_wp2_with fail
          refine (snext_idle 0 t HO2.out rfl).mono ?_
          rintro e w4 ⟨rfl, rfl⟩
          go_wp2
          go_roundw
          case rel => exact ⟨k + 1, by have := HLT.out; omega, by go_num, HOR2.out⟩
          case measure => have := HLT.out; simp [intOf]; omega
        · refine (sstep_yes1 HSP.out (by simp; omega) HO.out HA.out (fun j e => (HB.out j (by simpa using e)).1) t0 t1 hkb HX.out hll).mono ?_
          rintro e w3 ⟨rfl, hs⟩
          obtain ⟨hor, a2, cp2, ho2⟩ := HFIN.out _ hs
          have HOR2 := hid hor
          have HO2 := hid ho2
          clear hs hor ho2
          go_wp2_with fail
          refine (snext_idle 0 t HO2.out rfl).mono ?_
          rintro e w4 ⟨rfl, rfl⟩
          go_wp2
          go_roundw
          case rel => exact ⟨k + 1, by have := HLT.out; omega, by go_num, HOR2.out⟩
          case measure => have := HLT.out; simp [intOf]; omega
      · by_cases hn0 : n = 0
        · subst hn0
          have hall : ∀ j, j < c.sl → ∃ x, ws'[j]? = some x ∧ x ≠ 0 := fun j hj => by
            have := HN.out
            rcases Nat.lt_or_ge j k with h | h
            · exact HNZ.out j h
            · obtain rfl : j = k := by omega
              exact ⟨x, HX.out, hx0⟩
          have hspec : OPh c.sl ws' t (k + 1) ⟨[], 0, 10⟩ ws' := .inr ⟨rfl, .inr ⟨hall, rfl, by have := HN.out; have := HLT.out; omega, rfl, rfl⟩⟩
          refine (sstep_no0 HSP.out HO.out HA.out (fun j e => (HB.out j e).1) t0 t1 hkb HX.out (hid hx0) hll).mono ?_
          rintro e w3 ⟨rfl, hs⟩
          obtain ⟨hor, a2, cp2, ho2⟩ := OR.step (log := log) ⟨L', F', G', HSP.out⟩ HO.out HKK.out HF.out HA.out HB.out HO0.out (by have := HL.out; simp; omega) hs hspec
          have HOR2 := hid hor
          have HO2 := hid ho2
          clear hs hor ho2 hall hspec
          go_wp2_with fail
          refine (snext_idle 0 t HO2.out rfl).mono ?_
          rintro e w4 ⟨rfl, rfl⟩
          go_wp2
          go_roundw
          case rel => exact ⟨k + 1, by have := HLT.out; omega, by go_num, HOR2.out⟩
          case measure => have := HLT.out; simp [intOf]; omega
        · have hspec : OPh c.sl ws' t (k + 1) ⟨List.range' (k + 1) n, 0, 0⟩ ws' := .inl ⟨by have := HN.out; omega, by rw [show c.sl - (k + 1) = n by have := HN.out; omega], rfl, fun j hj => by
            rcases Nat.lt_or_ge j k with h | h
            · exact HNZ.out j h
            · obtain rfl : j = k := by omega
              exact ⟨x, HX.out, hx0⟩⟩
          refine (sstep_no1 HSP.out (by simp; omega) HO.out HA.out (fun j e => (HB.out j (by simpa using e)).1) t0 t1 hkb HX.out (hid hx0) hll).mono ?_
          rintro e w3 ⟨rfl, hs⟩
          obtain ⟨hor, a2, cp2, ho2⟩ := OR.step (log := log) ⟨L', F', G', HSP.out⟩ HO.out HKK.out HF.out HA.out HB.out HO0.out (by have := HL.out; simp; omega) hs hspec
          have HOR2 := hid hor
          have HO2 := hid ho2
          clear hs hor ho2 hspec
          go_wp2_with fail
          refine (snext_own t HO2.out (by simp; omega)).mono ?_
          rintro e w4 ⟨rfl, rfl⟩
          go_wp2
          go_roundw
          case rel => exact ⟨k + 1, by have := HLT.out; omega, by go_num, HOR2.out⟩
          case measure => have := HLT.out; simp [intOf]; omega
    · have HO := hid hO
      have HLEFT := hid hleft
      have HSPEC := hid hspec
      have HTO := hid (show (StoreL c b mb).To w A (ws', log') wr from ⟨A', hlie, hkk, hf⟩)
      have HL := hid hl
      clear hO hleft hspec hlie hkk hf hA hB ho0 hl
      go_wp2_with fail
      refine (snext_idle 0 t HO.out (by rw [HLEFT.out]; rfl)).mono ?_
      rintro e w2 ⟨rfl, rfl⟩
      go_wp2_with fail
      refine (sres_done t HO.out (by rw [HLEFT.out]; rfl)).mono ?_
      rintro e w3 ⟨rfl, hk3⟩
      have HK3 := hid hk3
      clear hk3
      go_wp2
      go_ret3
      obtain ⟨A2, h1, h2, h3⟩ := HTO.out
      obtain ⟨L2, F2, G2, h4⟩ := h1
      exact ⟨s.slot, k, s.err, ws', log', rfl, ⟨A2, ⟨L2, F2, G2, h4.quiet HK3.out⟩, h2.trans HK3.out (fun _ _ h => h.elim), h3⟩, HSPEC.out, by have := HL.out; omega⟩
end
end Go.Proofs.YtjghenomeindcaaGreat
