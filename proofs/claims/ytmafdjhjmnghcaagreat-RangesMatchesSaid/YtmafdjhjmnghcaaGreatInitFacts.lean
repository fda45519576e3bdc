/- The words of a new store: bounds, zeros. Plain. -/
import Derived.Test.YtmafdjhjmnghcaaGreatLayPlain
import Derived.Test.YtmafdjhjmnghcaaGreatSmallOk
import Derived.Test.YtmafdjhjmnghcaaGreatStoreEx
set_option linter.unusedVariables false
set_option linter.unusedSimpArgs false
namespace Go.Lf
theorem nx_le (h : Nat) (l : List Nat) : ∀ m, nx h m l ≤ m + l.length := by
  induction l with
  | nil => intro m; simp [nx]
  | cons x l ih =>
    intro m
    have := ih (m + 1)
    simp only [nx, List.length_cons]
    split <;> omega
theorem Cfg.fin_le (c : Cfg) (a : Nat) : c.fin 0 c.hs a ≤ c.nT := by
  have hT : c.hs.length = c.nT := rfl
  have h2 := c.le2
  unfold Cfg.fin
  split
  · have := nx_le (a - c.pools + 1) c.hs 0; omega
  · split
    · rw [if_neg (by omega)]
      split
      · rename_i h _
        have := nx_le h (c.hs.drop (a - c.links - 0 + 1)) (a - c.links + 1)
        rw [List.length_drop] at this
        omega
      · omega
    · omega
theorem Cfg.fin_zero (c : Cfg) {a : Nat} (h : a < c.pools) : c.fin 0 c.hs a = 0 := by
  have h1 := c.le1
  unfold Cfg.fin
  rw [if_neg (by omega), if_neg (by omega)]
theorem init_wf {c : Cfg} (h : c.ok) : ∀ x ∈ ints c.init, 0 ≤ x ∧ x < 18446744073709551616 := by
  intro x hx
  have hn := h.nT
  unfold ints Cfg.init fill at hx
  obtain ⟨y, hy, rfl⟩ := List.mem_map.1 hx
  obtain ⟨a, -, rfl⟩ := List.mem_map.1 hy
  have := c.fin_le a
  show 0 ≤ ((c.fin 0 c.hs a : Nat) : Int) ∧ ((c.fin 0 c.hs a : Nat) : Int) < _
  omega
theorem init_zero (c : Cfg) {a : Nat} (h : a < c.pools) : (ints c.init)[a]? = some 0 := by
  have h1 := c.le1
  have h2 := c.le2
  have h3 := c.le3
  unfold ints Cfg.init
  rw [List.getElem?_map, fill_at _ (by omega), c.fin_zero h]; rfl
theorem init_length (c : Cfg) : (ints c.init).length = c.words := by
  unfold ints; rw [List.length_map, c.init_len]
theorem Cfg.sl_pools (c : Cfg) : c.sl ≤ c.pools := by
  unfold Cfg.pools Cfg.descs Cfg.locks Cfg.master Cfg.engine; omega
theorem Cfg.sl_words (c : Cfg) : c.sl ≤ c.words := by
  have := c.sl_pools; have := c.le1; have := c.le2; have := c.le3; omega
theorem set_wf {ws : List Int} (h : ∀ x ∈ ws, 0 ≤ x ∧ x < 18446744073709551616) {v : Int} (hv : 0 ≤ v ∧ v < 18446744073709551616) (i : Nat) : ∀ x ∈ ws.set i v, 0 ≤ x ∧ x < 18446744073709551616 := by
  intro x hx
  rcases List.mem_or_eq_of_mem_set hx with hx | rfl
  · exact h x hx
  · exact hv
end Go.Lf

/-! A store of a small configuration is made: arguments that are kept. -/
set_option linter.unusedVariables false
set_option linter.unusedSimpArgs false
namespace Go.Proofs.YtmafdjhjmnghcaaGreat
open Go.RowKit Go.Lf
theorem ConfArg.keep {w w' : World} {z : ConfV} (h : ConfArg w z) (hk : Keep Nil w w') : ConfArg w' z :=
  { h with rd := rd_keep h.rd hk (fun _ _ h => h) }
theorem small_new {w : World} (z : ConfV) {a : Option Addr} {cp : Nat} (hrd : Rd w 1 (.slice a z.c.d.cuts.length cp) z.c.d.cuts.length (u64s z.c.d.cuts)) :
    Calls Tryz.prog 18 #[cfgV z.c (z.t1 % 7).toNat (z.t2 % 7).toNat (z.t3 % 7).toNat (z.t4 % 7).toNat (z.t5 % 7).toNat (z.t6 % 7).toNat a cp] w (BNewTo w z.c) :=
  bnew_ok z.c z.ok _ _ _ _ _ _ rfl a cp hrd
theorem ConfV.sl_rng (z : ConfV) : 1 ≤ z.c.sl ∧ z.c.sl ≤ 5 := ⟨z.ok.sl1, smallC_sl ..⟩
end Go.Proofs.YtmafdjhjmnghcaaGreat
