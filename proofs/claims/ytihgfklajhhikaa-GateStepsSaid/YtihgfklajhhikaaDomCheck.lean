
/- domain: Check, ascending, count, Values; and those of the reference: contracts. -/
import Derived.Test.YtihgfklajhhikaaProg
import Derived.Test.YtihgfklajhhikaaPlain
import Derived.Test.YtihgfklajhhikaaDomMap
import Derived.Deep.QuietTactic
namespace Go.Proofs.Ytihgfklajhhikaa
open Go.RowKit Go.Lf

/-- A map as a value. -/
def dv (d : Dom) (a : Option Addr) (c : Nat) : Value := .agg #[.int .u8 d.k, .int .i64 d.n, .slice a d.cuts.length c]

section
variable {cuts : List Int} {a : Option Addr} {c : Nat} {w : World}

theorem rd_cut (hrd : Rd w 1 (.slice a cuts.length c) cuts.length (u64s cuts)) {i : Nat} (hi : i < cuts.length) : ∃ b off, a = some ⟨b, off, none⟩ ∧ ∀ j, j < cuts.length → w.cell? ⟨b, off + j, none⟩ = some (.int .u64 (gcut cuts j)) := by
  obtain ⟨b, off, c', hv, hc⟩ := Rd.cell hrd (by omega)
  simp only [Value.slice.injEq] at hv
  exact ⟨b, off, hv.1, fun j hj => hc j _ (u64s_at (gcut_at hj))⟩

end

section
variable {a : Option Addr} {c : Nat} {w : World}

end
end Go.Proofs.Ytihgfklajhhikaa
