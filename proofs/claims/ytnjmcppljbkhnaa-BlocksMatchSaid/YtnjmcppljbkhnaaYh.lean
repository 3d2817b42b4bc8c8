import Derived.Test.YtnjmcppljbkhnaaYg
set_option linter.unusedVariables false
set_option linter.unusedSimpArgs false
namespace Go.Proofs.Ytnjmcppljbkhnaa
open Go.RowKit
/-- the number that a slice's cells bear: the measure of a loop over such slices. -/
def numAt (w : World) (v : Value) : Nat := match v with
  | .slice (some p) n _ => leB (fun k => (intOf ((w.cell? ⟨p.block, k, none⟩).getD (.int .i64 0))).toNat) n
  | _ => 0
theorem Rd.num {w : World} {v : Value} {L : List Nat} (h : Rd w v L) : numAt w v = valD L := by
  obtain ⟨p, cap, rfl, hc⟩ := h
  rw [valD_getD L L.length (Nat.le_refl _)]
  match p with
  | none =>
    have : L.length = 0 := by
      rcases Nat.eq_zero_or_pos L.length with h | h
      · exact h
      · obtain ⟨g, hg, _⟩ := hc 0 h; cases hg
    rw [this]; rfl
  | some q =>
    show leB _ L.length = _
    refine leB_congr' _ _ _ (fun k hk => ?_)
    obtain ⟨g, hg, _, hcl⟩ := hc k hk
    cases hg
    rw [hcl]
    simp [intOf]
end Go.Proofs.Ytnjmcppljbkhnaa
