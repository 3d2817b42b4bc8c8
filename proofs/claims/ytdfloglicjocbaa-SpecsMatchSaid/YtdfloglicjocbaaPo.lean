import Derived.Test.YtdfloglicjocbaaPc
import Derived.Test.YtdfloglicjocbaaO
namespace Go.Proofs.Ytdfloglicjocbaa
open Go.ChangeShapes Go.WideShapes Go.RowKit Go.Deep
section
variable {H : Type} {enc : TypeId × Value → H} {P : Program} {w : World} {base : Nat} {spare : Nat → Bool} {held : Bool}
/-- a slice of pairs of numbers that came in. -/
theorem open_pairs {r : Reach} {b0 : Nat} {t e f : TypeId} {v : Value} {d : DataW H} {p : List MemPlace} (ht : P.underlying t = some (.slice e)) (he : P.underlying e = some (.array 2 f)) (hf : P.underlying f = some (.int .i64)) (hC : P.cellsOf e = 2) (hc : P.cellsOf f = 1)
    (hv : Value.okWide P w r b0 t v) (h : DataW.Trod enc P w base spare held t v d p) :
    ∃ (a : Option Addr) (cap : Nat) (xs : List (Int × Int)), xs.length ≤ maxLen ∧ Row2 w w.heap.size a xs ∧ v = .slice a xs.length cap := by
  obtain ⟨a, cap, xs, rfl, h1, h2, h3, h4⟩ := open_slice_flat (kd := .i64) (c := 2) ht hC (fun n cs x hx => array_ints he hf hC hc hx) hv h
  refine ⟨a, cap, xs.map fun l => (l.getD 0 0, l.getD 1 0), by simp; omega, ?_, by simp⟩
  intro i hi
  have hi' : i < xs.length := by simpa using hi
  obtain ⟨b, off, rfl, hb, hc0⟩ := h4 i 0 hi' (by omega)
  obtain ⟨b', off', e', _, hc1⟩ := h4 i 1 hi' (by omega)
  cases e'
  refine ⟨b, off, rfl, hb, ?_, ?_⟩
  · simpa [List.getElem?_eq_getElem hi'] using hc0
  · simpa [List.getElem?_eq_getElem hi'] using hc1
end
end Go.Proofs.Ytdfloglicjocbaa
