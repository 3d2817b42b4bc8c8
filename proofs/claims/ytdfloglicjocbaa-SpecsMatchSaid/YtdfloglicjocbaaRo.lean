import Derived.Test.YtdfloglicjocbaaPo
namespace Go.Proofs.Ytdfloglicjocbaa
open Go.ChangeShapes Go.WideShapes Go.RowKit Go.Deep
section
variable {H : Type} {enc : TypeId × Value → H} {P : Program} {w : World} {base : Nat} {spare : Nat → Bool} {held : Bool}
/-- a slice of structs of two numbers that came in. -/
theorem open_pair_structs {r : Reach} {b0 : Nat} {t e f : TypeId} {fs : Array Field} {v : Value} {d : DataW H} {p : List MemPlace} (ht : P.underlying t = some (.slice e)) (he : P.underlying e = some (.struct fs)) (hf : P.underlying f = some (.int .i64)) (hC : P.cellsOf e = 2) (h2 : fs.size = 2)
    (hone : oneCellFields P fs = true) (hT : fs.all (fun x => x.type == f) = true)
    (hv : Value.okWide P w r b0 t v) (h : DataW.Trod enc P w base spare held t v d p) :
    ∃ (a : Option Addr) (cap : Nat) (xs : List (Int × Int)), xs.length ≤ maxLen ∧ Row2 w w.heap.size a xs ∧ v = .slice a xs.length cap := by
  obtain ⟨a, cap, xs, rfl, h1, h2, h3, h4⟩ := open_slice_flat (kd := .i64) (c := 2) ht hC (fun n cs x hx => by
    obtain ⟨ns, e1, e2, e3⟩ := struct_ints he hone (by rw [hC, h2]) hT hf hx
    exact ⟨ns, e1, by omega, e3⟩) hv h
  refine ⟨a, cap, xs.map fun l => (l.getD 0 0, l.getD 1 0), by simp; omega, ?_, by simp⟩
  intro i hi
  have hi' : i < xs.length := by simpa using hi
  obtain ⟨b, off, rfl, hb, hc0⟩ := h4 i 0 hi' (by omega)
  obtain ⟨b', off', e', _, hc1⟩ := h4 i 1 hi' (by omega)
  cases e'
  refine ⟨b, off, rfl, hb, ?_, ?_⟩
  · simpa [List.getElem?_eq_getElem hi'] using hc0
  · simpa [List.getElem?_eq_getElem hi'] using hc1
end
end Go.Proofs.Ytdfloglicjocbaa
