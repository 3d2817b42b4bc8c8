import Derived.Test.YtdfloglicjocbaaRows
import Derived.WalkKit
import Derived.ProofKit
import Derived.OpenShut
import Derived.Deep.Slices
import Derived.Deep.Fields
namespace Go.Proofs.Ytdfloglicjocbaa
open Go.ChangeShapes Go.WideShapes Go.RowKit Go.Deep

theorem two_of {ns : List Int} (h : ns.length = 2) : ∃ a b : Int, ns = [a, b] := by
  match ns, h with
  | [a, b], _ => exact ⟨a, b, rfl⟩
theorem five_of {ns : List Int} (h : ns.length = 5) : ∃ f m k j t : Int, ns = [f, m, k, j, t] := by
  match ns, h with
  | [f, m, k, j, t], _ => exact ⟨f, m, k, j, t, rfl⟩

section
variable {H : Type} {enc : TypeId × Value → H} {P : Program} {w : World} {base : Nat} {spare : Nat → Bool} {held : Bool}

/-- the cells of a struct whose fields are all of one cell and of an integer kind. -/
theorem struct_ints {t : TypeId} {fs : Array Field} {kd : IntKind} {fuel : Nat} {cs : List Value} {x : DataW H × List MemPlace} (ht : P.underlying t = some (.struct fs)) (hone : oneCellFields P fs = true) (hC : P.cellsOf t = fs.size)
    {e : TypeId} (hT : fs.all (fun f => f.type == e) = true) (he : P.underlying e = some (.int kd)) (h : DataW.trod enc P w base spare held fuel t cs = some x) :
    ∃ ns : List Int, cs = ns.map (Value.int kd) ∧ ns.length = fs.size ∧ ∀ n ∈ ns, (Lit.int kd n).wf = true := by
  obtain ⟨ys, n, _, _, hlen, hyl, hf⟩ := DataW.trod_struct ht h
  have key : ∀ i (hi : i < cs.length), ∃ m : Int, cs[i] = .int kd m ∧ (Lit.int kd m).wf = true := by
    intro i hi
    have hi' : i < fs.size := by omega
    have hg : fs[i]? = some fs[i] := Array.getElem?_eq_getElem hi'
    obtain ⟨ho, hk⟩ := hone_of hone i _ hg
    have h1 := hf i _ hg
    rw [ho, hk] at h1
    have h2 : (cs.drop i).take 1 = [cs[i]] := by rw [List.drop_eq_getElem_cons hi]; rfl
    rw [h2, List.getElem?_eq_getElem (by omega)] at h1
    obtain ⟨m, em, _, hwf⟩ := DataW.trod_int (t := fs[i].type) (by rw [show fs[i].type = e from by simpa using (Array.all_eq_true.1 hT) i hi']; exact he) h1
    exact ⟨m, by simpa using em, hwf⟩
  refine ⟨cs.map intOf, ?_, by simp; omega, ?_⟩
  · apply List.ext_getElem (by simp)
    intro i hi _
    obtain ⟨m, e, _⟩ := key i hi
    simp [e, intOf]
  · intro m hm
    obtain ⟨v, hv, rfl⟩ := List.mem_map.1 hm
    obtain ⟨i, hi, rfl⟩ := List.mem_iff_getElem.1 hv
    obtain ⟨m, e, hwf⟩ := key i hi
    rw [e]
    exact hwf

/-- a parameter that is such a struct. -/
theorem open_struct_ints {r : Reach} {b0 : Nat} {t : TypeId} {fs : Array Field} {kd : IntKind} {v : Value} {d : DataW H} {p : List MemPlace} (ht : P.underlying t = some (.struct fs)) (hone : oneCellFields P fs = true) (hC : P.cellsOf t = fs.size)
    {e : TypeId} (hT : fs.all (fun f => f.type == e) = true) (he : P.underlying e = some (.int kd)) (hv : Value.okWide P w r b0 t v) (h : DataW.Trod enc P w base spare held t v d p) :
    ∃ ns : List Int, v = .agg (ns.map (Value.int kd)).toArray ∧ ns.length = fs.size ∧ ∀ n ∈ ns, (Lit.int kd n).wf = true := by
  obtain ⟨cs, rfl, _⟩ := okWide_struct ht hv
  obtain ⟨fuel, hf⟩ := h
  obtain ⟨ns, e, hl, hwf⟩ := struct_ints ht hone hC hT he hf
  refine ⟨ns, ?_, hl, hwf⟩
  rw [← e]
  simp [Value.cells]
end
end Go.Proofs.Ytdfloglicjocbaa
