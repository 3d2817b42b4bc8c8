import Derived.Test.YtdfloglicjocbaaRows
import Derived.WalkKit
import Derived.ProofKit
import Derived.OpenShut
import Derived.Deep.Slices
import Derived.Deep.Fields
namespace Go.Proofs.Ytdfloglicjocbaa
open Go.ChangeShapes Go.WideShapes Go.RowKit Go.Deep

theorem two_of {ns : List Int} (h : ns.length = 2) : ∃ a b : Int, ns = [a, b] := by
  match ns, h with
  | [a, b], _ => exact ⟨a, b, rfl⟩
theorem five_of {ns : List Int} (h : ns.length = 5) : ∃ f m k j t : Int, ns = [f, m, k, j, t] := by
  match ns, h with
  | [f, m, k, j, t], _ => exact ⟨f, m, k, j, t, rfl⟩

section
variable {H : Type} {enc : TypeId × Value → H} {P : Program} {w : World} {base : Nat} {spare : Nat → Bool} {held : Bool}

/-- the cells of a struct whose fields are all of one cell and of an integer kind. -/
theorem struct_ints {t : TypeId} {fs : Array Field} {kd : IntKind} {fuel : Nat} {cs : List Value} {x : DataW H × List MemPlace} (ht : P.underlying t = some (.struct fs)) (hone : oneCellFields P fs = true) (hC : P.cellsOf t = fs.size)
    {e : TypeId} (hT : fs.all (fun f => f.type == e) = true) (he : P.underlying e = some (.int kd)) (h : DataW.trod enc P w base spare held fuel t cs = some x) :
    ∃ ns : List Int, cs = ns.map (Value.int kd) ∧ ns.length = fs.size ∧ ∀ n ∈ ns, (Lit.int kd n).wf = true := by
  obtain ⟨ys, n, _, _, hlen, hyl, hf⟩ := DataW.trod_struct ht h
  have key : ∀ i (hi : i < cs.length), ∃ m : Int, cs[i] = .int kd m ∧ (Lit.int kd m).wf = true := by
    intro i hi
    have hi' : i < fs.size := by omega
    have hg : fs[i]? = some fs[i] := Array.getElem?_eq_getElem hi'
    obtain ⟨ho, hk⟩ := hone_of hone i _ hg
    have h1 := hf i _ hg
    rw [ho, hk] at h1
    have h2 : (cs.drop i).take 1 = [cs[i]] := by rw [List.drop_eq_getElem_cons hi]; rfl
    rw [h2, List.getElem?_eq_getElem (by omega)] at h1
    obtain ⟨m, em, _, hwf⟩ := DataW.trod_int (t := fs[i].type) (by rw [show fs[i].type = e from by simpa using (Array.all_eq_true.1 hT) i hi']; exact he) h1
    exact ⟨m, by simpa using em, hwf⟩
  refine ⟨cs.map intOf, ?_, by simp; omega, ?_⟩
  · apply List.ext_getElem (by simp)
    intro i hi _
    obtain ⟨m, e, _⟩ := key i hi
    simp [e, intOf]
  · intro m hm
    obtain ⟨v, hv, rfl⟩ := List.mem_map.1 hm
    obtain ⟨i, hi, rfl⟩ := List.mem_iff_getElem.1 hv
    obtain ⟨m, e, hwf⟩ := key i hi
    rw [e]
    exact hwf

/-- a parameter that is such a struct. -/
theorem open_struct_ints {r : Reach} {b0 : Nat} {t : TypeId} {fs : Array Field} {kd : IntKind} {v : Value} {d : DataW H} {p : List MemPlace} (ht : P.underlying t = some (.struct fs)) (hone : oneCellFields P fs = true) (hC : P.cellsOf t = fs.size)
    {e : TypeId} (hT : fs.all (fun f => f.type == e) = true) (he : P.underlying e = some (.int kd)) (hv : Value.okWide P w r b0 t v) (h : DataW.Trod enc P w base spare held t v d p) :
    ∃ ns : List Int, v = .agg (ns.map (Value.int kd)).toArray ∧ ns.length = fs.size ∧ ∀ n ∈ ns, (Lit.int kd n).wf = true := by
  obtain ⟨cs, rfl, _⟩ := okWide_struct ht hv
  obtain ⟨fuel, hf⟩ := h
  obtain ⟨ns, e, hl, hwf⟩ := struct_ints ht hone hC hT he hf
  refine ⟨ns, ?_, hl, hwf⟩
  rw [← e]
  simp [Value.cells]

/-- the cells of an array of integers. -/
theorem array_ints {t : TypeId} {n : Nat} {kd : IntKind} {fuel : Nat} {cs : List Value} {x : DataW H × List MemPlace} {e : TypeId} (ht : P.underlying t = some (.array n e)) (he : P.underlying e = some (.int kd)) (hC : P.cellsOf t = n) (hc : P.cellsOf e = 1)
    (h : DataW.trod enc P w base spare held fuel t cs = some x) :
    ∃ ns : List Int, cs = ns.map (Value.int kd) ∧ ns.length = n ∧ ∀ n ∈ ns, (Lit.int kd n).wf = true := by
  obtain ⟨ys, m, _, _, hlen, hyl, hf⟩ := DataW.trod_array ht h
  have key : ∀ i (hi : i < cs.length), ∃ m : Int, cs[i] = .int kd m ∧ (Lit.int kd m).wf = true := by
    intro i hi
    have h1 := hf i (by omega)
    rw [hc, Nat.mul_one] at h1
    have h2 : (cs.drop i).take 1 = [cs[i]] := by rw [List.drop_eq_getElem_cons hi]; rfl
    rw [h2, List.getElem?_eq_getElem (by omega)] at h1
    obtain ⟨m, em, _, hwf⟩ := DataW.trod_int he h1
    exact ⟨m, by simpa using em, hwf⟩
  refine ⟨cs.map intOf, ?_, by simp; omega, ?_⟩
  · apply List.ext_getElem (by simp)
    intro i hi _
    obtain ⟨m, e, _⟩ := key i hi
    simp [e, intOf]
  · intro m hm
    obtain ⟨v, hv, rfl⟩ := List.mem_map.1 hm
    obtain ⟨i, hi, rfl⟩ := List.mem_iff_getElem.1 hv
    obtain ⟨m, e, hwf⟩ := key i hi
    rw [e]
    exact hwf

/-- a slice whose elements are c integers each. -/
theorem open_slice_flat {r : Reach} {b0 : Nat} {t e : TypeId} {kd : IntKind} {c : Nat} {v : Value} {d : DataW H} {p : List MemPlace} (ht : P.underlying t = some (.slice e)) (hC : P.cellsOf e = c)
    (hflat : ∀ (n : Nat) (cs' : List Value) (x : DataW H × List MemPlace), DataW.trod enc P w base spare held n e cs' = some x → ∃ ns : List Int, cs' = ns.map (Value.int kd) ∧ ns.length = c ∧ ∀ n ∈ ns, (Lit.int kd n).wf = true)
    (hv : Value.okWide P w r b0 t v) (h : DataW.Trod enc P w base spare held t v d p) :
    ∃ (a : Option Addr) (cap : Nat) (xs : List (List Int)), v = .slice a xs.length cap ∧ xs.length ≤ cap ∧ cap ≤ maxLen ∧ (∀ l ∈ xs, l.length = c ∧ ∀ n ∈ l, (Lit.int kd n).wf = true) ∧
      ∀ i j, i < xs.length → j < c → ∃ b off, a = some ⟨b, off, none⟩ ∧ b < w.heap.size ∧ w.cell? ⟨b, off + i * c + j, none⟩ = some (.int kd ((xs.getD i []).getD j 0)) := by
  obtain ⟨a0, len, cap, rfl⟩ := okWide_slice ht hv
  obtain ⟨fuel, hf⟩ := h
  rcases open_slice ht hf with ⟨hcs, _⟩ | ⟨a, len', cap', m, n, D, Pl, hcs, hb, hl, hm, hmm, hx, hi⟩
  · simp [Value.cells] at hcs
    obtain ⟨rfl, rfl, rfl⟩ := hcs
    exact ⟨none, 0, [], rfl, by simp, by simp, by simp, by simp⟩
  · simp [Value.cells] at hcs
    obtain ⟨rfl, rfl, rfl⟩ := hcs
    have hlm : len ≤ m := by rw [hmm]; split <;> omega
    have key : ∀ i, ∃ ns : List Int, i < len → (ns.length = c ∧ (∀ n ∈ ns, (Lit.int kd n).wf = true) ∧ ∀ j, j < c → w.cell? ((a.add (i * c)).add j) = some (.int kd (ns.getD j 0))) := by
      intro i
      by_cases hil : i < len
      · obtain ⟨cs', h1, h2⟩ := hi i (by omega)
        obtain ⟨ns, rfl, hln, hwf⟩ := hflat _ _ _ h2
        rw [hC] at h1
        obtain ⟨_, _, h3⟩ := World.cells?_some h1
        refine ⟨ns, fun _ => ⟨hln, hwf, fun j hj => ?_⟩⟩
        rw [h3 j hj]
        simp [List.getElem?_eq_getElem (show j < ns.length by omega)]
      · exact ⟨[], fun h => absurd h hil⟩
    refine ⟨some a, cap, (List.range len).map (fun i => (key i).choose), by simp, by simpa using hl, hm, ?_, ?_⟩
    · intro l hlx
      obtain ⟨i, hir, rfl⟩ := List.mem_map.1 hlx
      have := (key i).choose_spec (by simpa using hir)
      exact ⟨this.1, this.2.1⟩
    · intro i j hil hj
      have hil' : i < len := by simpa using hil
      have hc := ((key i).choose_spec hil').2.2 j hj
      obtain ⟨b, off, sp⟩ := a
      have hsp : sp = none := by
        have h00 := ((key 0).choose_spec (by omega)).2.2 0 (by omega)
        simpa [Addr.add] using World.cell?_spot h00
      subst hsp
      refine ⟨b, off, rfl, ?_, ?_⟩
      · rcases Nat.lt_or_ge b w.heap.size with h1 | h1
        · exact h1
        · have hblk : ((Addr.add ⟨b, off, none⟩ (i * c)).add j).block = b := by unfold Addr.add; split <;> split <;> rfl
          rw [World.cell?] at hc
          simp [hblk, Array.getElem?_eq_none h1] at hc
      · have ha : ((Addr.add ⟨b, off, none⟩ (i * c)).add j) = ⟨b, off + i * c + j, none⟩ := by
          unfold Addr.add
          by_cases h1 : i * c = 0 <;> by_cases h2 : j = 0 <;> simp [h1, h2]
        rw [ha] at hc
        rw [hc]
        simp [hil']
end
end Go.Proofs.Ytdfloglicjocbaa
