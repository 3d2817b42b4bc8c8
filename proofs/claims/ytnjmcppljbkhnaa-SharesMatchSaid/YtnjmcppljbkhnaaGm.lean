import Derived.Test.YtnjmcppljbkhnaaGg
import Derived.ProofKit
import Derived.OpenShut
import Derived.Deep.Slices
import Derived.Deep.Fields
set_option linter.unusedVariables false
set_option linter.unusedSimpArgs false
namespace Go.Proofs.Ytnjmcppljbkhnaa
open Go.ChangeShapes Go.WideShapes Go.RowKit Go.Deep

section
variable {H : Type} {enc : TypeId × Value → H} {P : Program} {w : World} {base : Nat} {spare : Nat → Bool} {held : Bool}
/-- the cells of a struct of a number and a text. -/
theorem struct_int_str {t : TypeId} {f0 f1 : Field} {fuel : Nat} {cs : List Value} {x : DataW H × List MemPlace} (ht : P.underlying t = some (.struct #[f0, f1])) (hone : oneCellFields P #[f0, f1] = true) (hC : P.cellsOf t = 2)
    (h0 : P.underlying f0.type = some (.int .i64)) (h1 : P.underlying f1.type = some .string) (h : DataW.trod enc P w base spare held fuel t cs = some x) :
    ∃ (n : Int) (s : ByteArray), cs = [.int .i64 n, .string s] ∧ s.size ≤ maxLen := by
  obtain ⟨ys, m, _, _, hlen, hyl, hf⟩ := DataW.trod_struct ht h
  rw [hC] at hlen
  match cs, hlen with
  | [c0, c1], _ =>
    obtain ⟨o0, k0⟩ := hone_of hone 0 f0 rfl
    obtain ⟨o1, k1⟩ := hone_of hone 1 f1 rfl
    have g0 := hf 0 f0 rfl
    have g1 := hf 1 f1 rfl
    rw [o0, k0] at g0
    rw [o1, k1] at g1
    simp only [List.drop_zero, List.drop_succ_cons, List.take_succ_cons, List.take_zero] at g0 g1
    have hy : ys.length = 2 := hyl
    rw [List.getElem?_eq_getElem (by omega)] at g0 g1
    obtain ⟨n, e0, _, _⟩ := DataW.trod_int h0 g0
    obtain ⟨s, e1, _, hs⟩ := DataW.trod_string h1 g1
    simp only [List.cons.injEq, and_true] at e0 e1
    exact ⟨n, s, by rw [e0, e1], hs⟩
/-- a slice of structs of a number and a text that came in. -/
theorem open_shares {r : Reach} {b0 : Nat} {t e : TypeId} {f0 f1 : Field} {v : Value} {d : DataW H} {p : List MemPlace} (ht : P.underlying t = some (.slice e)) (he : P.underlying e = some (.struct #[f0, f1])) (hone : oneCellFields P #[f0, f1] = true) (hC : P.cellsOf e = 2)
    (h0 : P.underlying f0.type = some (.int .i64)) (h1 : P.underlying f1.type = some .string)
    (hv : Value.okWide P w r b0 t v) (h : DataW.Trod enc P w base spare held t v d p) :
    ∃ (a : Option Addr) (len cap : Nat) (X : Nat → Int) (D : Nat → ByteArray), v = .slice a len cap ∧ len ≤ cap ∧ cap ≤ maxLen ∧ SRowI w w.heap.size a len X D ∧ ∀ i, (D i).size ≤ maxLen := by
  obtain ⟨a0, len, cap, rfl⟩ := okWide_slice ht hv
  obtain ⟨fuel, hf⟩ := h
  rcases open_slice ht hf with ⟨hcs, _⟩ | ⟨a, len', cap', m, n, D, Pl, hcs, hb, hl, hm, hmm, hx, hi⟩
  · simp [Value.cells] at hcs
    obtain ⟨rfl, rfl, rfl⟩ := hcs
    exact ⟨none, 0, 0, fun _ => 0, fun _ => ByteArray.empty, rfl, Nat.le_refl _, by simp, fun i hi => by omega, fun i => by simp⟩
  · simp [Value.cells] at hcs
    obtain ⟨rfl, rfl, rfl⟩ := hcs
    have hlm : len ≤ m := by rw [hmm]; split <;> omega
    have key : ∀ i, ∃ q : Int × ByteArray, q.2.size ≤ maxLen ∧ (i < len → w.cell? (a.add (i * 2)) = some (.int .i64 q.1) ∧ w.cell? ((a.add (i * 2)).add 1) = some (.string q.2)) := by
      intro i
      by_cases hil : i < len
      · obtain ⟨cs', g1, g2⟩ := hi i (by omega)
        obtain ⟨q, s, rfl, hs⟩ := struct_int_str he hone hC h0 h1 g2
        rw [hC] at g1
        obtain ⟨_, _, g3⟩ := World.cells?_some g1
        refine ⟨(q, s), hs, fun _ => ⟨?_, ?_⟩⟩
        · have := g3 0 (by omega)
          simpa [Addr.add] using this
        · have := g3 1 (by omega)
          simpa using this
      · exact ⟨(0, ByteArray.empty), by simp, fun h => absurd h hil⟩
    refine ⟨some a, len, cap, fun i => (key i).choose.1, fun i => (key i).choose.2, rfl, by simpa using hl, hm, ?_, fun i => (key i).choose_spec.1⟩
    intro i hil
    obtain ⟨k1, k2⟩ := (key i).choose_spec.2 hil
    obtain ⟨b, off, sp⟩ := a
    have hsp : sp = none := by
      obtain ⟨k3, _⟩ := (key 0).choose_spec.2 (by omega)
      simpa [Addr.add] using World.cell?_spot k3
    subst hsp
    have e1 : (Addr.add ⟨b, off, none⟩ (i * 2)) = ⟨b, off + i * 2, none⟩ := by
      unfold Addr.add
      by_cases hz : i * 2 = 0 <;> simp [hz]
    have e2 : (Addr.add ⟨b, off + i * 2, none⟩ 1) = ⟨b, off + i * 2 + 1, none⟩ := by
      unfold Addr.add
      simp
    have e3 : (Addr.add (Addr.add ⟨b, off, none⟩ (i * 2)) 1) = ⟨b, off + i * 2 + 1, none⟩ := by rw [e1, e2]
    have k3 := (congrArg w.cell? e1).symm.trans k1
    refine ⟨b, off, rfl, ?_, k3, (congrArg w.cell? e3).symm.trans k2⟩
    rcases Nat.lt_or_ge b w.heap.size with g | g
    · exact g
    · rw [World.cell?] at k3
      simp [Array.getElem?_eq_none g] at k3
end
end Go.Proofs.Ytnjmcppljbkhnaa
