import Derived.Test.YtnjmcppljbkhnaaZh
import Derived.Test.YtnjmcppljbkhnaaGm
import Derived.ProofKit
import Derived.OpenShut
import Derived.Deep.Slices
import Derived.Deep.Fields
import Derived.ChangeSlices
set_option linter.unusedVariables false
set_option linter.unusedSimpArgs false
namespace Go.Proofs.Ytnjmcppljbkhnaa
open Go.ChangeShapes Go.WideShapes Go.ChangeAt Go.RowKit Go.Deep
section
variable {H : Type} {enc : TypeId × Value → H} {P : Program} {w : World} {base : Nat} {spare : Nat → Bool} {held : Bool}
/-- a slice of ints that came in. -/
theorem open_picks {r : Reach} {b0 : Nat} {t e : TypeId} {v : Value} {d : DataW H} {p : List MemPlace} (ht : P.underlying t = some (.slice e)) (he : P.underlying e = some (.int .i64)) (hC : P.cellsOf e = 1)
    (hv : Value.okWide P w r b0 t v) (h : DataW.Trod enc P w base spare held t v d p) :
    ∃ (a : Option Addr) (xs : List Int) (cap : Nat), v = .slice a xs.length cap ∧ xs.length ≤ maxLen ∧ PRow w a xs := by
  obtain ⟨a0, len, cap, rfl⟩ := okWide_slice ht hv
  obtain ⟨fuel, hf⟩ := h
  rcases open_ints ht he hC hf with ⟨hcs, _⟩ | ⟨a, len', cap', zs, hcs, hb, hl, hm, hlen, hx, hcell, hwf⟩
  · simp [Value.cells] at hcs
    obtain ⟨rfl, rfl, rfl⟩ := hcs
    exact ⟨none, [], 0, rfl, by simp, fun i hi => by simp at hi⟩
  · simp [Value.cells] at hcs
    obtain ⟨rfl, rfl, rfl⟩ := hcs
    have hlz : len ≤ zs.length := by rw [hlen]; split <;> omega
    have hxl : (zs.take len).length = len := by simp; omega
    refine ⟨some a, zs.take len, cap, by rw [hxl], by rw [hxl]; omega, ?_⟩
    intro i hi
    rw [hxl] at hi
    have k := hcell i (by omega)
    obtain ⟨b, off, sp⟩ := a
    have hsp : sp = none := by
      have k3 := hcell 0 (by omega)
      simpa [Addr.add] using World.cell?_spot k3
    subst hsp
    have e1 : (Addr.add ⟨b, off, none⟩ i) = ⟨b, off + i, none⟩ := by
      unfold Addr.add
      by_cases hz : i = 0 <;> simp [hz]
    have k3 := (congrArg w.cell? e1).symm.trans k
    have e2 : (zs.take len).getD i 0 = zs.getD i 0 := by
      simp [List.getD_eq_getElem?_getD, List.getElem?_take_of_lt hi]
    refine ⟨b, off, rfl, ?_, by rw [e2]; exact k3⟩
    rcases Nat.lt_or_ge b w.heap.size with g | g
    · exact g
    · rw [World.cell?] at k3
      simp [Array.getElem?_eq_none g] at k3
end
theorem law7 (secret noise : ByteArray) (need many : Int) (ap : Option Addr) (cp : Nat) (xs : List Int) (w : World) (hs : secret.size ≤ maxLen) (hnz : noise.size ≤ maxLen) (hx : PRow w ap xs) (hxs : xs.length ≤ maxLen) :
    Calls Try.prog 7 #[.string secret, .string noise, .int .i64 need, .int .i64 many, .slice ap xs.length cp] w fun e w' => e = .returned (.bool true) ∧ Below w.heap.size w w' := by
  by_cases h : secret.size ≤ 1024 ∧ 1 ≤ many ∧ many ≤ 255 ∧ 1 ≤ need ∧ need ≤ many
  · obtain ⟨n, rfl⟩ : ∃ n : Nat, need = n := ⟨need.toNat, by omega⟩
    obtain ⟨m, rfl⟩ : ∃ m : Nat, many = m := ⟨many.toNat, by omega⟩
    exact law7_in secret noise n m (n - 1) ap cp xs w hnz h.1 (by omega) (by omega) (by omega) hx hxs
  · exact law7_out secret noise need many _ w hs hnz h
end Go.Proofs.Ytnjmcppljbkhnaa
