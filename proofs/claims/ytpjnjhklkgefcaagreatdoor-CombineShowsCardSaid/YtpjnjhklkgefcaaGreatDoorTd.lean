/-
  A slice of numbers, and one of arrays of three numbers, that came in, opened. Over any program.
-/
import Derived.Test.YtpjnjhklkgefcaaGreatDoorTc
import Derived.Deep.SlicePairs
import Derived.Deep.Fields
import Derived.ChangeArms
import Derived.ChangeSlices
import Derived.OpenShut
import Derived.WalkKit
import Derived.Below
namespace Go.Proofs.YtpjnjhklkgefcaaGreatDoor
open Go.ChangeShapes Go.WideShapes Go.Deep Go.RowKit
section
variable {H : Type} {enc : TypeId × Value → H} {P : Program} {w : World} {base : Nat} {spare : Nat → Bool} {held : Bool}
theorem open_nums {r : Reach} {b0 : Nat} {t e : TypeId} {v : Value} {d : DataW H} {p : List MemPlace} (ht : P.underlying t = some (.slice e)) (he : P.underlying e = some (.int .i64)) (hC : P.cellsOf e = 1)
    (hv : Value.okWide P w r b0 t v) (h : DataW.Trod enc P w base spare held t v d p) :
    ∃ (a : Option Addr) (cap : Nat) (xs : List Int), v = .slice a xs.length cap ∧ DRow w a xs := by
  obtain ⟨a0, len, cap, rfl⟩ := okWide_slice ht hv
  obtain ⟨fuel, hf⟩ := h
  rcases open_ints ht he hC hf with ⟨hcs, _⟩ | ⟨a, len', cap', zs, hcs, hb, hl, hm, hlen, hx, hcell, hwf⟩
  · simp [Value.cells] at hcs
    obtain ⟨rfl, rfl, rfl⟩ := hcs
    exact ⟨none, 0, [], rfl, fun i v hi => (by cases hi)⟩
  · simp [Value.cells] at hcs
    obtain ⟨rfl, rfl, rfl⟩ := hcs
    have hlz : len ≤ zs.length := by rw [hlen]; split <;> omega
    have hxl : (zs.take len).length = len := by simp; omega
    refine ⟨some a, cap, zs.take len, by rw [hxl], ?_⟩
    intro i v hv2
    have hi : i < len := by
      have := (List.getElem?_eq_some_iff.1 hv2).1
      omega
    rw [List.getElem?_take_of_lt hi] at hv2
    have k := hcell i (by omega)
    obtain ⟨b, off, sp⟩ := a
    have hsp : sp = none := by
      have k3 := hcell 0 (by omega)
      simpa [Addr.add] using World.cell?_spot k3
    subst hsp
    have e1 : (Addr.add ⟨b, off, none⟩ i) = ⟨b, off + i, none⟩ := by
      unfold Addr.add
      by_cases hz : i = 0 <;> simp [hz]
    have k3 := (congrArg w.cell? e1).symm.trans k
    have e2 : zs.getD i 0 = v := by
      rw [List.getD_eq_getElem?_getD, hv2]; rfl
    rw [e2] at k3
    exact ⟨b, off, rfl, World.block_lt_of_cell? _ _ k3, k3⟩
theorem open_threes {r : Reach} {b0 : Nat} {t e ei : TypeId} {v : Value} {d : DataW H} {p : List MemPlace} (ht : P.underlying t = some (.slice e)) (he : P.underlying e = some (.array 3 ei)) (ce : P.cellsOf e = 3) (ci : P.cellsOf ei = 1) (hi : P.underlying ei = some (.int .i64))
    (hv : Value.okWide P w r b0 t v) (h : DataW.Trod enc P w base spare held t v d p) :
    ∃ (a : Option Addr) (cap : Nat) (ps : List (Int × Int × Int)), v = .slice a ps.length cap ∧ PRow w a ps := by
  obtain ⟨a0, len, cap, rfl⟩ := okWide_slice ht hv
  obtain ⟨fuel, hf⟩ := h
  rcases open_slice ht hf with ⟨hcs, _⟩ | ⟨a, len', cap', m, n, D, Pl, hcs, hb, hl, hm, hmm, hx, hj⟩
  · simp [Value.cells] at hcs
    obtain ⟨rfl, rfl, rfl⟩ := hcs
    exact ⟨none, 0, [], rfl, fun i e hi => (by cases hi)⟩
  · simp [Value.cells] at hcs
    obtain ⟨rfl, rfl, rfl⟩ := hcs
    have hlm : len ≤ m := by rw [hmm]; split <;> omega
    have hspot : 0 < len → a.spot = none := by
      intro h0l
      obtain ⟨cs', k1, k2⟩ := hj 0 (by omega)
      rw [ce] at k1
      obtain ⟨_, hlen, hcell⟩ := World.cells?_some k1
      have z0 := hcell 0 (by omega)
      have hl2 : 0 < cs'.length := by omega
      rw [List.getElem?_eq_getElem hl2] at z0
      have := World.cell?_spot z0
      simpa [Addr.add] using this
    have key : ∀ i, ∃ z : Int × Int × Int, i < len → ∃ b off, a = ⟨b, off, none⟩ ∧ b < w.heap.size ∧ w.cell? ⟨b, off + i * 3, none⟩ = some (.int .i64 z.1) ∧ w.cell? ⟨b, off + i * 3 + 1, none⟩ = some (.int .i64 z.2.1) ∧ w.cell? ⟨b, off + i * 3 + 2, none⟩ = some (.int .i64 z.2.2) := by
      intro i
      by_cases hil : i < len
      · obtain ⟨cs', k1, k2⟩ := hj i (by omega)
        rw [ce] at k1
        obtain ⟨_, hlen, hcell⟩ := World.cells?_some k1
        obtain ⟨xs, k, hk, hxy, _, hxl, hfs⟩ := DataW.trod_array he k2
        rw [ci] at hfs
        match xs, hxl, cs', hlen with
        | [y0, y1, y2], _, [v0, v1, v2], _ =>
          have m0 := hfs 0 (by decide)
          have m1 := hfs 1 (by decide)
          have m2 := hfs 2 (by decide)
          simp at m0 m1 m2
          obtain ⟨pt, a1, a2, _⟩ := DataW.trod_int hi m0
          obtain ⟨sz, b1, b2, wz⟩ := DataW.trod_int hi m1
          obtain ⟨tm, d1, d2, wt⟩ := DataW.trod_int hi m2
          simp only [List.cons.injEq, and_true] at a1 b1 d1
          subst a1 b1 d1
          have z0 := hcell 0 (by omega)
          have z1 := hcell 1 (by omega)
          have z2 := hcell 2 (by omega)
          obtain ⟨b, off, spt⟩ := a
          have hsp : spt = none := hspot (by omega)
          subst hsp
          have ea : ∀ x y : Nat, ((⟨b, off, none⟩ : Addr).add x).add y = ⟨b, off + x + y, none⟩ := by
            intro x y
            unfold Addr.add
            by_cases h1 : x = 0 <;> by_cases h2 : y = 0 <;> simp [h1, h2]
          rw [ea] at z0 z1 z2
          refine ⟨⟨pt, sz, tm⟩, fun _ => ⟨b, off, rfl, World.block_lt_of_cell? _ _ z0, ?_, ?_, ?_⟩⟩
          · simpa using z0
          · simpa using z1
          · simpa using z2
      · exact ⟨⟨0, 0, 0⟩, fun h => absurd h hil⟩
    obtain ⟨Z, hZ⟩ := Classical.axiomOfChoice key
    refine ⟨some a, cap, (List.range len).map Z, by simp, ?_⟩
    intro i x hix
    have hil : i < len := by
      have := (List.getElem?_eq_some_iff.1 hix).1
      simpa using this
    have hxz : x = Z i := by
      rw [List.getElem?_map, List.getElem?_eq_getElem (by simpa using hil)] at hix
      simp at hix
      exact hix.symm
    subst hxz
    obtain ⟨b, off, ha, hr⟩ := hZ i hil
    exact ⟨b, off, by rw [ha], hr⟩
end
end Go.Proofs.YtpjnjhklkgefcaaGreatDoor
