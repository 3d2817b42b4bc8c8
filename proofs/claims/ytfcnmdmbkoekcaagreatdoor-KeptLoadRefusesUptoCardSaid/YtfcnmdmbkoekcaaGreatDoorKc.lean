/-
  A slice of kept sums that came in, opened: its entries, and the data that it reads as. Over any program.
-/
import Derived.Deep.SlicePairs
import Derived.Deep.Fields
import Derived.ChangeArms
import Derived.WalkKit
import Derived.Below
namespace Go.Proofs.Kl
open Go.ChangeShapes Go.WideShapes Go.Deep Go.RowKit
/-- an entry as it lies. -/
structure Ent where
  path : ByteArray
  size : Int
  time : Int
  sv : Value
  sums : List (Int × ByteArray)
/-- the sums of an entry: of two their cells. -/
def SumVal (w : World) (v : Value) (l : List (Int × ByteArray)) : Prop :=
  ∃ a cap, v = .slice a l.length cap ∧ ∀ x y, l = [x, y] → ∃ b off, a = some ⟨b, off, none⟩ ∧ b < w.heap.size ∧
    w.cell? ⟨b, off, none⟩ = some (.int .i64 x.1) ∧ w.cell? ⟨b, off + 1, none⟩ = some (.string x.2) ∧ w.cell? ⟨b, off + 2, none⟩ = some (.int .i64 y.1) ∧ w.cell? ⟨b, off + 3, none⟩ = some (.string y.2)
/-- a list of entries as it lies. -/
def KRow (w : World) (a : Option Addr) (ls : List Ent) : Prop :=
  ∀ i e, ls[i]? = some e → ∃ b off, a = some ⟨b, off, none⟩ ∧ b < w.heap.size ∧
    w.cell? ⟨b, off + i * 4, none⟩ = some (.string e.path) ∧ w.cell? ⟨b, off + i * 4 + 1, none⟩ = some (.int .i64 e.size) ∧ w.cell? ⟨b, off + i * 4 + 2, none⟩ = some (.int .i64 e.time) ∧ w.cell? ⟨b, off + i * 4 + 3, none⟩ = some e.sv ∧ SumVal w e.sv e.sums
/-- what the sums of an entry read as. -/
def SumDat {H : Type} (z : DataW H) (l : List (Int × ByteArray)) : Prop :=
  l = [] ∨ ∃ sp, z = .slice (l.map fun x => .agg [.lit (.int .i64 x.1), .lit (.string x.2.data.toList)]) sp
section
variable {H : Type} {enc : TypeId × Value → H} {P : Program} {w : World} {base : Nat} {spare : Nat → Bool} {held : Bool}
theorem spot_none {a : Addr} {v : Value} (h : w.cell? a = some v) : a.spot = none := World.cell?_spot h
theorem addr_add (b off c : Nat) : (⟨b, off, none⟩ : Addr).add c = ⟨b, off + c, none⟩ := by
  unfold Addr.add
  by_cases h : c = 0 <;> simp [h]
theorem open_sums {t e : TypeId} {f0 f1 : Field} {fuel : Nat} {cs : List Value} {x : DataW H × List MemPlace} (ht : P.underlying t = some (.slice e)) (he : P.underlying e = some (.struct #[f0, f1]))
    (ce : P.cellsOf e = 2) (o0 : f0.offset = 0) (o1 : f1.offset = 1) (c0 : P.cellsOf f0.type = 1) (c1 : P.cellsOf f1.type = 1)
    (h0 : P.underlying f0.type = some (.int .i64)) (h1 : P.underlying f1.type = some .string)
    (h : DataW.trod enc P w base spare held fuel t cs = some x) :
    ∃ v l, cs = [v] ∧ SumVal w v l ∧ SumDat x.1 l := by
  rcases open_slice_pairs ht he ce o0 o1 c0 c1 h with ⟨rfl, rfl⟩ | ⟨a, len, cap, m, n, V0, V1, D0, D1, P0, P1, rfl, hb, hl, hm, hmm, rfl, hx⟩
  · exact ⟨_, [], rfl, ⟨none, 0, rfl, fun x y h => by cases h⟩, Or.inl rfl⟩
  · have hlm : len ≤ m := by rw [hmm]; split <;> omega
    have key : ∀ i, ∃ z : Int × ByteArray, i < len → V0 i = .int .i64 z.1 ∧ V1 i = .string z.2 ∧ D0 i = .lit (.int .i64 z.1) ∧ D1 i = .lit (.string z.2.data.toList) := by
      intro i
      by_cases hi : i < len
      · obtain ⟨_, _, g0, g1⟩ := hx i (by omega)
        obtain ⟨k, a1, a2, _⟩ := DataW.trod_int h0 g0
        obtain ⟨s, b1, b2, _⟩ := DataW.trod_string h1 g1
        simp only [List.cons.injEq, and_true, Prod.mk.injEq] at a1 a2 b1 b2
        exact ⟨(k, s), fun _ => ⟨a1, b1, a2.1, b2.1⟩⟩
      · exact ⟨(0, ⟨#[]⟩), fun h => absurd h hi⟩
    obtain ⟨Z, hZ⟩ : ∃ Z : Nat → Int × ByteArray, ∀ i, i < len → V0 i = .int .i64 (Z i).1 ∧ V1 i = .string (Z i).2 ∧ D0 i = .lit (.int .i64 (Z i).1) ∧ D1 i = .lit (.string (Z i).2.data.toList) := ⟨fun i => (key i).choose, fun i => (key i).choose_spec⟩
    clear key
    refine ⟨_, (List.range len).map Z, rfl, ⟨some a, cap, by simp, ?_⟩, Or.inr ⟨(List.range (m - len)).map fun j => .agg [D0 (len + j), D1 (len + j)], ?_⟩⟩
    · intro x y hxy
      have hlen : len = 2 := by have := congrArg List.length hxy; simpa using this
      subst hlen
      have hxy' : Z 0 = x ∧ Z 1 = y := by
        have : (List.range 2).map Z = [Z 0, Z 1] := rfl
        rw [this] at hxy
        simpa using hxy
      obtain ⟨rfl, rfl⟩ := hxy'
      obtain ⟨e0, e1, _, _⟩ := hx 0 (by omega)
      obtain ⟨e2, e3, _, _⟩ := hx 1 (by omega)
      have s0 := hZ 0 (by omega)
      have s1 := hZ 1 (by omega)
      obtain ⟨b, off, sp⟩ := a
      have hsp : sp = none := by
        have := spot_none e0
        simpa [Addr.add] using this
      subst hsp
      rw [addr_add] at e0 e1 e2 e3
      have hlt : b < w.heap.size := World.block_lt_of_cell? _ _ e0
      refine ⟨b, off, rfl, hlt, ?_, ?_, ?_, ?_⟩
      · rw [← s0.1]; simpa using e0
      · rw [← s0.2.1]; simpa using e1
      · rw [← s1.1]; simpa using e2
      · rw [← s1.2.1]; simpa using e3
    · show DataW.slice _ _ = DataW.slice _ _
      rw [List.map_map]
      congr 1
      refine List.map_congr_left fun i hi => ?_
      have s := hZ i (List.mem_range.1 hi)
      show DataW.agg [D0 i, D1 i] = _
      rw [s.2.2.1, s.2.2.2]
      rfl
theorem ent_at {α : Type} {Z : Nat → α} {len i : Nat} {x : α} (h : ((List.range len).map Z)[i]? = some x) : i < len ∧ x = Z i := by
  rw [List.getElem?_map] at h
  by_cases hi : i < len
  · rw [List.getElem?_eq_getElem (by simpa using hi)] at h
    simp at h
    exact ⟨hi, h.symm⟩
  · rw [List.getElem?_eq_none (by simp; omega)] at h
    cases h
/-- a slice of entries that came in. -/
theorem open_kept {r : Reach} {b0 : Nat} {t e es : TypeId} {f0 f1 f2 f3 g0 g1 : Field} {v : Value} {d : DataW H} {p : List MemPlace} (ht : P.underlying t = some (.slice e)) (he : P.underlying e = some (.struct #[f0, f1, f2, f3]))
    (ce : P.cellsOf e = 4) (o0 : f0.offset = 0) (o1 : f1.offset = 1) (o2 : f2.offset = 2) (o3 : f3.offset = 3) (c0 : P.cellsOf f0.type = 1) (c1 : P.cellsOf f1.type = 1) (c2 : P.cellsOf f2.type = 1) (c3 : P.cellsOf f3.type = 1)
    (h0 : P.underlying f0.type = some .string) (h1 : P.underlying f1.type = some (.int .i64)) (h2 : P.underlying f2.type = some (.int .i64)) (h3 : P.underlying f3.type = some (.slice es))
    (hs : P.underlying es = some (.struct #[g0, g1])) (cs : P.cellsOf es = 2) (p0 : g0.offset = 0) (p1 : g1.offset = 1) (q0 : P.cellsOf g0.type = 1) (q1 : P.cellsOf g1.type = 1)
    (i0 : P.underlying g0.type = some (.int .i64)) (i1 : P.underlying g1.type = some .string)
    (hv : Value.okWide P w r b0 t v) (h : DataW.Trod enc P w base spare held t v d p) :
    ∃ (a : Option Addr) (cap : Nat) (ls : List Ent), v = .slice a ls.length cap ∧ KRow w a ls ∧
      (ls = [] ∨ ∃ (D : Nat → DataW H) (sp : List (DataW H)), d = .slice ((List.range ls.length).map D) sp ∧ ∀ i x, ls[i]? = some x → (Lit.int .i64 x.size).wf = true ∧ (Lit.int .i64 x.time).wf = true ∧ ∃ z, D i = .agg [.lit (.string x.path.data.toList), .lit (.int .i64 x.size), .lit (.int .i64 x.time), z] ∧ SumDat z x.sums) := by
  obtain ⟨a0, len, cap, rfl⟩ := okWide_slice ht hv
  obtain ⟨fuel, hf⟩ := h
  rcases open_slice ht hf with ⟨hcs, _⟩ | ⟨a, len', cap', m, n, D, Pl, hcs, hb, hl, hm, hmm, hx, hj⟩
  · simp [Value.cells] at hcs
    obtain ⟨rfl, rfl, rfl⟩ := hcs
    exact ⟨none, 0, [], rfl, fun i e hi => (by cases hi), Or.inl rfl⟩
  · simp [Value.cells] at hcs
    obtain ⟨rfl, rfl, rfl⟩ := hcs
    simp only [Prod.mk.injEq] at hx
    obtain ⟨rfl, _⟩ := hx
    have hlm : len ≤ m := by rw [hmm]; split <;> omega
    have hspot : 0 < len → a.spot = none := by
      intro h0l
      obtain ⟨cs', k1, k2⟩ := hj 0 (by omega)
      rw [ce] at k1
      obtain ⟨_, hlen, hcell⟩ := World.cells?_some k1
      have z0 := hcell 0 (by omega)
      have hl2 : 0 < cs'.length := by omega
      rw [List.getElem?_eq_getElem hl2] at z0
      have := spot_none z0
      simpa [Addr.add] using this
    have key : ∀ i, ∃ z : Ent, i < len → (∃ b off, a = ⟨b, off, none⟩ ∧ b < w.heap.size ∧ w.cell? ⟨b, off + i * 4, none⟩ = some (.string z.path) ∧ w.cell? ⟨b, off + i * 4 + 1, none⟩ = some (.int .i64 z.size) ∧ w.cell? ⟨b, off + i * 4 + 2, none⟩ = some (.int .i64 z.time) ∧ w.cell? ⟨b, off + i * 4 + 3, none⟩ = some z.sv ∧ SumVal w z.sv z.sums) ∧
        (Lit.int .i64 z.size).wf = true ∧ (Lit.int .i64 z.time).wf = true ∧ ∃ y, D i = .agg [.lit (.string z.path.data.toList), .lit (.int .i64 z.size), .lit (.int .i64 z.time), y] ∧ SumDat y z.sums := by
      intro i
      by_cases hi : i < len
      · obtain ⟨cs', k1, k2⟩ := hj i (by omega)
        rw [ce] at k1
        obtain ⟨_, hlen, hcell⟩ := World.cells?_some k1
        obtain ⟨xs, k, hk, hxy, _, hxl, hfs⟩ := DataW.trod_struct he k2
        match xs, hxl, cs', hlen with
        | [y0, y1, y2, y3], _, [v0, v1, v2, v3], _ =>
          have m0 := hfs 0 f0 rfl
          have m1 := hfs 1 f1 rfl
          have m2 := hfs 2 f2 rfl
          have m3 := hfs 3 f3 rfl
          simp [o0, o1, o2, o3, c0, c1, c2, c3] at m0 m1 m2 m3
          obtain ⟨pt, a1, a2, _⟩ := DataW.trod_string h0 m0
          obtain ⟨sz, b1, b2, wz⟩ := DataW.trod_int h1 m1
          obtain ⟨tm, d1, d2, wt⟩ := DataW.trod_int h2 m2
          obtain ⟨sv, l, e1, hsv, hsd⟩ := open_sums h3 hs cs p0 p1 q0 q1 i0 i1 m3
          simp only [List.cons.injEq, and_true] at a1 b1 d1 e1
          subst a1 b1 d1 e1 a2 b2 d2
          have z0 := hcell 0 (by omega)
          have z1 := hcell 1 (by omega)
          have z2 := hcell 2 (by omega)
          have z3 := hcell 3 (by omega)
          obtain ⟨b, off, spt⟩ := a
          have hsp : spt = none := hspot (by omega)
          subst hsp
          rw [addr_add, addr_add] at z0 z1 z2 z3
          simp only [Prod.mk.injEq] at hxy
          refine ⟨⟨pt, sz, tm, v3, l⟩, fun _ => ⟨⟨b, off, rfl, World.block_lt_of_cell? _ _ z0, ?_, ?_, ?_, ?_, hsv⟩, wz, wt, y3.1, ?_, hsd⟩⟩
          · simpa using z0
          · simpa using z1
          · simpa using z2
          · simpa using z3
          · exact hxy.1
      · exact ⟨⟨⟨#[]⟩, 0, 0, .slice none 0 0, []⟩, fun h => absurd h hi⟩
    obtain ⟨Z, hZ⟩ := Classical.axiomOfChoice key
    refine ⟨some a, cap, (List.range len).map Z, by simp, ?_, Or.inr ⟨D, (List.range (m - len)).map fun j => D (len + j), by rw [List.length_map, List.length_range], ?_⟩⟩
    · intro i x hi
      obtain ⟨hil, rfl⟩ := ent_at hi
      obtain ⟨⟨b, off, ha, hr⟩, _⟩ := hZ i hil
      exact ⟨b, off, by rw [ha], hr⟩
    · intro i x hi
      obtain ⟨hil, rfl⟩ := ent_at hi
      exact (hZ i hil).2
end
/-- the sums stay while what lay stays. -/
theorem SumVal.below {w w' : World} {v : Value} {l : List (Int × ByteArray)} (h : SumVal w v l) (hb : Below w.heap.size w w') : SumVal w' v l := by
  obtain ⟨a, cap, rfl, hc⟩ := h
  refine ⟨a, cap, rfl, fun x y hxy => ?_⟩
  obtain ⟨b, off, rfl, hlt, c0, c1, c2, c3⟩ := hc x y hxy
  exact ⟨b, off, rfl, Nat.lt_of_lt_of_le hlt hb.size, (hb.cell (p := ⟨b, off, none⟩) hlt).trans c0, (hb.cell (p := ⟨b, off + 1, none⟩) hlt).trans c1, (hb.cell (p := ⟨b, off + 2, none⟩) hlt).trans c2, (hb.cell (p := ⟨b, off + 3, none⟩) hlt).trans c3⟩
/-- a list of entries stays. -/
theorem KRow.below {w w' : World} {a : Option Addr} {ls : List Ent} (h : KRow w a ls) (hb : Below w.heap.size w w') : KRow w' a ls := fun i e he => by
  obtain ⟨b, off, rfl, hlt, c0, c1, c2, c3, hs⟩ := h i e he
  exact ⟨b, off, rfl, Nat.lt_of_lt_of_le hlt hb.size, (hb.cell (p := ⟨b, off + i * 4, none⟩) hlt).trans c0, (hb.cell (p := ⟨b, off + i * 4 + 1, none⟩) hlt).trans c1, (hb.cell (p := ⟨b, off + i * 4 + 2, none⟩) hlt).trans c2, (hb.cell (p := ⟨b, off + i * 4 + 3, none⟩) hlt).trans c3, hs.below hb⟩
end Go.Proofs.Kl
