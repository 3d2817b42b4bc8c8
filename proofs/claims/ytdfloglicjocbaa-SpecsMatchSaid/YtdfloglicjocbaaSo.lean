import Derived.Test.YtdfloglicjocbaaRo
import Derived.Test.YtdfloglicjocbaaSa
namespace Go.Proofs.Ytdfloglicjocbaa
open Go.ChangeShapes Go.WideShapes Go.RowKit Go.Deep
set_option maxRecDepth 100000 in
theorem fifteen_of {α : Type} {l : List α} (h : l.length = 15) : ∃ v0 v1 v2 v3 v4 v5 v6 v7 v8 v9 v10 v11 v12 v13 v14 : α, l = [v0, v1, v2, v3, v4, v5, v6, v7, v8, v9, v10, v11, v12, v13, v14] := by
  match l, h with
  | [v0, v1, v2, v3, v4, v5, v6, v7, v8, v9, v10, v11, v12, v13, v14], _ => exact ⟨v0, v1, v2, v3, v4, v5, v6, v7, v8, v9, v10, v11, v12, v13, v14, rfl⟩

section
variable {H : Type} {enc : TypeId × Value → H} {P : Program} {w : World} {base : Nat} {spare : Nat → Bool} {held : Bool}

theorem flat_of_cells {t e : TypeId} {kd : IntKind} {c fuel : Nat} {cs : List Value} {x : DataW H × List MemPlace} (ht : P.underlying t = some (.slice e)) (hC : P.cellsOf e = c)
    (hflat : ∀ (n : Nat) (cs' : List Value) (x : DataW H × List MemPlace), DataW.trod enc P w base spare held n e cs' = some x → ∃ ns : List Int, cs' = ns.map (Value.int kd) ∧ ns.length = c ∧ ∀ n ∈ ns, (Lit.int kd n).wf = true)
    (hf : DataW.trod enc P w base spare held fuel t cs = some x) :
    ∃ (a : Option Addr) (cap : Nat) (xs : List (List Int)), cs = [.slice a xs.length cap] ∧ xs.length ≤ maxLen ∧
      ∀ i j, i < xs.length → j < c → ∃ b off, a = some ⟨b, off, none⟩ ∧ b < w.heap.size ∧ w.cell? ⟨b, off + i * c + j, none⟩ = some (.int kd ((xs.getD i []).getD j 0)) := by
  rcases open_slice ht hf with ⟨hcs, _⟩ | ⟨a, len, cap, m, n, D, Pl, hcs, hb, hl, hm, hmm, hx, hi⟩
  · exact ⟨none, 0, [], hcs, by simp, by simp⟩
  · have hlm : len ≤ m := by rw [hmm]; split <;> omega
    have key : ∀ i, ∃ ns : List Int, i < len → (ns.length = c ∧ (∀ n ∈ ns, (Lit.int kd n).wf = true) ∧ ∀ j, j < c → w.cell? ((a.add (i * c)).add j) = some (.int kd (ns.getD j 0))) := by
      intro i
      by_cases hil : i < len
      · obtain ⟨cs', h1, h2⟩ := hi i (by omega)
        obtain ⟨ns, rfl, hln, hwf⟩ := hflat _ _ _ h2
        rw [hC] at h1
        obtain ⟨_, _, h3⟩ := World.cells?_some h1
        refine ⟨ns, fun _ => ⟨hln, hwf, fun j hj => ?_⟩⟩
        rw [h3 j hj]
        simp [List.getElem?_eq_getElem (show j < ns.length by omega)]
      · exact ⟨[], fun h => absurd h hil⟩
    refine ⟨some a, cap, (List.range len).map (fun i => (key i).choose), by simpa using hcs, by simp; omega, ?_⟩
    intro i j hil hj
    have hil' : i < len := by simpa using hil
    have hc := ((key i).choose_spec hil').2.2 j hj
    obtain ⟨b, off, sp⟩ := a
    have hsp : sp = none := by
      have h00 := ((key 0).choose_spec (by omega)).2.2 0 (by omega)
      simpa [Addr.add] using World.cell?_spot h00
    subst hsp
    refine ⟨b, off, rfl, ?_, ?_⟩
    · rcases Nat.lt_or_ge b w.heap.size with h1 | h1
      · exact h1
      · have hblk : ((Addr.add ⟨b, off, none⟩ (i * c)).add j).block = b := by unfold Addr.add; split <;> split <;> rfl
        rw [World.cell?] at hc
        simp [hblk, Array.getElem?_eq_none h1] at hc
    · have ha : ((Addr.add ⟨b, off, none⟩ (i * c)).add j) = ⟨b, off + i * c + j, none⟩ := by
        unfold Addr.add
        by_cases h1 : i * c = 0 <;> by_cases h2 : j = 0 <;> simp [h1, h2]
      rw [ha] at hc
      rw [hc]
      simp [hil']

theorem int_cell {t : TypeId} {n i : Nat} {v : Value} {ys : List (DataW H × List MemPlace)} (ht : P.underlying t = some (.int .i64)) (hi : i < ys.length) (h : DataW.trod enc P w base spare held n t [v] = ys[i]?) : ∃ m : Int, v = .int .i64 m := by
  rw [List.getElem?_eq_getElem hi] at h
  obtain ⟨m, e, _⟩ := DataW.trod_int ht h
  exact ⟨m, by simpa using e⟩
end
section
variable {H : Type} {enc : TypeId × Value → H} {w : World} {base : Nat} {spare : Nat → Bool} {held : Bool}
set_option maxRecDepth 100000 in
set_option maxHeartbeats 1000000 in
theorem open_spec {r : Reach} {b0 : Nat} {v : Value} {d : DataW H} {q : List MemPlace}
    (hv : Value.okWide Try.prog w r b0 62 v) (h : DataW.Trod enc Try.prog w base spare held 62 v d q) :
    ∃ (c p pc sp lt od sd lm f m k j t burst : Int) (a : Option Addr) (cap : Nat) (xs : List (Int × Int)), xs.length ≤ maxLen ∧ Row2 w w.heap.size a xs ∧ v = .agg (spC c p pc sp lt od sd lm f m k j t (.slice a xs.length cap) burst) := by
  obtain ⟨cs, rfl, _⟩ := okWide_struct Try.underlying62 hv
  obtain ⟨fuel, hf⟩ := h
  obtain ⟨ys, n, _, _, hlen, hyl, hfield⟩ := DataW.trod_struct Try.underlying62 hf
  have c62 : Try.prog.cellsOf 62 = 15 := by kernel_rfl
  have c3 : Try.prog.cellsOf 3 = 1 := by kernel_rfl
  have c23 : Try.prog.cellsOf 23 = 5 := by kernel_rfl
  have c47 : Try.prog.cellsOf 47 = 1 := by kernel_rfl
  have hyl' : ys.length = 11 := by rw [hyl]; rfl
  rw [c62] at hlen
  obtain ⟨v0, v1, v2, v3, v4, v5, v6, v7, v8, v9, v10, v11, v12, v13, v14, hl⟩ := fifteen_of hlen
  have f0 : DataW.trod enc Try.prog w base spare held n 3 (((Value.agg cs).cells.toList.drop 0).take (Try.prog.cellsOf 3)) = ys[0]? := hfield 0 _ rfl
  have f1 : DataW.trod enc Try.prog w base spare held n 3 (((Value.agg cs).cells.toList.drop 1).take (Try.prog.cellsOf 3)) = ys[1]? := hfield 1 _ rfl
  have f2 : DataW.trod enc Try.prog w base spare held n 3 (((Value.agg cs).cells.toList.drop 2).take (Try.prog.cellsOf 3)) = ys[2]? := hfield 2 _ rfl
  have f3 : DataW.trod enc Try.prog w base spare held n 3 (((Value.agg cs).cells.toList.drop 3).take (Try.prog.cellsOf 3)) = ys[3]? := hfield 3 _ rfl
  have f4 : DataW.trod enc Try.prog w base spare held n 3 (((Value.agg cs).cells.toList.drop 4).take (Try.prog.cellsOf 3)) = ys[4]? := hfield 4 _ rfl
  have f5 : DataW.trod enc Try.prog w base spare held n 3 (((Value.agg cs).cells.toList.drop 5).take (Try.prog.cellsOf 3)) = ys[5]? := hfield 5 _ rfl
  have f6 : DataW.trod enc Try.prog w base spare held n 3 (((Value.agg cs).cells.toList.drop 6).take (Try.prog.cellsOf 3)) = ys[6]? := hfield 6 _ rfl
  have f7 : DataW.trod enc Try.prog w base spare held n 3 (((Value.agg cs).cells.toList.drop 7).take (Try.prog.cellsOf 3)) = ys[7]? := hfield 7 _ rfl
  have f8 : DataW.trod enc Try.prog w base spare held n 23 (((Value.agg cs).cells.toList.drop 8).take (Try.prog.cellsOf 23)) = ys[8]? := hfield 8 _ rfl
  have f9 : DataW.trod enc Try.prog w base spare held n 47 (((Value.agg cs).cells.toList.drop 13).take (Try.prog.cellsOf 47)) = ys[9]? := hfield 9 _ rfl
  have f10 : DataW.trod enc Try.prog w base spare held n 3 (((Value.agg cs).cells.toList.drop 14).take (Try.prog.cellsOf 3)) = ys[10]? := hfield 10 _ rfl
  simp only [hl, c3, c23, c47, List.drop_succ_cons, List.drop_zero, List.take_succ_cons, List.take_zero] at f0 f1 f2 f3 f4 f5 f6 f7 f8 f9 f10
  obtain ⟨m0, rfl⟩ := int_cell Try.underlying3 (by omega) f0
  obtain ⟨m1, rfl⟩ := int_cell Try.underlying3 (by omega) f1
  obtain ⟨m2, rfl⟩ := int_cell Try.underlying3 (by omega) f2
  obtain ⟨m3, rfl⟩ := int_cell Try.underlying3 (by omega) f3
  obtain ⟨m4, rfl⟩ := int_cell Try.underlying3 (by omega) f4
  obtain ⟨m5, rfl⟩ := int_cell Try.underlying3 (by omega) f5
  obtain ⟨m6, rfl⟩ := int_cell Try.underlying3 (by omega) f6
  obtain ⟨m7, rfl⟩ := int_cell Try.underlying3 (by omega) f7
  obtain ⟨m10, rfl⟩ := int_cell Try.underlying3 (by omega) f10
  rw [List.getElem?_eq_getElem (by omega)] at f8 f9
  obtain ⟨ns, e8, l8, _⟩ := struct_ints (e := 3) (kd := .i64) Try.underlying23 (by kernel_rfl) (by rw [c23]; rfl) (by kernel_rfl) Try.underlying3 f8
  obtain ⟨n0, n1, n2, n3, n4, rfl⟩ := five_of (by simpa using l8)
  obtain ⟨a, cap, xs, e9, lx, hx⟩ := flat_of_cells (kd := .i64) (c := 2) Try.underlying47 (by kernel_rfl) (fun n cs x hx => by
    obtain ⟨ns, e1, e2, e3⟩ := struct_ints (e := 3) (kd := .i64) Try.underlying93 (by kernel_rfl) (by kernel_rfl) (by kernel_rfl) Try.underlying3 hx
    exact ⟨ns, e1, by simpa using e2, e3⟩) f9
  simp only [List.map, List.cons.injEq, and_true] at e8 e9
  obtain ⟨rfl, rfl, rfl, rfl, rfl⟩ := e8
  subst e9
  refine ⟨m0, m1, m2, m3, m4, m5, m6, m7, n0, n1, n2, n3, n4, m10, a, cap, xs.map fun l => (l.getD 0 0, l.getD 1 0), by simpa using lx, ?_, ?_⟩
  · intro i hi
    have hi' : i < xs.length := by simpa using hi
    obtain ⟨b, off, rfl, hb, hc0⟩ := hx i 0 hi' (by omega)
    obtain ⟨b', off', e', _, hc1⟩ := hx i 1 hi' (by omega)
    cases e'
    refine ⟨b, off, rfl, hb, ?_, ?_⟩
    · simpa [List.getElem?_eq_getElem hi'] using hc0
    · simpa [List.getElem?_eq_getElem hi'] using hc1
  · rw [List.length_map]
    apply congrArg Value.agg
    apply Array.ext'
    exact hl
end
end Go.Proofs.Ytdfloglicjocbaa
