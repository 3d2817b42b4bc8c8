import Derived.Test.YtnjmcppljbkhnaaYd
set_option linter.unusedVariables false
set_option linter.unusedSimpArgs false
namespace Go.Proofs.Ytnjmcppljbkhnaa
open Go.RowKit
def madeI (w : World) (n : Nat) : World := w.alloc (.cells (madeCells (Value.int .i64 0).cells (n * 1)) 3)
theorem run_madeI (w : World) (n : Nat) (hn : n ≤ 1000000) : (Instr.makeSlice 89 (.int .i64 n) (.int .i64 n)).run Try.prog w = .ok (.slice (some ⟨w.heap.size, 0, none⟩) n n) (madeI w n) := by
  obtain ⟨i0, hi, hz0, hz1, hz2⟩ := info_parts info3d
  have h := run_make (P := Try.prog) w 89 3 i0 (.int .i64 0) underlying89d hi hz0 .i64 .i64 n n (by omega) (Int.le_refl _) (by rw [hz2]; omega) (by omega)
  rw [hz1] at h
  unfold madeI
  simpa using h
/-- cells of ints. -/
def IR (w : World) (g n : Nat) (f : Nat → Nat) : Prop := g < w.heap.size ∧ ∀ i, i < n → w.cell? ⟨g, i, none⟩ = some (.int .i64 (f i : Nat)) ∧ w.frozen? ⟨g, i, none⟩ = false
theorem IR.set {w : World} {g n : Nat} {f : Nat → Nat} (h : IR w g n f) (i v : Nat) (hi : i < n) : IR (w.setCell ⟨g, i, none⟩ (.int .i64 (v : Nat))) g n (upd f i v) := by
  refine ⟨by simpa [World.setCell] using h.1, fun j hj => ⟨?_, ?_⟩⟩
  · by_cases e : j = i
    · subst e
      rw [World.cell?_setCell_same' _ _ _ (by rw [(h.2 j hj).1]; rfl)]
      simp [upd]
    · rw [World.cell?_setCell_other _ _ _ _ (by intro hh; injection hh with _ h2 _; exact e h2.symm), (h.2 j hj).1]
      simp [upd, e]
  · rw [World.frozen?_setCell]; exact (h.2 j hj).2
theorem IR.below {w w' : World} {g n B : Nat} {f : Nat → Nat} (h : IR w g n f) (hb : Below B w w') (hg : g < B) : IR w' g n f :=
  ⟨Nat.lt_of_lt_of_le h.1 hb.size, fun i hi => ⟨(hb.cell (p := ⟨g, i, none⟩) hg).trans (h.2 i hi).1, (hb.frozen (p := ⟨g, i, none⟩) hg).trans (h.2 i hi).2⟩⟩
theorem IR.drew {w : World} {g n : Nat} {f : Nat → Nat} (h : IR w g n f) : IR w.drew g n f := ⟨h.1, fun i hi => h.2 i hi⟩
theorem madeI_below (w : World) (n : Nat) : Below w.heap.size w (madeI w n) := (Below.refl _ _).alloc (Nat.le_refl _) _
theorem madeI_size (w : World) (n : Nat) : (madeI w n).heap.size = w.heap.size + 1 := by simp [madeI]
theorem madeI_row (w : World) (n : Nat) : IR (madeI w n) w.heap.size n (fun _ => 0) := by
  refine ⟨by rw [madeI_size]; omega, fun i hi => ?_⟩
  have hb : Blk (madeI w n) w.heap.size 3 (madeCells (Value.int .i64 0).cells (n * 1)) := Blk.new w 3 _
  refine ⟨?_, hb.frozen i⟩
  rw [hb.cell i]
  simp [madeCells, Value.cells, hi, Nat.mod_one]
end Go.Proofs.Ytnjmcppljbkhnaa
