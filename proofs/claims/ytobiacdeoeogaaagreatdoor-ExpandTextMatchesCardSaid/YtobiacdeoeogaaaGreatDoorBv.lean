import Derived.Test.YtobiacdeoeogaaaGreatDoorBs
import Derived.Test.YtobiacdeoeogaaaGreatDoorAc
import Derived.Test.YtobiacdeoeogaaaGreatDoorBx
import Derived.Test.YtobiacdeoeogaaaGreatDoorAi
set_option linter.unusedVariables false
set_option linter.unusedSimpArgs false
namespace Go.Proofs.YtobiacdeoeogaaaGreatDoor
open Go.RowKit
theorem w4_lt (l : List UInt8) (i : Nat) : w4 l i < 4294967296 := by
  unfold w4
  have h0 := (l.getD i 0).toNat_lt
  have h1 := (l.getD (i + 1) 0).toNat_lt
  have h2 := (l.getD (i + 2) 0).toNat_lt
  have h3 := (l.getD (i + 3) 0).toNat_lt
  omega
theorem w4_drop (l : List UInt8) (k i : Nat) : w4 (l.drop k) i = w4 l (k + i) := by
  unfold w4
  simp [List.getD_eq_getElem?_getD, Nat.add_assoc]
set_option maxRecDepth 100000 in
set_option maxHeartbeats 4000000 in
theorem blocksOf_gen (n b : Nat) (w : World) (h : n ≤ 4294967296) (hb : 1 ≤ b) (hb2 : b ≤ 4294967296) : Calls Tryz.prog 57 #[.int .i64 (n : Int), .int .i64 (b : Int)] w fun e w' => e = .returned (.int .i64 (((n + b - 1) / b : Nat) : Int)) ∧ w' = w := by
  have hne : ((b : Int) == 0) = false := by simp; omega
  have hne2 : ¬ (b : Int) = 0 := by omega
  have hq : ((n : Int) + (b : Int) - 1).tdiv (b : Int) = (((n + b - 1) / b : Nat) : Int) := by
    rw [show (n : Int) + (b : Int) - 1 = ((n + b - 1 : Nat) : Int) by omega]
    rfl
  have hql : (n + b - 1) / b ≤ n + b - 1 := Nat.div_le_self _ _
  generalize (n + b - 1) / b = r at *
  go_enter Tryz.func57, Tryz.ntmps57
  go_wp2_with fail
  go_ret
  exact ⟨rfl, rfl⟩
set_option maxRecDepth 100000 in
set_option maxHeartbeats 4000000 in
theorem tailLength_ok (n b : Nat) (w : World) (h : n ≤ 4294967296) (hb : 1 ≤ b) (hb2 : b ≤ 4294967296) : Calls Tryz.prog 31 #[.int .i64 (n : Int), .int .i64 (b : Int)] w fun e w' => e = .returned (.int .i64 ((4 * ((n + b - 1) / b) + 12 : Nat) : Int)) ∧ w' = w := by
  have hql : (n + b - 1) / b ≤ n + b - 1 := Nat.div_le_self _ _
  have C := Lib.hid (blocksOf_gen n b w h hb hb2)
  generalize (n + b - 1) / b = r at *
  go_enter Tryz.func31, Tryz.ntmps31
  go_wp2_with fail
  refine C.out.mono ?_
  rintro e w' ⟨rfl, rfl⟩
  go_wp2_with fail
  go_ret
  refine ⟨?_, rfl⟩
  have e : ((4 * r + 12 : Nat) : Int) = 4 * (r : Int) + 12 := by omega
  rw [e]
  rfl
set_option maxRecDepth 100000 in
set_option maxHeartbeats 4000000 in
theorem readEnd_short (t : ByteArray) (w : World) (h : t.size < 12) : Calls Tryz.prog 30 #[.string t] w fun e w' => e = .returned (.tuple #[.int .i64 0, .int .i64 0, .bool false]) ∧ w' = w := by
  have hd : decide ((t.size : Int) < 12) = true := decide_eq_true (by omega)
  have hd2 : (t.size : Int) < 12 := by omega
  go_enter Tryz.func30, Tryz.ntmps30
  go_wp2_with fail
  go_ret3
  exact ⟨rfl, rfl⟩
end Go.Proofs.YtobiacdeoeogaaaGreatDoor

set_option linter.unusedVariables false
set_option linter.unusedSimpArgs false
namespace Go.Proofs.YtobiacdeoeogaaaGreatDoor
open Go.RowKit
theorem ba_size_ext (t : ByteArray) (a b : Nat) : (t.extract a b).size = min b t.size - a := by
  simp
set_option maxRecDepth 100000 in
set_option maxHeartbeats 8000000 in
theorem readEnd_ok (t : ByteArray) (w : World) (h : 12 ≤ t.size) (h2 : t.size ≤ 2097152) (a z : Nat) (ok : Bool) (ha : w4 t.data.toList (t.size - 12) = a) (hz0 : w4 t.data.toList (t.size - 8) = z) (hok : ok = decide (16 ≤ a ∧ a ≤ 16384 ∧ z ≤ 1048576)) : Calls Tryz.prog 30 #[.string t] w fun e w' => e = .returned (.tuple #[.int .i64 (a : Int), .int .i64 (z : Int), .bool ok]) ∧ ∃ q, w' = w.drewN q := by
  have hd : decide ((t.size : Int) < 12) = false := decide_eq_false (by omega)
  have hd2 : ¬ (t.size : Int) < 12 := by omega
  obtain ⟨k, hk⟩ : ∃ k : Nat, (t.size : Int) - 12 = (k : Int) := ⟨t.size - 12, by omega⟩
  have hkn : k = t.size - 12 := by omega
  obtain ⟨e12, h12⟩ : ∃ e, t.extract k t.size = e := ⟨_, rfl⟩
  have hz : e12.size = 12 := by rw [← h12]; simp; omega
  have hkl : (k : Int) ≤ (t.size : Int) := by omega
  obtain ⟨e8, h8⟩ : ∃ e, e12.extract 4 12 = e := ⟨_, rfl⟩
  have hz8 : e8.size = 8 := by rw [← h8]; simp; omega
  have l12 : e12.data.toList = t.data.toList.drop k := by
    rw [← h12, ex_listH, List.take_of_length_le]
    rw [List.length_drop, ← Lib.size_eq]; omega
  have l8 : e8.data.toList = e12.data.toList.drop 4 := by
    rw [← h8, ex_listH, List.take_of_length_le]
    rw [List.length_drop, ← Lib.size_eq]; omega
  have e1 : w4 e12.data.toList 0 = a := by rw [l12, w4_drop, ← ha, hkn, Nat.add_zero]
  have e2 : w4 e8.data.toList 0 = z := by rw [l8, w4_drop, l12, w4_drop, ← hz0, hkn, Nat.add_zero, show t.size - 12 + 4 = t.size - 8 by omega]
  have la : a < 4294967296 := by rw [← ha]; exact w4_lt _ _
  have lz : z < 4294967296 := by rw [← hz0]; exact w4_lt _ _
  have F1 := fun w => fourNumber_ok e12 w (by omega)
  have F2 := fun w => fourNumber_ok e8 w (by omega)
  rw [e1] at F1
  rw [e2] at F2
  have G1 := Lib.hid F1
  have G2 := Lib.hid F2
  clear F1 F2
  have HOK := Lib.hid hok
  clear hkn l12 l8 e1 e2 ha hz0 hok
  go_enter Tryz.func30, Tryz.ntmps30
  go_wp2_with fail
  go_quiet ((go_at_call 61; first | with_reducible exact Calls.quiet_of (G1.out _) | with_reducible exact Calls.quiet_of (G2.out _)))
  by_cases c1 : 16 ≤ a
  · have d1 : decide ((a : Int) ≥ 16) = true := decide_eq_true (by omega)
    by_cases c2 : a ≤ 16384
    · have d2 : decide ((a : Int) ≤ 16384) = true := decide_eq_true (by omega)
      by_cases c3 : z ≤ 1048576
      · have d3 : decide ((z : Int) ≤ 1048576) = true := decide_eq_true (by omega)
        have hv : ok = true := by rw [HOK.out]; exact decide_eq_true ⟨c1, c2, c3⟩
        subst hv
        go_wp2_with fail
        go_ret3
        exact ⟨rfl, _, rfl⟩
      · have d3 : decide ((z : Int) ≤ 1048576) = false := decide_eq_false (by omega)
        have hv : ok = false := by rw [HOK.out]; exact decide_eq_false (fun h => c3 h.2.2)
        subst hv
        go_wp2_with fail
        go_ret3
        exact ⟨rfl, _, rfl⟩
    · have d2 : decide ((a : Int) ≤ 16384) = false := decide_eq_false (by omega)
      have hv : ok = false := by rw [HOK.out]; exact decide_eq_false (fun h => c2 h.2.1)
      subst hv
      go_wp2_with fail
      go_ret3
      exact ⟨rfl, _, rfl⟩
  · have d1 : decide ((a : Int) ≥ 16) = false := decide_eq_false (by omega)
    have hv : ok = false := by rw [HOK.out]; exact decide_eq_false (fun h => c1 h.1)
    subst hv
    go_wp2_with fail
    go_ret3
    exact ⟨rfl, _, rfl⟩
end Go.Proofs.YtobiacdeoeogaaaGreatDoor

set_option linter.unusedVariables false
set_option linter.unusedSimpArgs false
namespace Go.Proofs.YtobiacdeoeogaaaGreatDoor
open Go.RowKit
/-- a builder by itself. -/
def OB (B b : Nat) (l : List UInt8) (w : World) : Prop := Lib.IsBuilder 50 5 B b (Lib.byteCells l) w
theorem OB.lt {B b : Nat} {l : List UInt8} {w : World} (h : OB B b l w) : B ≤ w.heap.size := by
  rcases h with h | h
  · have h1 := h.lt; have h2 := h.1; omega
  · have h1 := h.lt; have h2 := h.1; omega
theorem OB.made (w : World) : OB w.heap.size w.heap.size [] (w.alloc (.cells #[.pointer none, .slice none 0 0] 50)) :=
  Or.inl ⟨Nat.le_refl _, .slice none 0 0, heap_alloc_new _ _, World.ownsRow_nil _ _ _ _, by simp [Value.ownBlock]⟩
theorem OB.below {B b : Nat} {l : List UInt8} {w w' : World} (h : OB B b l w) (k : Below w.heap.size w w') : OB B b l w' := by
  rcases h with h | h
  · have hlt := h.lt
    obtain ⟨h1, v, h2, h3, h4⟩ := h
    exact Or.inl ⟨h1, v, (k.block b hlt).trans h2, own_same h3 (fun g hg => k.block g (own_lt h3 hg).2), h4⟩
  · have hlt := h.lt
    obtain ⟨h1, v, h2, h3, h4⟩ := h
    exact Or.inr ⟨h1, v, (k.block b hlt).trans h2, own_same h3 (fun g hg => k.block g (own_lt h3 hg).2), h4⟩
theorem OB.write {B b : Nat} {l : List UInt8} {w0 w : World} (h : OB B b l w) (hB : Below B w0 w) (t : ByteArray) (hlen : l.length + t.size ≤ 140737488355328) :
    Calls Tryz.prog 21 #[pt b, .string t] w fun e w' => e = .returned (.tuple #[.int .i64 t.size, .nilIface]) ∧ OB B b (l ++ t.data.toList) w' ∧ Below B w0 w' := by
  have hl : (Lib.byteCells l).length = l.length := by simp [Lib.byteCells]
  refine (Any.Builder_WriteString { Tryz.lays156 with } Tryz.Builder_Extra_156 B b (Lib.byteCells l) t w h (by rw [hl]; exact hlen) h.lt).mono ?_
  rintro e w' ⟨rfl, h1, h2⟩
  refine ⟨rfl, Or.inr ?_, hB.trans h2⟩
  have e : Lib.byteCells (l ++ t.data.toList) = Lib.byteCells l ++ Lib.strCells t := by simp [Lib.byteCells, Lib.strCells]
  rw [e]
  exact h1
theorem OB.text {B b : Nat} {l : List UInt8} {w0 w : World} (h : OB B b l w) (hB : Below B w0 w) : Calls Tryz.prog 24 #[pt b] w fun e w' => e = .returned (.string ⟨l.toArray⟩) ∧ Below B w0 w' := by
  refine (Tryz.Builder_String_any B b l w h h.lt).mono ?_
  rintro e w' ⟨rfl, h1⟩
  exact ⟨rfl, hB.trans h1⟩
end Go.Proofs.YtobiacdeoeogaaaGreatDoor
