import Derived.Test.YtobiacdeoeogaaaGreatDoorBq
import Derived.Test.YtobiacdeoeogaaaGreatDoorBf
set_option linter.unusedVariables false
set_option linter.unusedSimpArgs false
namespace Go.Proofs.YtobiacdeoeogaaaGreatDoor
open Go.RowKit
set_option maxRecDepth 100000 in
set_option maxHeartbeats 4000000 in
theorem SqueezeText_low (n : Int) (out : ByteArray) (w : World) (h : n < 16) : Calls Tryz.prog 6 #[.int .i64 n, .string out] w fun e w' => e = .returned (.tuple #[.string ⟨#[]⟩, .int .i64 7]) ∧ w' = w := by
  have hd1 : decide (n < 16) = true := decide_eq_true h
  go_enter Tryz.func6, Tryz.ntmps6
  go_wp2_with fail
  go_ret2
  exact ⟨rfl, rfl⟩
set_option maxRecDepth 100000 in
set_option maxHeartbeats 4000000 in
theorem SqueezeText_high (n : Int) (out : ByteArray) (w : World) (h : 16384 < n) : Calls Tryz.prog 6 #[.int .i64 n, .string out] w fun e w' => e = .returned (.tuple #[.string ⟨#[]⟩, .int .i64 7]) ∧ w' = w := by
  have hd1 : decide (n < 16) = false := decide_eq_false (by omega)
  have hd2 : decide (n > 16384) = true := decide_eq_true (by omega)
  go_enter Tryz.func6, Tryz.ntmps6
  go_wp2_with fail
  go_ret2
  exact ⟨rfl, rfl⟩
set_option maxRecDepth 100000 in
set_option maxHeartbeats 4000000 in
theorem SqueezeText_long (n : Int) (out : ByteArray) (w : World) (h1 : 16 ≤ n) (h2 : n ≤ 16384) (h : 1048576 < out.size) : Calls Tryz.prog 6 #[.int .i64 n, .string out] w fun e w' => e = .returned (.tuple #[.string ⟨#[]⟩, .int .i64 8]) ∧ w' = w := by
  have hd1 : decide (n < 16) = false := decide_eq_false (by omega)
  have hd2 : decide (n > 16384) = false := decide_eq_false (by omega)
  have hd3 : decide ((out.size : Int) > 1048576) = true := decide_eq_true (by omega)
  have hd4 : (1048576 : Int) < (out.size : Int) := by omega
  go_enter Tryz.func6, Tryz.ntmps6
  go_wp2_with fail
  go_ret2
  exact ⟨rfl, rfl⟩
theorem or_shift (a b k : Nat) (h : b < 2 ^ k) : (a * 2 ^ k) ||| b = a * 2 ^ k + b := by
  have := Nat.shiftLeft_add_eq_or_of_lt h a
  rw [Nat.shiftLeft_eq] at this
  exact this.symm
theorem or4_1 (x y : Nat) (hx : x < 256) (hy : y < 256) : bits .or .i64 ((x : Int) * 16777216) ((y : Int) * 65536) = ((x * 16777216 + y * 65536 : Nat) : Int) := by
  have := i64_or_nat (x * 16777216) (y * 65536) (by omega) (by omega)
  rw [or_shift x (y * 65536) 24 (by omega)] at this
  rw [← this]
  congr 1 <;> omega
theorem or4_2 (x y : Nat) (hx : x < 65536) (hy : y < 256) : bits .or .i64 ((x * 65536 : Nat) : Int) ((y : Int) * 256) = ((x * 65536 + y * 256 : Nat) : Int) := by
  have := i64_or_nat (x * 65536) (y * 256) (by omega) (by omega)
  rw [or_shift x (y * 256) 16 (by omega)] at this
  rw [← this]
  congr 1
theorem or4_3 (x y : Nat) (hx : x < 16777216) (hy : y < 256) : bits .or .i64 ((x * 256 : Nat) : Int) (y : Int) = ((x * 256 + y : Nat) : Int) := by
  have := i64_or_nat (x * 256) y (by omega) (by omega)
  rwa [or_shift x y 8 (by omega)] at this
theorem four_y1 {x0 x1 y1 : Nat} (h : x0 * 16777216 + x1 * 65536 = y1) : (x0 * 256 + x1) * 65536 = y1 := by rw [← h, Nat.add_mul, Nat.mul_assoc]
theorem four_y2 {x0 x1 x2 y1 y2 : Nat} (h : x0 * 16777216 + x1 * 65536 = y1) (h2 : y1 + x2 * 256 = y2) : ((x0 * 256 + x1) * 256 + x2) * 256 = y2 := by rw [← h2, ← h, Nat.add_mul, Nat.add_mul, Nat.add_mul, Nat.mul_assoc, Nat.mul_assoc, Nat.mul_assoc]
theorem four_y3 {x0 x1 x2 x3 y1 y2 r : Nat} (h : x0 * 16777216 + x1 * 65536 = y1) (h2 : y1 + x2 * 256 = y2) (hr : x0 * 16777216 + x1 * 65536 + x2 * 256 + x3 = r) : y2 + x3 = r := by rw [← hr, ← h2, ← h]
set_option maxRecDepth 100000 in
set_option maxHeartbeats 4000000 in
theorem fourNumber_ok (t : ByteArray) (w : World) (h4 : 4 ≤ t.size) : Calls Tryz.prog 61 #[.string t] w fun e w' => e = .returned (.int .i64 ((w4 t.data.toList 0 : Nat) : Int)) ∧ ∃ q, w' = w.drewN q := by
  have i0 := index_at t 0 _ (getD_at (by omega))
  have i1 := index_at t 1 _ (getD_at (by omega))
  have i2 := index_at t 2 _ (getD_at (by omega))
  have i3 := index_at t 3 _ (getD_at (by omega))
  obtain ⟨r, hr⟩ : ∃ r, w4 t.data.toList 0 = r := ⟨_, rfl⟩
  unfold w4 at hr
  rw [Nat.zero_add, Nat.zero_add, Nat.zero_add] at hr
  have hr' : w4 t.data.toList 0 = r := by unfold w4; rw [Nat.zero_add, Nat.zero_add, Nat.zero_add]; exact hr
  rw [hr']
  clear hr'
  have b0 := (t.data.toList.getD 0 0).toNat_lt
  have b1 := (t.data.toList.getD 1 0).toNat_lt
  have b2 := (t.data.toList.getD 2 0).toNat_lt
  have b3 := (t.data.toList.getD 3 0).toNat_lt
  generalize (t.data.toList.getD 0 0).toNat = x0 at *
  generalize (t.data.toList.getD 1 0).toNat = x1 at *
  generalize (t.data.toList.getD 2 0).toNat = x2 at *
  generalize (t.data.toList.getD 3 0).toNat = x3 at *
  have o1 := or4_1 x0 x1 (by omega) (by omega)
  generalize hy1 : x0 * 16777216 + x1 * 65536 = y1 at o1
  have o2 := or4_2 (x0 * 256 + x1) x2 (by omega) (by omega)
  rw [four_y1 hy1] at o2
  generalize hy2 : y1 + x2 * 256 = y2 at o2
  have o3 := or4_3 ((x0 * 256 + x1) * 256 + x2) x3 (by omega) (by omega)
  rw [four_y2 hy1 hy2] at o3
  rw [four_y3 hy1 hy2 hr] at o3
  clear hr hy1 hy2
  have i0' : ∀ w : World, (Instr.index 9 (.string t) (.int .i64 0)).run Tryz.prog w = .ok (.int .u8 (x0 : Int)) w := i0
  have i1' : ∀ w : World, (Instr.index 9 (.string t) (.int .i64 1)).run Tryz.prog w = .ok (.int .u8 (x1 : Int)) w := i1
  have i2' : ∀ w : World, (Instr.index 9 (.string t) (.int .i64 2)).run Tryz.prog w = .ok (.int .u8 (x2 : Int)) w := i2
  have i3' : ∀ w : World, (Instr.index 9 (.string t) (.int .i64 3)).run Tryz.prog w = .ok (.int .u8 (x3 : Int)) w := i3
  clear i0 i1 i2 i3
  go_enter Tryz.func61, Tryz.ntmps61
  go_wp2_with fail
  go_quiet (fail)
  go_wp2_with fail
  go_ret
  exact ⟨rfl, _, rfl⟩
end Go.Proofs.YtobiacdeoeogaaaGreatDoor
