import Derived.Test.YtnjmcppljbkhnaaU
import Derived.Test.YtnjmcppljbkhnaaN
import Derived.Test.YtnjmcppljbkhnaaK
set_option linter.unusedVariables false
set_option linter.unusedSimpArgs false
namespace Go.Proofs.Ytnjmcppljbkhnaa
open Go.RowKit

theorem zerosB_size (n : Nat) : (zerosB n).size = n := by simp [zerosB, ByteArray.size]
theorem zerosB_succ (n : Nat) : zerosB n ++ ⟨#[0]⟩ = zerosB (n + 1) := by
  unfold zerosB
  apply ByteArray.ext
  apply Array.ext'
  simp only [ByteArray.data_append, Array.toList_append]
  rw [List.replicate_succ']
theorem append_zeros (s : ByteArray) (n : Nat) : s ++ zerosB n ++ ⟨#[0]⟩ = s ++ zerosB (n + 1) := by
  rw [ByteArray.append_assoc, zerosB_succ]
set_option maxHeartbeats 1000000 in
theorem evened51 (s : ByteArray) (w : World) (hs : s.size ≤ 140737488355328) :
    Calls Try.prog 51 #[.string s] w fun e w' => e = .returned (.string (s ++ zerosB (padN s.size))) ∧ w = w' := by
  have hp : padN s.size < 16 := Nat.mod_lt _ (by decide)
  have HP := Lib.hid (show padN s.size = (16 - s.size % 16) % 16 from rfl)
  generalize padN s.size = p at *
  go_enter Try.func51, Try.ntmps51
  go_wp2_with fail
  go_loop [0] (fun v => ∃ (k : Nat) (T : ByteArray), k ≤ p ∧ v = .string T ∧ Hid (T = s ++ zerosB k)) (fun v => s.size + 16 - (strOf v).size)
  case atStart =>
    refine ⟨0, s, by omega, rfl, ?_⟩
    show s = s ++ zerosB 0
    apply ByteArray.ext
    simp [zerosB]
  case round =>
    obtain ⟨k, T, hk, rfl, HT⟩ := hrel
    have hz : T.size = s.size + k := by rw [HT.out, ByteArray.size_append, zerosB_size]
    have hpe := HP.out
    have hb1 : T.size ≤ 140737488355400 := by omega
    by_cases hlt : T.size % 16 = 0
    · have q1 : ((T.size : Int) % 16 == 0) = true := by simp; omega
      have q2 : ((T.size : Int) % 16 != 0) = false := by simp; omega
      have HE := Lib.hid (show T = s ++ zerosB p from by rw [HT.out, show k = p by omega])
      clear hlt hz hpe
      go_wp2_with fail
      go_ret
      exact ⟨by rw [← HE.out]; rfl, rfl⟩
    · have q1 : ((T.size : Int) % 16 == 0) = false := by simp; omega
      have q2 : ((T.size : Int) % 16 != 0) = true := by simp; omega
      have HN := Lib.hid (show T ++ ⟨#[0]⟩ = s ++ zerosB (k + 1) from by rw [HT.out, append_zeros])
      have HK1 := Lib.hid (show k + 1 ≤ p by omega)
      have HZ := Lib.hid hz
      clear hlt hz hpe
      go_wp2_with fail
      go_round
      case rel => exact ⟨k + 1, _, HK1.out, rfl, HN.out⟩
      case measure =>
        have h1 := HZ.out
        have h2 := HK1.out
        show s.size + 16 - (T ++ ⟨#[0]⟩ : ByteArray).size < s.size + 16 - T.size
        rw [ByteArray.size_append]
        show s.size + 16 - (T.size + 1) < _
        omega
theorem two_lits (n : Nat) (hn : n < 18446744073709551616) : litB (n % 4294967296) ++ litB (n / 4294967296) = strB 8 (bytesN n) := by
  unfold litB
  have e1 : strB 4 (bytesN (n % 4294967296)) = strB 4 (bytesN n) := strB_congr fun i hi => by
    unfold bytesN
    have : i = 0 ∨ i = 1 ∨ i = 2 ∨ i = 3 := by omega
    rcases this with rfl | rfl | rfl | rfl <;> simp only [Nat.reducePow] <;> omega
  rw [e1]
  exact strB_join 4 4 (bytesN n) (bytesN (n / 4294967296)) (fun j hj => by
    unfold bytesN
    have : j = 0 ∨ j = 1 ∨ j = 2 ∨ j = 3 := by omega
    rcases this with rfl | rfl | rfl | rfl <;> simp only [Nat.reducePow, Nat.reduceAdd] <;> omega)
set_option maxRecDepth 100000 in
set_option maxHeartbeats 1000000 in
theorem sizeText52 (n : Nat) (w : World) (hn : n ≤ 140737488355328) :
    Calls Try.prog 52 #[.int .i64 n] w fun e w' => e = .returned (.string (strB 8 (bytesN n))) ∧ Below w.heap.size w w' := by
  have HT := Lib.hid (two_lits n (by omega))
  have HC1 := Lib.hid (fun w => show Calls Try.prog 81 #[.int .u32 ((n : Int) % 4294967296)] w fun e w' => e = .returned (.string (litB (n % 4294967296))) ∧ Below w.heap.size w w' from by
    rw [show (n : Int) % 4294967296 = ((n % 4294967296 : Nat) : Int) by omega]
    exact little81 (n % 4294967296) w (Nat.mod_lt _ (by decide)))
  have HC2 := Lib.hid (fun w => show Calls Try.prog 81 #[.int .u32 ((n : Int) / 4294967296)] w fun e w' => e = .returned (.string (litB (n / 4294967296))) ∧ Below w.heap.size w w' from by
    rw [show (n : Int) / 4294967296 = ((n / 4294967296 : Nat) : Int) by omega]
    exact little81 (n / 4294967296) w (by omega))
  have hl1 : (litB (n % 4294967296)).size ≤ 4 := by rw [litB_size]; omega
  have hl2 : (litB (n / 4294967296)).size ≤ 4 := by rw [litB_size]; omega
  generalize litB (n % 4294967296) = A at *
  generalize litB (n / 4294967296) = B at *
  go_enter Try.func52, Try.ntmps52
  go_wp2_with fail
  refine (HC1.out _).mono ?_
  rintro e w1 ⟨rfl, b1⟩
  have HB1 := Lib.hid b1
  clear b1
  go_wp2_with fail
  refine (HC2.out _).mono ?_
  rintro e w2 ⟨rfl, b2⟩
  have HB2 := Lib.hid (below_step HB1.out (Nat.le_refl _) b2)
  clear b2
  go_wp2_with fail
  go_ret
  exact ⟨by rw [← HT.out]; rfl, HB2.out⟩
end Go.Proofs.Ytnjmcppljbkhnaa
