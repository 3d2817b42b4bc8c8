/-
  Stores side by side: the text of a number.
-/
import Derived.Test.YtpjnjhklkgefcaaGreatDoorZp
set_option linter.unusedVariables false
set_option linter.unusedSimpArgs false
namespace Go.Proofs.YtpjnjhklkgefcaaGreatDoor
open Go.RowKit
theorem conv3b (b1 b2 b3 : UInt8) (w : World) : (convert 117 9 (.slice (some ⟨w.heap.size, 0, none⟩) 3 3)).run Tryz.prog (w.alloc (.cells #[.int .u8 (b1.toNat : Int), .int .u8 (b2.toNat : Int), .int .u8 (b3.toNat : Int)] 5)) = .ok (.string ⟨#[b1, b2, b3]⟩) (w.alloc (.cells #[.int .u8 (b1.toNat : Int), .int .u8 (b2.toNat : Int), .int .u8 (b3.toNat : Int)] 5)) :=
  conv_block (l := [b1, b2, b3]) (heap_alloc_new w _) (by simp [Lib.byteCells])
theorem repeatL_len (l : List UInt8) (k : Nat) : (Lib.repeatL l k).length = k * l.length := by
  induction k with
  | zero => simp [Lib.repeatL]
  | succ k ih => simp [Lib.repeatL, ih, Nat.succ_mul]; omega
/-- the text of k times a text. -/
def repS (s : ByteArray) (k : Nat) : ByteArray := ⟨(Lib.repeatL s.data.toList k).toArray⟩
theorem repS_size (s : ByteArray) (k : Nat) : (repS s k).size = k * s.size := by
  show (Lib.repeatL _ k).toArray.size = _
  rw [List.size_toArray, repeatL_len, ← Lib.size_eq]
theorem repeat_ok (s : ByteArray) (k : Nat) (w : World) (hk : k < 60) (hs : s.size ≤ 10) : Calls Tryz.prog 45 #[.string s, .int .i64 (k : Int)] w fun e w' => e = .returned (.string (repS s k)) ∧ Below w.heap.size w w' :=
  Tryz.strings_Repeat s k w (by omega) (by
    have : s.size * k ≤ 10 * 60 := Nat.mul_le_mul hs (by omega)
    omega)
set_option maxRecDepth 100000 in
set_option maxHeartbeats 400000 in
theorem someData_0 (n u x : Int) (k : Nat) (w : World) (hu : IntKind.u64.wrap n = u) (hxt : u.tdiv 4 = x) (hxw : IntKind.u64.wrap x = x) (hkt : x.tmod 60 = (k : Int)) (hk : k < 60) (hrt : u.tmod 4 = 0) : Calls Tryz.prog 16 #[.int .i64 n] w fun e w' => ∃ d : ByteArray, e = .returned (.string d) ∧ d.size ≤ 1000 ∧ Below w.heap.size w w' := by
  have hkw : IntKind.i64.wrap (k : Int) = (k : Int) := IntWalk.i64_in _ (by omega)
  have hkw2 : wrap64 (k : Int) = (k : Int) := by unfold wrap64; omega
  go_enter Tryz.func16, Tryz.ntmps16
  go_wp2_with fail
  go_ret
  exact ⟨_, rfl, by decide, Below.refl _ _⟩
set_option maxRecDepth 100000 in
set_option maxHeartbeats 400000 in
theorem someData_1 (n u x : Int) (k : Nat) (w : World) (hu : IntKind.u64.wrap n = u) (hxt : u.tdiv 4 = x) (hxw : IntKind.u64.wrap x = x) (hkt : x.tmod 60 = (k : Int)) (hk : k < 60) (hrt : u.tmod 4 = 1) : Calls Tryz.prog 16 #[.int .i64 n] w fun e w' => ∃ d : ByteArray, e = .returned (.string d) ∧ d.size ≤ 1000 ∧ Below w.heap.size w w' := by
  have hkw : IntKind.i64.wrap (k : Int) = (k : Int) := IntWalk.i64_in _ (by omega)
  have hkw2 : wrap64 (k : Int) = (k : Int) := by unfold wrap64; omega
  have H1 := Lib.hid (repeat_ok ⟨#[97, 98]⟩ k w hk (by decide))
  have z1 := Lib.hid (repS_size ⟨#[97, 98]⟩ k)
  generalize repS ⟨#[97, 98]⟩ k = s1 at *
  go_enter Tryz.func16, Tryz.ntmps16
  go_wp2_with fail
  refine H1.out.mono ?_
  rintro e w1 ⟨rfl, hb1⟩
  go_wp2_with fail
  go_ret
  have hz : (⟨#[97, 98]⟩ : ByteArray).size = 2 := rfl
  have := z1.out
  rw [hz] at this
  exact ⟨s1, rfl, by omega, hb1⟩
set_option maxRecDepth 100000 in
set_option maxHeartbeats 400000 in
theorem someData_2 (n u x : Int) (k : Nat) (w : World) (hu : IntKind.u64.wrap n = u) (hxt : u.tdiv 4 = x) (hxw : IntKind.u64.wrap x = x) (hkt : x.tmod 60 = (k : Int)) (hk : k < 60) (hrt : u.tmod 4 = 2) : Calls Tryz.prog 16 #[.int .i64 n] w fun e w' => ∃ d : ByteArray, e = .returned (.string d) ∧ d.size ≤ 1000 ∧ Below w.heap.size w w' := by
  have hkw : IntKind.i64.wrap (k : Int) = (k : Int) := IntWalk.i64_in _ (by omega)
  have hkw2 : wrap64 (k : Int) = (k : Int) := by unfold wrap64; omega
  have H2 := Lib.hid (repeat_ok ⟨#[116, 104, 101, 32, 102, 111, 120, 32]⟩ k w hk (by decide))
  have z2 := repS_size ⟨#[116, 104, 101, 32, 102, 111, 120, 32]⟩ k
  generalize repS ⟨#[116, 104, 101, 32, 102, 111, 120, 32]⟩ k = s2 at *
  have hz : (⟨#[116, 104, 101, 32, 102, 111, 120, 32]⟩ : ByteArray).size = 8 := rfl
  rw [hz] at z2
  have hz3 : (k : Int) ≤ (s2.size : Int) := by omega
  have hz4 : ¬ (s2.size : Int) < (k : Int) := by omega
  have hz5 : k ≤ s2.size := by omega
  have hex : (s2.extract 0 k).size ≤ 1000 := by rw [ByteArray.size_extract]; omega
  have HEX := Lib.hid hex
  clear z2 hz hex
  go_enter Tryz.func16, Tryz.ntmps16
  go_wp2_with fail
  refine H2.out.mono ?_
  rintro e w1 ⟨rfl, hb1⟩
  go_wp2_with fail
  go_ret
  exact ⟨s2.extract 0 k, rfl, HEX.out, hb1⟩
set_option maxRecDepth 100000 in
set_option maxHeartbeats 400000 in
theorem someData_3 (n u x : Int) (k : Nat) (w : World) (hu : IntKind.u64.wrap n = u) (hxt : u.tdiv 4 = x) (hxw : IntKind.u64.wrap x = x) (hkt : x.tmod 60 = (k : Int)) (hk : k < 60) (hrt : u.tmod 4 = 3) : Calls Tryz.prog 16 #[.int .i64 n] w fun e w' => ∃ d : ByteArray, e = .returned (.string d) ∧ d.size ≤ 1000 ∧ Below w.heap.size w w' := by
  have hkw : IntKind.i64.wrap (k : Int) = (k : Int) := IntWalk.i64_in _ (by omega)
  have hkw2 : wrap64 (k : Int) = (k : Int) := by unfold wrap64; omega
  have hby : ∀ x : Int, ∃ b : UInt8, x % 256 = (b.toNat : Int) := fun x => ⟨UInt8.ofNat (x % 256).toNat, by rw [UInt8.toNat_ofNat']; omega⟩
  obtain ⟨b1, hb1⟩ := hby n
  obtain ⟨b2, hb2⟩ := hby (n / 256)
  obtain ⟨b3, hb3⟩ := hby (n / 8)
  have hcv := conv3b b1 b2 b3 w
  clear hby
  go_enter Tryz.func16, Tryz.ntmps16
  go_wp2_with fail
  go_ret
  exact ⟨⟨#[b1, b2, b3]⟩, rfl, by show (3 : Nat) ≤ 1000; decide, (Below.refl _ _).alloc (Nat.le_refl _) _⟩
theorem someData_ok (n : Int) (w : World) : Calls Tryz.prog 16 #[.int .i64 n] w fun e w' => ∃ d : ByteArray, e = .returned (.string d) ∧ d.size ≤ 1000 ∧ Below w.heap.size w w' := by
  obtain ⟨u, hu⟩ : ∃ u : Int, IntKind.u64.wrap n = u := ⟨_, rfl⟩
  have hua : 0 ≤ u := by rw [← hu, IntKind.wrap_u64]; omega
  have hub : u < 18446744073709551616 := by rw [← hu, IntKind.wrap_u64]; omega
  obtain ⟨x, hx⟩ : ∃ x : Int, u / 4 = x := ⟨_, rfl⟩
  have hxt : u.tdiv 4 = x := by rw [Int.tdiv_eq_ediv_of_nonneg hua]; exact hx
  have hxa : 0 ≤ x := by omega
  have hxw : IntKind.u64.wrap x = x := by rw [IntKind.wrap_u64]; omega
  obtain ⟨k, hk⟩ : ∃ k : Nat, x % 60 = (k : Int) := ⟨(x % 60).toNat, by omega⟩
  have hkt : x.tmod 60 = (k : Int) := by rw [Int.tmod_eq_emod_of_nonneg hxa]; exact hk
  have hk60 : k < 60 := by omega
  have hrt : u.tmod 4 = u % 4 := Int.tmod_eq_emod_of_nonneg hua
  have hr4 : u % 4 = 0 ∨ u % 4 = 1 ∨ u % 4 = 2 ∨ u % 4 = 3 := by omega
  rcases hr4 with h | h | h | h <;> rw [h] at hrt
  · exact someData_0 n u x k w hu hxt hxw hkt hk60 hrt
  · exact someData_1 n u x k w hu hxt hxw hkt hk60 hrt
  · exact someData_2 n u x k w hu hxt hxw hkt hk60 hrt
  · exact someData_3 n u x k w hu hxt hxw hkt hk60 hrt
end Go.Proofs.YtpjnjhklkgefcaaGreatDoor
