import Derived.Test.YtnjmcppljbkhnaaFf
import Derived.Test.YtnjmcppljbkhnaaR1
set_option linter.unusedVariables false
set_option linter.unusedSimpArgs false
namespace Go.Proofs.Ytnjmcppljbkhnaa
open Go.RowKit
/-- how many bytes are asked for. -/
def ndM (size from' most : Int) : Int := min most (size - from')
def ndA (from' : Int) : Int := 20 + from' / 1024 * 1040
def ndE (size from' m : Int) : Int := min (20 + ((from' + m - 1) / 1024 + 1) * 1040) (sl size)
def NdPost (size from' most : Int) (w : World) (e : Ending) (w' : World) : Prop :=
  w = w' ∧ ((ndM size from' most ≤ 0 ∧ e = .returned (.tuple #[.int .i64 0, .int .i64 0, .int .i64 0])) ∨ (0 < ndM size from' most ∧ e = .returned (.tuple #[.int .i64 (ndA from'), .int .i64 (ndE size from' (ndM size from' most) - ndA from'), .int .i64 0])))
set_option maxRecDepth 100000 in
set_option maxHeartbeats 1000000 in
theorem needed42 (size from' most : Int) (w : World) (h0 : 0 ≤ size) (h1 : size ≤ 1048576) (hf : 0 ≤ from') (hf2 : from' ≤ 9223372036854775807) (hm : 0 ≤ most) (hm2 : most ≤ 9223372036854775807) :
    Calls Try.prog 42 #[.int .i64 size, .int .i64 from', .int .i64 most] w (NdPost size from' most w) := by
  unfold NdPost
  have k1 : decide (size < 0) = false := decide_eq_false (by omega)
  have k2 : decide (1048576 < size) = false := decide_eq_false (by omega)
  have k3 : decide (from' < 0) = false := decide_eq_false (by omega)
  have k4 : decide (most < 0) = false := decide_eq_false (by omega)
  obtain ⟨m, hmm⟩ : ∃ m, m = ndM size from' most := ⟨_, rfl⟩
  rw [← hmm]
  have hmin : min most (size - from') = m := by rw [hmm]; rfl
  have hmle : m ≤ size - from' := by rw [hmm]; unfold ndM; omega
  have hmlo : -9223372036854775808 ≤ m := by rw [hmm]; unfold ndM; omega
  clear hmm
  by_cases hz : m ≤ 0
  · have k5 : decide (m ≤ 0) = true := decide_eq_true hz
    go_enter Try.func42, Try.ntmps42
    go_wp2_with fail
    exact bodyPost_ret (v := .tuple #[.int .i64 0, .int .i64 0, .int .i64 0]) (by simp [results, Try.results42, go_sem]) rfl ⟨rfl, Or.inl ⟨hz, rfl⟩⟩
  · have k5 : decide (m ≤ 0) = false := decide_eq_false hz
    have hpos : 0 < m := by omega
    have C45 := Lib.hid (fun w => sealedSize45 size (sl size) w h0 (by omega) rfl)
    have HSL := sl_bd size h0 (by omega)
    have hfs : from' ≤ 1048576 := by omega
    have hfm : from' + m ≤ 1048576 := by omega
    have HE : ndE size from' m = min (20 + ((from' + m - 1) / 1024 + 1) * 1040) (sl size) := rfl
    have HEH := Lib.hid HE
    clear HE
    generalize sl size = z at *
    go_enter Try.func42, Try.ntmps42
    go_wp2_with fail
    refine (C45.out _).mono ?_
    rintro e w' ⟨rfl, rfl⟩
    go_wp2_with fail
    exact bodyPost_ret (v := .tuple #[.int .i64 (20 + from' / 1024 * 1040), .int .i64 (min (20 + ((from' + m - 1) / 1024 + 1) * 1040) z - (20 + from' / 1024 * 1040)), .int .i64 0]) (by simp [results, Try.results42, go_sem]) rfl ⟨rfl, Or.inr ⟨hpos, by rw [HEH.out]; rfl⟩⟩
def NoPost (size from' most : Int) (w : World) (e : Ending) (w' : World) : Prop :=
  w = w' ∧ ((ndM size from' most ≤ 0 ∧ e = .returned (.tuple #[.int .i64 0, .int .i64 0])) ∨ (0 < ndM size from' most ∧ e = .returned (.tuple #[.int .i64 (ndA from'), .int .i64 (ndE size from' (ndM size from' most) - ndA from')])))
theorem needed42_bad (size from' most : Int) (w : World) (h0 : 0 ≤ size) (h1 : size ≤ 1048576) (h : from' < 0 ∨ most < 0) :
    Calls Try.prog 42 #[.int .i64 size, .int .i64 from', .int .i64 most] w fun e w' => e = .returned (.tuple #[.int .i64 0, .int .i64 0, .int .i64 7]) ∧ w = w' := by
  have k1 : decide (size < 0) = false := decide_eq_false (by omega)
  have k2 : decide (1048576 < size) = false := decide_eq_false (by omega)
  by_cases hf : from' < 0
  · have k3 : decide (from' < 0) = true := decide_eq_true hf
    clear h
    go_enter Try.func42, Try.ntmps42
    go_wp2_with fail
    exact bodyPost_ret (v := .tuple #[.int .i64 0, .int .i64 0, .int .i64 7]) (by simp [results, Try.results42, go_sem]) rfl ⟨rfl, rfl⟩
  · have k3 : decide (from' < 0) = false := decide_eq_false hf
    have k4 : decide (most < 0) = true := decide_eq_true (by omega)
    clear h
    go_enter Try.func42, Try.ntmps42
    go_wp2_with fail
    exact bodyPost_ret (v := .tuple #[.int .i64 0, .int .i64 0, .int .i64 7]) (by simp [results, Try.results42, go_sem]) rfl ⟨rfl, rfl⟩
set_option maxRecDepth 100000 in
set_option maxHeartbeats 1000000 in
theorem neededOf43 (size from' most : Int) (w : World) (h0 : 0 ≤ size) (h1 : size ≤ 1048576) (hf : 0 ≤ from') (hf2 : from' ≤ 9223372036854775807) (hm : 0 ≤ most) (hm2 : most ≤ 9223372036854775807) :
    Calls Try.prog 43 #[.int .i64 size, .int .i64 from', .int .i64 most] w (NoPost size from' most w) := by
  have C11 := Lib.hid (fun w => refLen11 size w h0 (by omega))
  by_cases hc : most < size - from'
  · have e : ndM size from' most = most := by unfold ndM; omega
    have HEQ := Lib.hid e
    have c1 : decide (most < size - from') = true := decide_eq_true hc
    have c2 : decide (size ≤ from') = false := decide_eq_false (by omega)
    have c3 : ¬ size ≤ from' := by omega
    by_cases hz : most ≤ 0
    · have c4 : decide (from' + most ≤ from') = true := decide_eq_true (by omega)
      have c5 : from' + most ≤ from' := by omega
      clear hc e
      go_enter Try.func43, Try.ntmps43
      go_wp2_with fail
      exact bodyPost_ret (v := .tuple #[.int .i64 0, .int .i64 0]) (by simp [results, Try.results43, go_sem]) rfl ⟨rfl, Or.inl ⟨by rw [HEQ.out]; exact hz, rfl⟩⟩
    · have c4 : decide (from' + most ≤ from') = false := decide_eq_false (by omega)
      have c5 : ¬ from' + most ≤ from' := by omega
      have hpos : 0 < most := by omega
      have hto : from' + most ≤ 1048576 := by omega
      have HSL := sl_bd size h0 (by omega)
      have HE := Lib.hid (show ndE size from' most = min (sl size) (20 + ((from' + most - 1) / 1024 + 1) * 1040) from by unfold ndE; omega)
      clear hc e
      generalize sl size = z at *
      go_enter Try.func43, Try.ntmps43
      go_wp2_with fail
      refine (C11.out _).mono ?_
      rintro e w' ⟨rfl, rfl⟩
      go_wp2_with fail
      exact bodyPost_ret (v := .tuple #[.int .i64 (20 + from' / 1024 * 1040), .int .i64 (min z (20 + ((from' + most - 1) / 1024 + 1) * 1040) - (20 + from' / 1024 * 1040))]) (by simp [results, Try.results43, go_sem]) rfl ⟨rfl, Or.inr ⟨by rw [HEQ.out]; exact hpos, by rw [HEQ.out, HE.out]; rfl⟩⟩
  · have e : ndM size from' most = size - from' := by unfold ndM; omega
    have HEQ := Lib.hid e
    have c1 : decide (most < size - from') = false := decide_eq_false hc
    by_cases hz : size ≤ from'
    · have c2 : decide (size ≤ from') = true := decide_eq_true hz
      have hz2 : size - from' ≤ 0 := by omega
      clear e
      go_enter Try.func43, Try.ntmps43
      go_wp2_with fail
      exact bodyPost_ret (v := .tuple #[.int .i64 0, .int .i64 0]) (by simp [results, Try.results43, go_sem]) rfl ⟨rfl, Or.inl ⟨by rw [HEQ.out]; exact hz2, rfl⟩⟩
    · have c2 : decide (size ≤ from') = false := decide_eq_false hz
      have hpos : 0 < size - from' := by omega
      have HSL := sl_bd size h0 (by omega)
      have HE := Lib.hid (show ndE size from' (size - from') = min (sl size) (20 + ((size - 1) / 1024 + 1) * 1040) from by unfold ndE; rw [show from' + (size - from') - 1 = size - 1 by omega]; omega)
      clear e
      generalize sl size = z at *
      go_enter Try.func43, Try.ntmps43
      go_wp2_with fail
      refine (C11.out _).mono ?_
      rintro e w' ⟨rfl, rfl⟩
      go_wp2_with fail
      exact bodyPost_ret (v := .tuple #[.int .i64 (20 + from' / 1024 * 1040), .int .i64 (min z (20 + ((size - 1) / 1024 + 1) * 1040) - (20 + from' / 1024 * 1040))]) (by simp [results, Try.results43, go_sem]) rfl ⟨rfl, Or.inr ⟨by rw [HEQ.out]; exact hpos, by rw [HEQ.out, HE.out]; rfl⟩⟩
end Go.Proofs.Ytnjmcppljbkhnaa
