import Derived.Test.YtnjmcppljbkhnaaQ
import Derived.LoopTactic
set_option linter.unusedVariables false
set_option linter.unusedSimpArgs false
namespace Go.Proofs.Ytnjmcppljbkhnaa
open Go.RowKit

/-- the length of a sealed file. -/
def sl (n : Int) : Int := 20 + n + 16 * max 1 ((n + 1024 - 1) / 1024)
theorem sl_big : sl 1048576 = 1064980 := by decide
theorem sl_bd (n : Int) (h0 : 0 ≤ n) (h1 : n ≤ 1099511627776) : 20 + n ≤ sl n ∧ sl n ≤ 1116691497000 := by
  unfold sl; omega
set_option maxHeartbeats 1000000 in
theorem partsOf76 (n : Int) (w : World) (h0 : 0 ≤ n) (h1 : n ≤ 1099511627776) : Calls Try.prog 76 #[.int .i64 n] w fun e w' => e = .returned (.int .i64 (max 1 ((n + 1024 - 1) / 1024))) ∧ w = w' := by
  go_enter Try.func76, Try.ntmps76
  go_wp2
  go_ret
  exact ⟨rfl, rfl⟩
theorem refLen11 (n : Int) (w : World) (h0 : 0 ≤ n) (h1 : n ≤ 1099511627776) : Calls Try.prog 11 #[.int .i64 n] w fun e w' => e = .returned (.int .i64 (sl n)) ∧ w = w' := by
  go_enter Try.func11, Try.ntmps11
  go_wp2
  go_ret
  exact ⟨rfl, rfl⟩
theorem sealedSize45 (n m : Int) (w : World) (h0 : 0 ≤ n) (h1 : n ≤ 1099511627776) (hm : m = sl n) : Calls Try.prog 45 #[.int .i64 n] w fun e w' => e = .returned (.int .i64 m) ∧ w = w' := by
  have HM := Lib.hid hm
  clear hm
  go_enter Try.func45, Try.ntmps45
  go_wp2_with (go_at_call 76; refine (partsOf76 n _ h0 h1).mono ?_; rintro e w' ⟨rfl, rfl⟩)
  go_ret
  exact ⟨by rw [HM.out]; rfl, rfl⟩
theorem within10 (n a b : Int) (w : World) : Calls Try.prog 10 #[.int .i64 n, .int .i64 a, .int .i64 b] w fun e w' => e = .returned (.bool (decide (a ≤ n) && decide (n ≤ b))) ∧ w = w' := by
  by_cases h : a ≤ n
  · go_enter Try.func10, Try.ntmps10
    go_wp2
    go_ret
    exact ⟨by simp [h], rfl⟩
  · go_enter Try.func10, Try.ntmps10
    go_wp2
    go_ret
    exact ⟨ret_bool (by simp; omega), rfl⟩
theorem sealedSize9_ok (n : Int) (w : World) (h0 : 0 ≤ n) (h1 : n ≤ 1048576) : Calls Try.prog 9 #[.int .i64 n] w fun e w' => e = .returned (.tuple #[.int .i64 (sl n), .int .i64 0]) ∧ w = w' := by
  have HC := Lib.hid (sealedSize45 n (sl n) w h0 (by omega) rfl)
  generalize sl n = m at *
  go_enter Try.func9, Try.ntmps9
  go_wp2_with (go_at_call 45; refine HC.out.mono ?_; rintro e w' ⟨rfl, rfl⟩)
  go_ret2
  exact ⟨rfl, rfl⟩
theorem sealedSize9_no (n : Int) (w : World) (h : n < 0 ∨ 1048576 < n) : Calls Try.prog 9 #[.int .i64 n] w fun e w' => e = .returned (.tuple #[.int .i64 0, .int .i64 7]) ∧ w = w' := by
  rcases h with h | h
  · go_enter Try.func9, Try.ntmps9
    go_wp2_with fail
    go_ret2
    exact ⟨rfl, rfl⟩
  · have h' : ¬ n < 0 := by omega
    go_enter Try.func9, Try.ntmps9
    go_wp2_with fail
    go_ret2
    exact ⟨rfl, rfl⟩
/-- what is told of the size of a text. -/
def OpenRes (n k f : Int) : Prop := (f = 0 ∧ 0 ≤ k ∧ k ≤ 1048576 ∧ sl k = n) ∨ (k = 0 ∧ f = 6 ∧ ∀ s, 0 ≤ s → s ≤ 1048576 → sl s ≠ n)
def OpenPost (n : Int) (w : World) (e : Ending) (w' : World) : Prop := ∃ k f : Int, e = .returned (.tuple #[.int .i64 k, .int .i64 f]) ∧ OpenRes n k f ∧ w = w'
theorem sl_inv (n s : Int) (h0 : 0 ≤ s) (h1 : s ≤ 1048576) (h : sl s = n) : s = n - 20 - 16 * ((n - 20 + 1040 - 1) / 1040) ∧ 36 ≤ n ∧ n ≤ 1064980 := by
  unfold sl at h; omega
theorem open12 (n : Int) (w : World) (hlo : -9223372036854775808 ≤ n) (hhi : n ≤ 9223372036854775807) : Calls Try.prog 12 #[.int .i64 n] w (OpenPost n w) := by
  have C1 := Lib.hid (fun w => sealedSize45 1048576 1064980 w (by decide) (by decide) sl_big.symm)
  by_cases ha : n < 36
  · have HR := Lib.hid (show OpenRes n 0 6 from Or.inr ⟨rfl, rfl, fun s h0 h1 h => by have := sl_inv n s h0 h1 h; omega⟩)
    go_enter Try.func12, Try.ntmps12
    go_wp2_with fail
    go_ret2
    exact ⟨_, _, rfl, HR.out, rfl⟩
  · by_cases hb : 1064980 < n
    · have HR := Lib.hid (show OpenRes n 0 6 from Or.inr ⟨rfl, rfl, fun s h0 h1 h => by have := sl_inv n s h0 h1 h; omega⟩)
      go_enter Try.func12, Try.ntmps12
      go_wp2_with (go_at_call 45; refine (C1.out _).mono ?_; rintro e w' ⟨rfl, rfl⟩)
      go_ret2
      exact ⟨_, _, rfl, HR.out, rfl⟩
    · obtain ⟨s, hs⟩ : ∃ s, s = n - 20 - 16 * ((n - 20 + 1040 - 1) / 1040) := ⟨_, rfl⟩
      have hs0 : 0 ≤ s := by omega
      have hs1 : s ≤ 1048576 := by omega
      have hse : n - 20 - 16 * ((n - 20 + 1040 - 1) / 1040) = s := hs.symm
      have C2 := Lib.hid (fun w => sealedSize45 s (sl s) w hs0 (by omega) rfl)
      have HI := Lib.hid (fun t h0 h1 h => (sl_inv n t h0 h1 h).1.trans hse)
      clear hs
      by_cases he : sl s = n
      · have HR := Lib.hid (show OpenRes n s 0 from Or.inl ⟨rfl, hs0, hs1, he⟩)
        have he1 : (sl s == n) = true := by simpa using he
        have he2 : (sl s != n) = false := by simpa using he
        clear he
        generalize sl s = m at *
        go_enter Try.func12, Try.ntmps12
        go_wp2_with (first | (go_at_call_of 45 (Value.int IntKind.i64 1048576); refine (C1.out _).mono ?_; rintro e w' ⟨rfl, rfl⟩) | (go_at_call_of 45 (Value.int IntKind.i64 s); refine (C2.out _).mono ?_; rintro e w' ⟨rfl, rfl⟩))
        go_ret2
        exact ⟨_, _, rfl, HR.out, rfl⟩
      · have HR := Lib.hid (show OpenRes n 0 6 from Or.inr ⟨rfl, rfl, fun t h0 h1 h => he (by have := HI.out t h0 h1 h; rw [← this]; exact h)⟩)
        have he1 : (sl s == n) = false := by simpa using he
        have he2 : (sl s != n) = true := by simpa using he
        clear he
        generalize sl s = m at *
        go_enter Try.func12, Try.ntmps12
        go_wp2_with (first | (go_at_call_of 45 (Value.int IntKind.i64 1048576); refine (C1.out _).mono ?_; rintro e w' ⟨rfl, rfl⟩) | (go_at_call_of 45 (Value.int IntKind.i64 s); refine (C2.out _).mono ?_; rintro e w' ⟨rfl, rfl⟩))
        go_ret2
        exact ⟨_, _, rfl, HR.out, rfl⟩
end Go.Proofs.Ytnjmcppljbkhnaa
