import Derived.Test.YtnjmcppljbkhnaaQ
import Derived.LoopTactic
set_option linter.unusedVariables false
set_option linter.unusedSimpArgs false
namespace Go.Proofs.Ytnjmcppljbkhnaa
open Go.RowKit

/-- the length of a sealed file. -/
def sl (n : Int) : Int := 20 + n + 16 * max 1 ((n + 1024 - 1) / 1024)
theorem sl_big : sl 1048576 = 1064980 := by decide
theorem sl_bd (n : Int) (h0 : 0 ≤ n) (h1 : n ≤ 1099511627776) : 20 + n ≤ sl n ∧ sl n ≤ 1116691497000 := by
  unfold sl; omega
set_option maxHeartbeats 1000000 in
theorem partsOf76 (n : Int) (w : World) (h0 : 0 ≤ n) (h1 : n ≤ 1099511627776) : Calls Try.prog 76 #[.int .i64 n] w fun e w' => e = .returned (.int .i64 (max 1 ((n + 1024 - 1) / 1024))) ∧ w = w' := by
  go_enter Try.func76, Try.ntmps76
  go_wp2
  go_ret
  exact ⟨rfl, rfl⟩
theorem refLen11 (n : Int) (w : World) (h0 : 0 ≤ n) (h1 : n ≤ 1099511627776) : Calls Try.prog 11 #[.int .i64 n] w fun e w' => e = .returned (.int .i64 (sl n)) ∧ w = w' := by
  go_enter Try.func11, Try.ntmps11
  go_wp2
  go_ret
  exact ⟨rfl, rfl⟩
theorem sealedSize45 (n m : Int) (w : World) (h0 : 0 ≤ n) (h1 : n ≤ 1099511627776) (hm : m = sl n) : Calls Try.prog 45 #[.int .i64 n] w fun e w' => e = .returned (.int .i64 m) ∧ w = w' := by
  have HM := Lib.hid hm
  clear hm
  go_enter Try.func45, Try.ntmps45
  go_wp2_with (go_at_call 76; refine (partsOf76 n _ h0 h1).mono ?_; rintro e w' ⟨rfl, rfl⟩)
  go_ret
  exact ⟨by rw [HM.out]; rfl, rfl⟩
theorem within10 (n a b : Int) (w : World) : Calls Try.prog 10 #[.int .i64 n, .int .i64 a, .int .i64 b] w fun e w' => e = .returned (.bool (decide (a ≤ n) && decide (n ≤ b))) ∧ w = w' := by
  by_cases h : a ≤ n
  · go_enter Try.func10, Try.ntmps10
    go_wp2
    go_ret
    exact ⟨by simp [h], rfl⟩
  · go_enter Try.func10, Try.ntmps10
    go_wp2
    go_ret
    exact ⟨ret_bool (by simp; omega), rfl⟩
theorem sealedSize9_ok (n : Int) (w : World) (h0 : 0 ≤ n) (h1 : n ≤ 1048576) : Calls Try.prog 9 #[.int .i64 n] w fun e w' => e = .returned (.tuple #[.int .i64 (sl n), .int .i64 0]) ∧ w = w' := by
  have HC := Lib.hid (sealedSize45 n (sl n) w h0 (by omega) rfl)
  generalize sl n = m at *
  go_enter Try.func9, Try.ntmps9
  go_wp2_with (go_at_call 45; refine HC.out.mono ?_; rintro e w' ⟨rfl, rfl⟩)
  go_ret2
  exact ⟨rfl, rfl⟩
theorem sealedSize9_no (n : Int) (w : World) (h : n < 0 ∨ 1048576 < n) : Calls Try.prog 9 #[.int .i64 n] w fun e w' => e = .returned (.tuple #[.int .i64 0, .int .i64 7]) ∧ w = w' := by
  rcases h with h | h
  · go_enter Try.func9, Try.ntmps9
    go_wp2_with fail
    go_ret2
    exact ⟨rfl, rfl⟩
  · have h' : ¬ n < 0 := by omega
    go_enter Try.func9, Try.ntmps9
    go_wp2_with fail
    go_ret2
    exact ⟨rfl, rfl⟩
/-- what is told of the size of a text. -/
def OpenRes (n k f : Int) : Prop := (f = 0 ∧ 0 ≤ k ∧ k ≤ 1048576 ∧ sl k = n) ∨ (k = 0 ∧ f = 6 ∧ ∀ s, 0 ≤ s → s ≤ 1048576 → sl s ≠ n)
def OpenPost (n : Int) (w : World) (e : Ending) (w' : World) : Prop := ∃ k f : Int, e = .returned (.tuple #[.int .i64 k, .int .i64 f]) ∧ OpenRes n k f ∧ w = w'
theorem sl_inv (n s : Int) (h0 : 0 ≤ s) (h1 : s ≤ 1048576) (h : sl s = n) : s = n - 20 - 16 * ((n - 20 + 1040 - 1) / 1040) ∧ 36 ≤ n ∧ n ≤ 1064980 := by
  unfold sl at h; omega
theorem open12 (n : Int) (w : World) (hlo : -9223372036854775808 ≤ n) (hhi : n ≤ 9223372036854775807) : Calls Try.prog 12 #[.int .i64 n] w (OpenPost n w) := by
  have C1 := Lib.hid (fun w => sealedSize45 1048576 1064980 w (by decide) (by decide) sl_big.symm)
  by_cases ha : n < 36
  · have HR := Lib.hid (show OpenRes n 0 6 from Or.inr ⟨rfl, rfl, fun s h0 h1 h => by have := sl_inv n s h0 h1 h; omega⟩)
    go_enter Try.func12, Try.ntmps12
    go_wp2_with fail
    go_ret2
    exact ⟨_, _, rfl, HR.out, rfl⟩
  · by_cases hb : 1064980 < n
    · have HR := Lib.hid (show OpenRes n 0 6 from Or.inr ⟨rfl, rfl, fun s h0 h1 h => by have := sl_inv n s h0 h1 h; omega⟩)
      go_enter Try.func12, Try.ntmps12
      go_wp2_with (go_at_call 45; refine (C1.out _).mono ?_; rintro e w' ⟨rfl, rfl⟩)
      go_ret2
      exact ⟨_, _, rfl, HR.out, rfl⟩
    · obtain ⟨s, hs⟩ : ∃ s, s = n - 20 - 16 * ((n - 20 + 1040 - 1) / 1040) := ⟨_, rfl⟩
      have hs0 : 0 ≤ s := by omega
      have hs1 : s ≤ 1048576 := by omega
      have hse : n - 20 - 16 * ((n - 20 + 1040 - 1) / 1040) = s := hs.symm
      have C2 := Lib.hid (fun w => sealedSize45 s (sl s) w hs0 (by omega) rfl)
      have HI := Lib.hid (fun t h0 h1 h => (sl_inv n t h0 h1 h).1.trans hse)
      clear hs
      by_cases he : sl s = n
      · have HR := Lib.hid (show OpenRes n s 0 from Or.inl ⟨rfl, hs0, hs1, he⟩)
        have he1 : (sl s == n) = true := by simpa using he
        have he2 : (sl s != n) = false := by simpa using he
        clear he
        generalize sl s = m at *
        go_enter Try.func12, Try.ntmps12
        go_wp2_with (first | (go_at_call_of 45 (Value.int IntKind.i64 1048576); refine (C1.out _).mono ?_; rintro e w' ⟨rfl, rfl⟩) | (go_at_call_of 45 (Value.int IntKind.i64 s); refine (C2.out _).mono ?_; rintro e w' ⟨rfl, rfl⟩))
        go_ret2
        exact ⟨_, _, rfl, HR.out, rfl⟩
      · have HR := Lib.hid (show OpenRes n 0 6 from Or.inr ⟨rfl, rfl, fun t h0 h1 h => he (by have := HI.out t h0 h1 h; rw [← this]; exact h)⟩)
        have he1 : (sl s == n) = false := by simpa using he
        have he2 : (sl s != n) = true := by simpa using he
        clear he
        generalize sl s = m at *
        go_enter Try.func12, Try.ntmps12
        go_wp2_with (first | (go_at_call_of 45 (Value.int IntKind.i64 1048576); refine (C1.out _).mono ?_; rintro e w' ⟨rfl, rfl⟩) | (go_at_call_of 45 (Value.int IntKind.i64 s); refine (C2.out _).mono ?_; rintro e w' ⟨rfl, rfl⟩))
        go_ret2
        exact ⟨_, _, rfl, HR.out, rfl⟩
end Go.Proofs.Ytnjmcppljbkhnaa

set_option linter.unusedVariables false
set_option linter.unusedSimpArgs false
namespace Go.Proofs.Ytnjmcppljbkhnaa
open Go.RowKit

theorem sl_one (k s : Int) (h0 : 0 ≤ k) (h1 : 0 ≤ s) (h : sl k = sl s) : k = s := by
  unfold sl at h; omega
theorem within10b (n a b : Int) (r : Bool) (w : World) (h : (decide (a ≤ n) && decide (n ≤ b)) = r) : Calls Try.prog 10 #[.int .i64 n, .int .i64 a, .int .i64 b] w fun e w' => e = .returned (.bool r) ∧ w = w' := by
  rw [← h]; exact within10 n a b w
theorem sl_near (k n : Int) (h0 : 0 ≤ k) (h1 : k ≤ 1048576) (h : sl k = n) : n - 20000 ≤ k ∧ k ≤ n := by
  unfold sl at h; omega

set_option maxHeartbeats 2000000 in
theorem law3_in (n : Int) (w : World) (h0 : 0 ≤ n) (h1 : n ≤ 1048576) : Calls Try.prog 3 #[.int .i64 n] w fun e w' => e = .returned (.bool true) ∧ Below w.heap.size w w' := by
  have C12 := Lib.hid (fun w => open12 n w (by omega) (by omega))
  have C9 := Lib.hid (fun w => sealedSize9_ok n w h0 h1)
  have C10 := Lib.hid (fun w => within10b n 0 1048576 true w (by simp; omega))
  have C11 := Lib.hid (fun w => refLen11 n w h0 (by omega))
  go_enter Try.func3, Try.ntmps3
  go_wp2_with (first | (go_at_call 9; refine (C9.out _).mono ?_; rintro e w' ⟨rfl, rfl⟩) | (go_at_call 10; refine (C10.out _).mono ?_; rintro e w' ⟨rfl, rfl⟩) | (go_at_call 11; refine (C11.out _).mono ?_; rintro e w' ⟨rfl, rfl⟩) | (go_at_call 12; refine (C12.out _).mono ?_; rintro e w' ⟨k, f, rfl, hr, rfl⟩; have HR := Lib.hid hr; clear hr))
  have hr := HR.out
  clear HR C12 C9 C10 C11
  have HALL := Lib.hid (show ∀ t, 0 ≤ t → t < (max 0 (n - 20000)) → t ≤ 1048576 → sl t ≠ n from fun t a b c d => by have := sl_near t n a c d; omega)
  rcases hr with ⟨rfl, hk0, hk1, hk⟩ | ⟨rfl, rfl, hn⟩
  · have HK := Lib.hid hk
    clear hk
    go_loop [7] (fun v => ∃ s : Int, 0 ≤ s ∧ s ≤ 9223372036854775807 ∧ v = .int .i64 s ∧ Hid (∀ t, 0 ≤ t → t < s → t ≤ 1048576 → sl t ≠ n)) (fun v => (9223372036854775807 - intOf v).toNat)
    case atStart => exact ⟨(max 0 (n - 20000)), by omega, by omega, rfl, HALL⟩
    case round =>
      clear HALL
      obtain ⟨s, hs0, hs2, rfl, HA⟩ := hrel
      by_cases hc : s ≤ n ∧ s ≤ 1048576
      · obtain ⟨hc1, hc2⟩ := hc
        have C11 := Lib.hid (fun w => refLen11 s w hs0 (by omega))
        by_cases he : sl s = n
        · have HKS := Lib.hid (sl_one k s hk0 hs0 (HK.out.trans he.symm))
          have he1 : (sl s == n) = true := by simpa using he
          have hks : (k == s) = true := by rw [HKS.out]; simp
          clear he
          generalize sl s = m at *
          go_wp2_with (first | (go_at_call 11; refine (C11.out _).mono ?_; rintro e w' ⟨rfl, rfl⟩) | (go_at_call 13; refine (seals13 _).mono ?_; rintro e w' ⟨rfl, hb⟩; have HB := Lib.hid hb; clear hb))
          go_ret
          exact ⟨rfl, HB.out⟩
        · have HE := Lib.hid he
          have he1 : (sl s == n) = false := by simpa using he
          clear he
          generalize hm : sl s = m at *
          have HM := Lib.hid hm
          clear hm
          go_wp2_with (first | (go_at_call 11; refine (C11.out _).mono ?_; rintro e w' ⟨rfl, rfl⟩))
          go_round
          case rel => exact ⟨s + 1, by omega, by omega, rfl, Lib.hid fun t a b c => by
            by_cases hts : t = s
            · subst hts; rw [HM.out]; exact HE.out
            · exact HA.out t a (by omega) c⟩
          case measure => simp [intOf]; omega
      · exfalso
        have := sl_near k n hk0 hk1 HK.out
        exact HA.out k hk0 (by omega) hk1 HK.out
  · have HN := Lib.hid hn
    clear hn
    go_loop [7] (fun v => ∃ s : Int, 0 ≤ s ∧ s ≤ 9223372036854775807 ∧ v = .int .i64 s) (fun v => (9223372036854775807 - intOf v).toNat)
    case atStart => exact ⟨(max 0 (n - 20000)), by omega, by omega, rfl⟩
    case round =>
      clear HALL
      obtain ⟨s, hs0, hs2, rfl⟩ := hrel
      by_cases hc : s ≤ n ∧ s ≤ 1048576
      · obtain ⟨hc1, hc2⟩ := hc
        have C11 := Lib.hid (fun w => refLen11 s w hs0 (by omega))
        have he := HN.out s hs0 hc2
        have he1 : (sl s == n) = false := by simpa using he
        clear he
        generalize sl s = m at *
        go_wp2_with (first | (go_at_call 11; refine (C11.out _).mono ?_; rintro e w' ⟨rfl, rfl⟩))
        go_round
        case rel => exact ⟨s + 1, by omega, by omega, rfl⟩
        case measure => simp [intOf]; omega
      · by_cases hc1 : s ≤ n
        · have hc2 : ¬ s ≤ 1048576 := fun h => hc ⟨hc1, h⟩
          clear hc
          first
            | (exfalso; omega)
            | (go_wp2_with (first | (go_at_call 13; refine (seals13 _).mono ?_; rintro e w' ⟨rfl, hb⟩; have HB := Lib.hid hb; clear hb))
               go_ret
               exact ⟨rfl, HB.out⟩)
        · clear hc
          go_wp2_with (first | (go_at_call 13; refine (seals13 _).mono ?_; rintro e w' ⟨rfl, hb⟩; have HB := Lib.hid hb; clear hb))
          go_ret
          exact ⟨rfl, HB.out⟩
set_option maxHeartbeats 2000000 in
theorem law3_up (n : Int) (w : World) (h0 : 1048576 < n) (h1 : n ≤ 9223372036854775807) : Calls Try.prog 3 #[.int .i64 n] w fun e w' => e = .returned (.bool true) ∧ Below w.heap.size w w' := by
  have C12 := Lib.hid (fun w => open12 n w (by omega) (by omega))
  have C9 := Lib.hid (fun w => sealedSize9_no n w (by omega))
  have C10 := Lib.hid (fun w => within10b n 0 1048576 false w (by simp; omega))
  go_enter Try.func3, Try.ntmps3
  go_wp2_with (first | (go_at_call 9; refine (C9.out _).mono ?_; rintro e w' ⟨rfl, rfl⟩) | (go_at_call 10; refine (C10.out _).mono ?_; rintro e w' ⟨rfl, rfl⟩) | (go_at_call 11; refine (C11.out _).mono ?_; rintro e w' ⟨rfl, rfl⟩) | (go_at_call 12; refine (C12.out _).mono ?_; rintro e w' ⟨k, f, rfl, hr, rfl⟩; have HR := Lib.hid hr; clear hr))
  have hr := HR.out
  clear HR C12 C9 C10
  have HALL := Lib.hid (show ∀ t, 0 ≤ t → t < (max 0 (n - 20000)) → t ≤ 1048576 → sl t ≠ n from fun t a b c d => by have := sl_near t n a c d; omega)
  rcases hr with ⟨rfl, hk0, hk1, hk⟩ | ⟨rfl, rfl, hn⟩
  · have HK := Lib.hid hk
    clear hk
    go_loop [7] (fun v => ∃ s : Int, 0 ≤ s ∧ s ≤ 9223372036854775807 ∧ v = .int .i64 s ∧ Hid (∀ t, 0 ≤ t → t < s → t ≤ 1048576 → sl t ≠ n)) (fun v => (9223372036854775807 - intOf v).toNat)
    case atStart => exact ⟨(max 0 (n - 20000)), by omega, by omega, rfl, HALL⟩
    case round =>
      clear HALL
      obtain ⟨s, hs0, hs2, rfl, HA⟩ := hrel
      by_cases hc : s ≤ n ∧ s ≤ 1048576
      · obtain ⟨hc1, hc2⟩ := hc
        have C11 := Lib.hid (fun w => refLen11 s w hs0 (by omega))
        by_cases he : sl s = n
        · have HKS := Lib.hid (sl_one k s hk0 hs0 (HK.out.trans he.symm))
          have he1 : (sl s == n) = true := by simpa using he
          have hks : (k == s) = true := by rw [HKS.out]; simp
          clear he
          generalize sl s = m at *
          go_wp2_with (first | (go_at_call 11; refine (C11.out _).mono ?_; rintro e w' ⟨rfl, rfl⟩) | (go_at_call 13; refine (seals13 _).mono ?_; rintro e w' ⟨rfl, hb⟩; have HB := Lib.hid hb; clear hb))
          go_ret
          exact ⟨rfl, HB.out⟩
        · have HE := Lib.hid he
          have he1 : (sl s == n) = false := by simpa using he
          clear he
          generalize hm : sl s = m at *
          have HM := Lib.hid hm
          clear hm
          go_wp2_with (first | (go_at_call 11; refine (C11.out _).mono ?_; rintro e w' ⟨rfl, rfl⟩))
          go_round
          case rel => exact ⟨s + 1, by omega, by omega, rfl, Lib.hid fun t a b c => by
            by_cases hts : t = s
            · subst hts; rw [HM.out]; exact HE.out
            · exact HA.out t a (by omega) c⟩
          case measure => simp [intOf]; omega
      · exfalso
        have := sl_near k n hk0 hk1 HK.out
        exact HA.out k hk0 (by omega) hk1 HK.out
  · have HN := Lib.hid hn
    clear hn
    go_loop [7] (fun v => ∃ s : Int, 0 ≤ s ∧ s ≤ 9223372036854775807 ∧ v = .int .i64 s) (fun v => (9223372036854775807 - intOf v).toNat)
    case atStart => exact ⟨(max 0 (n - 20000)), by omega, by omega, rfl⟩
    case round =>
      clear HALL
      obtain ⟨s, hs0, hs2, rfl⟩ := hrel
      by_cases hc : s ≤ n ∧ s ≤ 1048576
      · obtain ⟨hc1, hc2⟩ := hc
        have C11 := Lib.hid (fun w => refLen11 s w hs0 (by omega))
        have he := HN.out s hs0 hc2
        have he1 : (sl s == n) = false := by simpa using he
        clear he
        generalize sl s = m at *
        go_wp2_with (first | (go_at_call 11; refine (C11.out _).mono ?_; rintro e w' ⟨rfl, rfl⟩))
        go_round
        case rel => exact ⟨s + 1, by omega, by omega, rfl⟩
        case measure => simp [intOf]; omega
      · by_cases hc1 : s ≤ n
        · have hc2 : ¬ s ≤ 1048576 := fun h => hc ⟨hc1, h⟩
          clear hc
          first
            | (exfalso; omega)
            | (go_wp2_with (first | (go_at_call 13; refine (seals13 _).mono ?_; rintro e w' ⟨rfl, hb⟩; have HB := Lib.hid hb; clear hb))
               go_ret
               exact ⟨rfl, HB.out⟩)
        · clear hc
          go_wp2_with (first | (go_at_call 13; refine (seals13 _).mono ?_; rintro e w' ⟨rfl, hb⟩; have HB := Lib.hid hb; clear hb))
          go_ret
          exact ⟨rfl, HB.out⟩
set_option maxHeartbeats 2000000 in
theorem law3_no (n : Int) (w : World) (h0 : -9223372036854755808 ≤ n) (h1 : n < 0) : Calls Try.prog 3 #[.int .i64 n] w fun e w' => e = .returned (.bool true) ∧ Below w.heap.size w w' := by
  have C12 := Lib.hid (fun w => open12 n w (by omega) (by omega))
  have C9 := Lib.hid (fun w => sealedSize9_no n w (by omega))
  have C10 := Lib.hid (fun w => within10b n 0 1048576 false w (by simp; omega))
  go_enter Try.func3, Try.ntmps3
  go_wp2_with (first | (go_at_call 9; refine (C9.out _).mono ?_; rintro e w' ⟨rfl, rfl⟩) | (go_at_call 10; refine (C10.out _).mono ?_; rintro e w' ⟨rfl, rfl⟩) | (go_at_call 11; refine (C11.out _).mono ?_; rintro e w' ⟨rfl, rfl⟩) | (go_at_call 12; refine (C12.out _).mono ?_; rintro e w' ⟨k, f, rfl, hr, rfl⟩; have HR := Lib.hid hr; clear hr))
  have hr := HR.out
  clear HR C12 C9 C10
  have HALL := Lib.hid (show ∀ t, 0 ≤ t → t < (max 0 (n - 20000)) → t ≤ 1048576 → sl t ≠ n from fun t a b c d => by have := sl_near t n a c d; omega)
  rcases hr with ⟨rfl, hk0, hk1, hk⟩ | ⟨rfl, rfl, hn⟩
  · have HK := Lib.hid hk
    clear hk
    go_loop [7] (fun v => ∃ s : Int, 0 ≤ s ∧ s ≤ 9223372036854775807 ∧ v = .int .i64 s ∧ Hid (∀ t, 0 ≤ t → t < s → t ≤ 1048576 → sl t ≠ n)) (fun v => (9223372036854775807 - intOf v).toNat)
    case atStart => exact ⟨(max 0 (n - 20000)), by omega, by omega, rfl, HALL⟩
    case round =>
      clear HALL
      obtain ⟨s, hs0, hs2, rfl, HA⟩ := hrel
      by_cases hc : s ≤ n ∧ s ≤ 1048576
      · obtain ⟨hc1, hc2⟩ := hc
        exfalso; omega
      · exfalso
        have := sl_near k n hk0 hk1 HK.out
        exact HA.out k hk0 (by omega) hk1 HK.out
  · have HN := Lib.hid hn
    clear hn
    go_loop [7] (fun v => ∃ s : Int, 0 ≤ s ∧ s ≤ 9223372036854775807 ∧ v = .int .i64 s) (fun v => (9223372036854775807 - intOf v).toNat)
    case atStart => exact ⟨(max 0 (n - 20000)), by omega, by omega, rfl⟩
    case round =>
      clear HALL
      obtain ⟨s, hs0, hs2, rfl⟩ := hrel
      by_cases hc : s ≤ n ∧ s ≤ 1048576
      · obtain ⟨hc1, hc2⟩ := hc
        exfalso; omega
      · by_cases hc1 : s ≤ n
        · have hc2 : ¬ s ≤ 1048576 := fun h => hc ⟨hc1, h⟩
          clear hc
          first
            | (exfalso; omega)
            | (go_wp2_with (first | (go_at_call 13; refine (seals13 _).mono ?_; rintro e w' ⟨rfl, hb⟩; have HB := Lib.hid hb; clear hb))
               go_ret
               exact ⟨rfl, HB.out⟩)
        · clear hc
          go_wp2_with (first | (go_at_call 13; refine (seals13 _).mono ?_; rintro e w' ⟨rfl, hb⟩; have HB := Lib.hid hb; clear hb))
          go_ret
          exact ⟨rfl, HB.out⟩
set_option maxHeartbeats 2000000 in
theorem law3_low (n : Int) (w : World) (h0 : -9223372036854775808 ≤ n) (h1 : n < -9223372036854755808) : Calls Try.prog 3 #[.int .i64 n] w fun e w' => e = .returned (.bool true) ∧ Below w.heap.size w w' := by
  have C12 := Lib.hid (fun w => open12 n w (by omega) (by omega))
  have C9 := Lib.hid (fun w => sealedSize9_no n w (by omega))
  have C10 := Lib.hid (fun w => within10b n 0 1048576 false w (by simp; omega))
  have hw : IntKind.i64.wrap (n - 20000) = n + 18446744073709531616 := by rw [IntKind.wrap_i64]; omega
  go_enter Try.func3, Try.ntmps3
  go_wp2_with (first | (go_at_call 9; refine (C9.out _).mono ?_; rintro e w' ⟨rfl, rfl⟩) | (go_at_call 10; refine (C10.out _).mono ?_; rintro e w' ⟨rfl, rfl⟩) | (go_at_call 11; refine (C11.out _).mono ?_; rintro e w' ⟨rfl, rfl⟩) | (go_at_call 12; refine (C12.out _).mono ?_; rintro e w' ⟨k, f, rfl, hr, rfl⟩; have HR := Lib.hid hr; clear hr))
  have hr := HR.out
  clear HR C12 C9 C10
  have HALL := Lib.hid (show ∀ t, 0 ≤ t → t < (max 0 (n + 18446744073709531616)) → t ≤ 1048576 → sl t ≠ n from fun t a b c d => by have := sl_near t n a c d; omega)
  rcases hr with ⟨rfl, hk0, hk1, hk⟩ | ⟨rfl, rfl, hn⟩
  · have HK := Lib.hid hk
    clear hk
    go_loop [7] (fun v => ∃ s : Int, 0 ≤ s ∧ s ≤ 9223372036854775807 ∧ v = .int .i64 s ∧ Hid (∀ t, 0 ≤ t → t < s → t ≤ 1048576 → sl t ≠ n)) (fun v => (9223372036854775807 - intOf v).toNat)
    case atStart => exact ⟨(max 0 (n + 18446744073709531616)), by omega, by omega, rfl, HALL⟩
    case round =>
      clear HALL
      obtain ⟨s, hs0, hs2, rfl, HA⟩ := hrel
      by_cases hc : s ≤ n ∧ s ≤ 1048576
      · obtain ⟨hc1, hc2⟩ := hc
        exfalso; omega
      · exfalso
        have := sl_near k n hk0 hk1 HK.out
        exact HA.out k hk0 (by omega) hk1 HK.out
  · have HN := Lib.hid hn
    clear hn
    go_loop [7] (fun v => ∃ s : Int, 0 ≤ s ∧ s ≤ 9223372036854775807 ∧ v = .int .i64 s) (fun v => (9223372036854775807 - intOf v).toNat)
    case atStart => exact ⟨(max 0 (n + 18446744073709531616)), by omega, by omega, rfl⟩
    case round =>
      clear HALL
      obtain ⟨s, hs0, hs2, rfl⟩ := hrel
      by_cases hc : s ≤ n ∧ s ≤ 1048576
      · obtain ⟨hc1, hc2⟩ := hc
        exfalso; omega
      · by_cases hc1 : s ≤ n
        · have hc2 : ¬ s ≤ 1048576 := fun h => hc ⟨hc1, h⟩
          clear hc
          first
            | (exfalso; omega)
            | (go_wp2_with (first | (go_at_call 13; refine (seals13 _).mono ?_; rintro e w' ⟨rfl, hb⟩; have HB := Lib.hid hb; clear hb))
               go_ret
               exact ⟨rfl, HB.out⟩)
        · clear hc
          go_wp2_with (first | (go_at_call 13; refine (seals13 _).mono ?_; rintro e w' ⟨rfl, hb⟩; have HB := Lib.hid hb; clear hb))
          go_ret
          exact ⟨rfl, HB.out⟩
theorem law3 (n : Int) (w : World) (h0 : -9223372036854775808 ≤ n) (h1 : n ≤ 9223372036854775807) : Calls Try.prog 3 #[.int .i64 n] w fun e w' => e = .returned (.bool true) ∧ Below w.heap.size w w' := by
  by_cases a : n < -9223372036854755808
  · exact law3_low n w h0 a
  · by_cases b : n < 0
    · exact law3_no n w (by omega) b
    · by_cases c : n ≤ 1048576
      · exact law3_in n w (by omega) c
      · exact law3_up n w (by omega) h1
end Go.Proofs.Ytnjmcppljbkhnaa
