import Derived.Test.YtdfloglicjocbaaRf
namespace Go.Proofs.Ytdfloglicjocbaa
open Go.RowKit

/-- the three ranges of the law. -/
def rgOk (burst t u : Int) : Bool := withinB burst 1 1000000000 && withinB t 0 1099511627776 && withinB u t 1099511627776

set_option maxHeartbeats 1000000 in
set_option maxRecDepth 100000 in
theorem rates_A (a : Option Addr) (ca : Nat) (xs : List (Int × Int)) (burst t u : Int) (w : World) (hx : Row2 w w.heap.size a xs) (lx : xs.length ≤ maxLen) (h : ¬ ratesE xs = 0) :
    Calls Try.prog 5 #[.slice a xs.length ca, .int .i64 burst, .int .i64 t, .int .i64 u] w fun e w' => e = .returned (.bool true) ∧ Below w.heap.size w w' := by
  have hbk : bucketE xs burst = ratesE xs := by unfold bucketE; rw [if_neg h]
  have hne : (ratesE xs != 0) = true := by simpa using h
  have hf1 : firstI [ratesE xs, whenI true 7] = ratesE xs := by simp [firstI, h]
  have hf2 : firstI [ratesE xs, whenI false 7] = ratesE xs := by simp [firstI, h]
  have HF1 := Lib.hid hf1
  have HF2 := Lib.hid hf2
  have HH := Lib.hid h
  have HBK := Lib.hid hbk
  have HX := Lib.hid hx
  clear h hf1 hf2 hbk hx
  go_enter Try.func5, Try.ntmps5
  go_wp2_with fail
  refine (checkRates24 a ca xs w _ (Nat.le_refl _) HX.out lx).mono ?_
  rintro e w1 ⟨rfl, hb1⟩
  go_wp2_with fail
  refine (ratesError25 a ca xs w1 w.heap.size hb1.size (HX.out.below hb1) lx).mono ?_
  rintro e w2 ⟨rfl, hb⟩
  have hb2 := below_step hb1 (Nat.le_refl _) hb
  clear hb hb1
  go_wp2_with fail
  refine (hauls14 _).mono ?_
  rintro e w3 ⟨rfl, hb⟩
  have hb3 := below_step hb2 (Nat.le_refl _) hb
  clear hb hb2
  go_wp2_with fail
  refine (allowed26_no a ca xs burst t u w3 w.heap.size hb3.size (HX.out.below hb3) lx (by rw [HBK.out]; exact HH.out)).mono ?_
  rw [HBK.out]
  rintro e w4 ⟨rfl, hb⟩
  have hb4 := below_step hb3 (Nat.le_refl _) hb
  clear hb hb3
  cases hw1 : withinB burst 1 1000000000
  · go_wp2_with (first | (go_at_call 17; refine (within17 _ _ _ _).mono ?_; rintro e w' ⟨rfl, rfl⟩) | (go_at_call 16; refine (when16 _ _ _).mono ?_; rintro e w' ⟨rfl, rfl⟩) | fail)
    refine (first15 _ _ [ratesE xs, whenI true 7] _ (w4.heap.size + 1) (Row.lit _ _ _) (by simp [maxLen])).mono ?_
    rw [HF1.out]
    rintro e w' ⟨rfl, rfl⟩
    go_wp2_with fail
    go_ret
    exact ⟨rfl, hb4.alloc hb4.size _⟩
  · cases hw2 : withinB t 0 1099511627776
    · go_wp2_with (first | (go_at_call 17; refine (within17 _ _ _ _).mono ?_; rintro e w' ⟨rfl, rfl⟩) | (go_at_call 16; refine (when16 _ _ _).mono ?_; rintro e w' ⟨rfl, rfl⟩) | fail)
      refine (first15 _ _ [ratesE xs, whenI true 7] _ (w4.heap.size + 1) (Row.lit _ _ _) (by simp [maxLen])).mono ?_
      rw [HF1.out]
      rintro e w' ⟨rfl, rfl⟩
      go_wp2_with fail
      go_ret
      exact ⟨rfl, hb4.alloc hb4.size _⟩
    · cases hw3 : withinB u t 1099511627776
      · go_wp2_with (first | (go_at_call 17; refine (within17 _ _ _ _).mono ?_; rintro e w' ⟨rfl, rfl⟩) | (go_at_call 16; refine (when16 _ _ _).mono ?_; rintro e w' ⟨rfl, rfl⟩) | fail)
        refine (first15 _ _ [ratesE xs, whenI true 7] _ (w4.heap.size + 1) (Row.lit _ _ _) (by simp [maxLen])).mono ?_
        rw [HF1.out]
        rintro e w' ⟨rfl, rfl⟩
        go_wp2_with fail
        go_ret
        exact ⟨rfl, hb4.alloc hb4.size _⟩
      · go_wp2_with (first | (go_at_call 17; refine (within17 _ _ _ _).mono ?_; rintro e w' ⟨rfl, rfl⟩) | (go_at_call 16; refine (when16 _ _ _).mono ?_; rintro e w' ⟨rfl, rfl⟩) | fail)
        refine (first15 _ _ [ratesE xs, whenI false 7] _ (w4.heap.size + 1) (Row.lit _ _ _) (by simp [maxLen])).mono ?_
        rw [HF2.out]
        rintro e w' ⟨rfl, rfl⟩
        go_wp2_with fail
        go_ret
        exact ⟨rfl, hb4.alloc hb4.size _⟩

theorem allowed26_bad (a : Option Addr) (ca : Nat) (xs : List (Int × Int)) (burst t u : Int) (w : World) (B : Nat) (hB : B ≤ w.heap.size) (hx : Row2 w B a xs) (lx : xs.length ≤ maxLen) (h : ratesE xs = 0) (hr : rgOk burst t u = false) :
    Calls Try.prog 26 #[.slice a xs.length ca, .int .i64 burst, .int .i64 t, .int .i64 u] w fun e w' => e = .returned (.tuple #[.int .i64 0, .int .i64 7]) ∧ Below w.heap.size w w' := by
  by_cases hb : 1 ≤ burst ∧ burst ≤ 1000000000
  · have h0 : bucketE xs burst = 0 := by unfold bucketE; rw [if_pos h, if_pos hb]
    refine allowed26_out a ca xs burst t u w B hB hx lx h0 ?_
    simp only [rgOk, withinB, Bool.and_eq_false_iff, decide_eq_false_iff_not] at hr
    omega
  · have h0 : bucketE xs burst = 7 := by unfold bucketE; rw [if_pos h, if_neg hb]
    have := allowed26_no a ca xs burst t u w B hB hx lx (by rw [h0]; decide)
    rwa [h0] at this

set_option maxHeartbeats 1000000 in
set_option maxRecDepth 100000 in
theorem rates_B (a : Option Addr) (ca : Nat) (xs : List (Int × Int)) (burst t u : Int) (w : World) (hx : Row2 w w.heap.size a xs) (lx : xs.length ≤ maxLen) (h : ratesE xs = 0) (hr : rgOk burst t u = false) :
    Calls Try.prog 5 #[.slice a xs.length ca, .int .i64 burst, .int .i64 t, .int .i64 u] w fun e w' => e = .returned (.bool true) ∧ Below w.heap.size w w' := by
  have HF1 := Lib.hid (show firstI [0, whenI true 7] = 7 from rfl)
  have HX := Lib.hid hx
  have HR := Lib.hid hr
  have HE := Lib.hid h
  clear hx hr
  go_enter Try.func5, Try.ntmps5
  go_wp2_with fail
  refine (checkRates24 a ca xs w _ (Nat.le_refl _) HX.out lx).mono ?_
  rintro e w1 ⟨rfl, hb1⟩
  go_wp2_with fail
  refine (ratesError25 a ca xs w1 w.heap.size hb1.size (HX.out.below hb1) lx).mono ?_
  rintro e w2 ⟨rfl, hb⟩
  have hb2 := below_step hb1 (Nat.le_refl _) hb
  clear hb hb1
  go_wp2_with fail
  refine (hauls14 _).mono ?_
  rintro e w3 ⟨rfl, hb⟩
  have hb3 := below_step hb2 (Nat.le_refl _) hb
  clear hb hb2
  go_wp2_with fail
  refine (allowed26_bad a ca xs burst t u w3 w.heap.size hb3.size (HX.out.below hb3) lx HE.out HR.out).mono ?_
  rintro e w4 ⟨rfl, hb⟩
  have hb4 := below_step hb3 (Nat.le_refl _) hb
  clear hb hb3
  have key : withinB burst 1 1000000000 = false ∨ (withinB burst 1 1000000000 = true ∧ withinB t 0 1099511627776 = false) ∨ (withinB burst 1 1000000000 = true ∧ withinB t 0 1099511627776 = true ∧ withinB u t 1099511627776 = false) := by
    have := HR.out
    simp only [rgOk, Bool.and_eq_false_iff] at this
    cases hw1 : withinB burst 1 1000000000 <;> cases hw2 : withinB t 0 1099511627776 <;> simp_all
  rcases key with hw1 | ⟨hw1, hw2⟩ | ⟨hw1, hw2, hw3⟩
  all_goals
    go_wp2_with (first | (go_at_call 17; refine (within17 _ _ _ _).mono ?_; rintro e w' ⟨rfl, rfl⟩) | (go_at_call 16; refine (when16 _ _ _).mono ?_; rintro e w' ⟨rfl, rfl⟩) | fail)
    refine (first15 _ _ [0, whenI true 7] _ (w4.heap.size + 1) (Row.lit _ _ _) (by simp [maxLen])).mono ?_
    rw [HF1.out]
    rintro e w' ⟨rfl, rfl⟩
    go_wp2_with fail
    go_ret
    exact ⟨rfl, hb4.alloc hb4.size _⟩

set_option maxHeartbeats 1000000 in
set_option maxRecDepth 100000 in
theorem rates_C (a : Option Addr) (ca : Nat) (xs : List (Int × Int)) (burst t : Int) (N : Nat) (w : World) (hx : Row2 w w.heap.size a xs) (lx : xs.length ≤ maxLen) (h : ratesE xs = 0) (hr : rgOk burst t (t + N) = true) :
    Calls Try.prog 5 #[.slice a xs.length ca, .int .i64 burst, .int .i64 t, .int .i64 (t + N)] w fun e w' => e = .returned (.bool true) ∧ Below w.heap.size w w' := by
  have HF1 := Lib.hid (show firstI [0, whenI false 7] = 0 from rfl)
  have HX := Lib.hid hx
  have HV := Lib.hid (valid_of h)
  obtain ⟨⟨hw1, hw2⟩, hw3⟩ : (withinB burst 1 1000000000 = true ∧ withinB t 0 1099511627776 = true) ∧ withinB (t + N) t 1099511627776 = true := by simpa [rgOk] using hr
  have b1 := of_decide_eq_true hw1
  have b2 := of_decide_eq_true hw2
  have b3 := of_decide_eq_true hw3
  have hbk : bucketE xs burst = 0 := by unfold bucketE; rw [if_pos h, if_pos b1]
  have HBK := Lib.hid hbk
  clear hx hr hbk
  go_enter Try.func5, Try.ntmps5
  go_wp2_with fail
  refine (checkRates24 a ca xs w _ (Nat.le_refl _) HX.out lx).mono ?_
  rintro e w1 ⟨rfl, hb1⟩
  go_wp2_with fail
  refine (ratesError25 a ca xs w1 w.heap.size hb1.size (HX.out.below hb1) lx).mono ?_
  rintro e w2 ⟨rfl, hb⟩
  have hb2 := below_step hb1 (Nat.le_refl _) hb
  clear hb hb1
  go_wp2_with fail
  refine (hauls14 _).mono ?_
  rintro e w3 ⟨rfl, hb⟩
  have hb3 := below_step hb2 (Nat.le_refl _) hb
  clear hb hb2
  go_wp2_with fail
  refine (allowed26_ok a ca xs burst t N w3 w.heap.size hb3.size (HX.out.below hb3) lx HBK.out HV.out ⟨by omega, by omega⟩ b2.1 b3.2).mono ?_
  rintro e w4 ⟨r, hA, rfl, hb⟩
  have hb4 := below_step hb3 (Nat.le_refl _) hb
  have HA := Lib.hid hA
  clear hb hb3 hA
  go_wp2_with (first | (go_at_call 17; refine (within17 _ _ _ _).mono ?_; rintro e w' ⟨rfl, rfl⟩) | (go_at_call 16; refine (when16 _ _ _).mono ?_; rintro e w' ⟨rfl, rfl⟩) | fail)
  refine (first15 _ _ [0, whenI false 7] _ (w4.heap.size + 1) (Row.lit _ _ _) (by simp [maxLen])).mono ?_
  rw [HF1.out]
  rintro e w' ⟨rfl, rfl⟩
  have hb5 := hb4.alloc hb4.size (.cells #[.int .i64 0, .int .i64 (whenI false 7)] 24)
  by_cases hN : N ≤ 300000
  · have hd : decide ((300000 : Int) < (N : Int)) = false := decide_eq_false (by omega)
    go_wp2_with fail
    refine (allowedIn27 a ca xs burst t N _ w.heap.size hb5.size (HX.out.below hb5) HV.out b2.1 b3.2 hN (by omega) (by omega)).mono ?_
    rintro e w6 ⟨r', hA', rfl, hb⟩
    obtain rfl : r = r' := allowOf_eq HA.out hA'
    clear hA'
    have hb6 := below_step hb5 (Nat.le_refl _) hb
    clear hb
    go_wp2_with fail
    go_ret
    exact ⟨rfl, hb6⟩
  · have hd : decide ((300000 : Int) < (N : Int)) = true := decide_eq_true (by omega)
    go_wp2_with fail
    go_ret
    exact ⟨rfl, hb5⟩

theorem rates_all (a : Option Addr) (ca : Nat) (xs : List (Int × Int)) (burst t u : Int) (w : World) (hx : Row2 w w.heap.size a xs) (lx : xs.length ≤ maxLen) :
    Calls Try.prog 5 #[.slice a xs.length ca, .int .i64 burst, .int .i64 t, .int .i64 u] w fun e w' => e = .returned (.bool true) ∧ Below w.heap.size w w' := by
  by_cases h : ratesE xs = 0
  · cases hr : rgOk burst t u
    · exact rates_B a ca xs burst t u w hx lx h hr
    · obtain ⟨N, rfl⟩ : ∃ N : Nat, u = t + N := by
        simp only [rgOk, withinB, Bool.and_eq_true, decide_eq_true_eq] at hr
        exact ⟨(u - t).toNat, by omega⟩
      exact rates_C a ca xs burst t N w hx lx h hr
  · exact rates_A a ca xs burst t u w hx lx h

end Go.Proofs.Ytdfloglicjocbaa
