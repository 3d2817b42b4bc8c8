import Derived.Test.YtdfloglicjocbaaD
namespace Go.Proofs.Ytdfloglicjocbaa
open Go.RowKit

theorem wants_ok (f m k j t s : Int) (h : dOk f m k j t s = true) : boE f m k j t = 0 ∧ dlsE f m k j t s = 0 ∧ withinB s 0 2147483647 = true := by
  have h' := h
  simp only [dOk, Bool.and_eq_true] at h
  refine ⟨by simp [boE, h.1], by simp [dlsE, h'], ?_⟩
  have := h.2
  simp only [isSeedB, decide_eq_true_eq] at this
  simp only [withinB, decide_eq_true_eq]
  omega
theorem wants_no (f m k j t s : Int) (h : ¬ dOk f m k j t s = true) : dlsL f m k j t s = [] ∧ dlsE f m k j t s = 7 ∧ firstI [boE f m k j t, whenI (!withinB s 0 2147483647) 7] = 7 := by
  refine ⟨by simp [dlsL, h], by simp [dlsE, h], ?_⟩
  simp only [dOk, Bool.and_eq_true] at h
  by_cases hb : boB f m k j t = true
  · have hs : ¬ isSeedB s = true := fun e => h ⟨hb, e⟩
    have hw : withinB s 0 2147483647 = false := by
      simp only [isSeedB, decide_eq_true_eq] at hs
      simp only [withinB, decide_eq_false_iff_not]
      omega
    simp [firstI, boE, hb, hw, whenI]
  · simp [firstI, boE, hb]

theorem below_step {B : Nat} {w w1 w2 : World} (h : Below B w w1) (hB : B ≤ w.heap.size) (h' : Below w1.heap.size w1 w2) : Below B w w2 :=
  h.trans (h'.mono (Nat.le_trans hB h.size))

set_option maxHeartbeats 1000000 in
set_option maxRecDepth 100000 in
theorem law_ok (f m k j t s : Int) (w : World) (h : dOk f m k j t s = true) :
    Calls Try.prog 3 #[.agg #[.int .i64 f, .int .i64 m, .int .i64 k, .int .i64 j, .int .i64 t], .int .i64 s] w fun e w' => e = .returned (.bool true) ∧ Below w.heap.size w w' := by
  obtain ⟨hE, hF, hW⟩ := wants_ok f m k j t s h
  have hL : dlsL f m k j t s = dlyL f m k j s (t - 1).toNat := by simp [dlsL, h]
  have lq : (dlsL f m k j t s).length ≤ maxLen := by
    rw [hL, dlyL_len]
    simp only [dOk, boB, Bool.and_eq_true, decide_eq_true_eq] at h
    unfold maxLen
    omega
  have HL := Lib.hid hL
  have HH := Lib.hid h
  clear h hL
  go_enter Try.func3, Try.ntmps3
  go_wp2_with fail
  refine (check11 _ _ _ _ _ _).mono ?_
  rintro e w1 ⟨rfl, hb1⟩
  have hc := box_cells hb1
  go_wp2_with fail
  refine (delays12 _ _ _ _ _ _ _).mono ?_
  rintro e w2 ⟨a, cap, rfl, hr2, hb⟩
  have hb2 := below_step hb1 (Nat.le_refl _) hb
  clear hb hb1 hc
  have hc := box_cells hb2
  have HR := Lib.hid hr2
  clear hr2
  go_wp2_with fail
  refine (refBack13 _ _ _ _ _ _).mono ?_
  rintro e w3 ⟨rfl, hb⟩
  have hr3 := (HR.out.below hb).more hb.size
  have hb3 := below_step hb2 (Nat.le_refl _) hb
  clear hb hb2 hc HR
  go_wp2_with fail
  refine (hauls14 _).mono ?_
  rintro e w4 ⟨rfl, hb⟩
  have hr4 := (hr3.below hb).more hb.size
  have hb4 := below_step hb3 (Nat.le_refl _) hb
  clear hb hb3 hr3
  have HR := Lib.hid hr4
  clear hr4
  go_wp2_with (first | (go_at_call 17; refine (within17 _ _ _ _).mono ?_; rintro e w' ⟨rfl, rfl⟩) | (go_at_call 16; refine (when16 _ _ _).mono ?_; rintro e w' ⟨rfl, rfl⟩) | fail)
  refine (first15 _ _ [0, 0] _ (w4.heap.size + 1) (Row.lit _ _ _) (by decide)).mono ?_
  rintro e w' ⟨rfl, rfl⟩
  have hz : firstI [0, 0] = 0 := rfl
  have hr5 := HR.out.alloc (.cells #[.int .i64 0, .int .i64 0] 24)
  have hb5 := hb4.alloc hb4.size (.cells #[.int .i64 0, .int .i64 0] 24)
  have hc := box_cells hb5
  have HR5 := Lib.hid hr5
  clear hr5 HR hb4
  go_wp2_with fail
  obtain ⟨hB, hS⟩ : boB f m k j t = true ∧ isSeedB s = true := by simpa [dOk] using HH.out
  refine (delaysOf19 _ _ _ _ _ _ _ hB hS).mono ?_
  rintro e w6 ⟨v, rfl, hown, hb⟩
  obtain ⟨a', cap', rfl, hr'⟩ := Row.of_own hown (dlyL_len _ _ _ _ _ _)
  have hr6 := (HR5.out.below (hb.mono (by simp))).more (by simpa using hb.size)
  have hb6 := below_step hb5 (Nat.le_refl _) hb
  clear hb hb5 hc HR5 hown hB hS
  generalize (t - 1).toNat = N at *
  go_wp2_with fail
  refine (equal18 a a' cap cap' (dlsL f m k j t s) (dlyL f m k j s N) _ w6.heap.size hr6 hr' lq (by rw [← HL.out]; exact lq)).mono ?_
  rintro e w' ⟨rfl, n, rfl⟩
  go_wp2_with fail
  go_ret
  exact ⟨by simp [HL.out], below_drewN (alloc_below hb6) _⟩


set_option maxHeartbeats 1000000 in
set_option maxRecDepth 100000 in
theorem law_no (f m k j t s : Int) (w : World) (h : ¬ dOk f m k j t s = true) :
    Calls Try.prog 3 #[.agg #[.int .i64 f, .int .i64 m, .int .i64 k, .int .i64 j, .int .i64 t], .int .i64 s] w fun e w' => e = .returned (.bool true) ∧ Below w.heap.size w w' := by
  obtain ⟨hL, hF, hW⟩ := wants_no f m k j t s h
  have HW := Lib.hid hW
  have HF := Lib.hid hF
  clear h hW hF
  go_enter Try.func3, Try.ntmps3
  go_wp2_with fail
  refine (check11 _ _ _ _ _ _).mono ?_
  rintro e w1 ⟨rfl, hb1⟩
  have hc := box_cells hb1
  go_wp2_with fail
  refine (delays12 _ _ _ _ _ _ _).mono ?_
  rw [hL, HF.out]
  rintro e w2 ⟨a, cap, rfl, hr2, hb⟩
  have hb2 := below_step hb1 (Nat.le_refl _) hb
  clear hb hb1 hc hr2 hL
  have hc := box_cells hb2
  go_wp2_with fail
  refine (refBack13 _ _ _ _ _ _).mono ?_
  rintro e w3 ⟨rfl, hb⟩
  have hb3 := below_step hb2 (Nat.le_refl _) hb
  clear hb hb2 hc
  go_wp2_with fail
  refine (hauls14 _).mono ?_
  rintro e w4 ⟨rfl, hb⟩
  have hb4 := below_step hb3 (Nat.le_refl _) hb
  clear hb hb3
  go_wp2_with (first | (go_at_call 17; refine (within17 _ _ _ _).mono ?_; rintro e w' ⟨rfl, rfl⟩) | (go_at_call 16; refine (when16 _ _ _).mono ?_; rintro e w' ⟨rfl, rfl⟩) | fail)
  refine (first15 _ _ [boE f m k j t, whenI (!withinB s 0 2147483647) 7] _ (w4.heap.size + 1) (Row.lit _ _ _) (by simp [maxLen])).mono ?_
  rw [HW.out]
  rintro e w' ⟨rfl, rfl⟩
  have hb5 := hb4.alloc hb4.size (.cells #[.int .i64 (boE f m k j t), .int .i64 (whenI (!withinB s 0 2147483647) 7)] 24)
  go_wp2_with fail
  go_ret
  exact ⟨rfl, alloc_below hb5⟩

theorem law_all (f m k j t s : Int) (w : World) :
    Calls Try.prog 3 #[.agg #[.int .i64 f, .int .i64 m, .int .i64 k, .int .i64 j, .int .i64 t], .int .i64 s] w fun e w' => e = .returned (.bool true) ∧ Below w.heap.size w w' := by
  by_cases h : dOk f m k j t s = true
  · exact law_ok f m k j t s w h
  · exact law_no f m k j t s w h

end Go.Proofs.Ytdfloglicjocbaa
