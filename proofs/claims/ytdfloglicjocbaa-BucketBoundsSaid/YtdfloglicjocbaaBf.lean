import Derived.Test.YtdfloglicjocbaaBc
import Derived.Test.YtdfloglicjocbaaBd
import Derived.Test.YtdfloglicjocbaaBe
namespace Go.Proofs.Ytdfloglicjocbaa
open Go.RowKit

def Eqv (xs : List (Int × Int)) (s lb lp : Int) : Prop := 0 ≤ rAt xs s → lb = lp
theorem Eqv.pass {xs : List (Int × Int)} {M s lb lp : Int} (h : Eqv xs s lb lp) (n : Nat) (hn : 0 < n) : passF xs M s lb n = passF xs M s lp n := by
  induction n with
  | zero => omega
  | succ n ih =>
    simp only [passF]
    by_cases h0 : n = 0
    · subst h0
      simp only [passF, Int.natCast_zero, Int.add_zero]
      by_cases hr : rAt xs s < 0
      · rw [if_pos hr, if_pos hr]
      · rw [if_neg hr, if_neg hr, h (by omega)]
    · rw [ih (by omega)]
theorem Eqv.hold {xs : List (Int × Int)} {M s lb lp : Int} (h : Eqv xs s lb lp) (n : Nat) : holdF xs M s lb n = holdF xs M s lp n := by
  unfold holdF
  by_cases h0 : n = 0
  · subst h0
    simp only [passF, Int.natCast_zero, Int.add_zero]
    by_cases hr : rAt xs s < 0
    · rw [if_pos hr, if_pos hr]
    · rw [if_neg hr, if_neg hr, h (by omega)]
  · rw [h.pass n (by omega)]

theorem bucket_want (xs : List (Int × Int)) (burst : Int) : firstI [ratesE xs, whenI (!withinB burst 1 1000000000) 7] = bucketE xs burst := by
  unfold bucketE
  by_cases h : ratesE xs = 0
  · rw [if_pos h]
    by_cases hb : 1 ≤ burst ∧ burst ≤ 1000000000
    · rw [if_pos hb]; simp [firstI, h, whenI, withinB, hb]
    · rw [if_neg hb]
      have : withinB burst 1 1000000000 = false := by simp only [withinB, decide_eq_false_iff_not]; omega
      simp [firstI, h, whenI, this]
  · rw [if_neg h]; simp [firstI, h]

set_option maxHeartbeats 1000000 in
set_option maxRecDepth 100000 in
theorem bm_no (a : Option Addr) (ca : Nat) (xs : List (Int × Int)) (burst : Int) (tv : Value) (w : World) (hx : Row2 w w.heap.size a xs) (lx : xs.length ≤ maxLen) (hE : ¬ bucketE xs burst = 0) :
    Calls Try.prog 6 #[.slice a xs.length ca, .int .i64 burst, tv] w fun e w' => e = .returned (.bool true) ∧ Below w.heap.size w w' := by
  have HX := Lib.hid hx
  have HE := Lib.hid hE
  have hne : (bucketE xs burst != 0) = true := by simpa using hE
  have hne2 : (bucketE xs burst == 0) = false := by simpa using hE
  have HW := Lib.hid (bucket_want xs burst)
  clear hx hE
  go_enter Try.func6, Try.ntmps6
  go_wp2_with fail
  refine (newBucket28_no a ca xs burst w HX.out lx HE.out).mono ?_
  rintro e w1 ⟨rfl, hb1⟩
  go_wp2_with fail
  refine (ratesError25 a ca xs w1 w.heap.size hb1.size (HX.out.below hb1) lx).mono ?_
  rintro e w2 ⟨rfl, hb⟩
  have hb2 := below_step hb1 (Nat.le_refl _) hb
  clear hb hb1
  go_wp2_with (first | (go_at_call 17; refine (within17 _ _ _ _).mono ?_; rintro e w' ⟨rfl, rfl⟩) | (go_at_call 16; refine (when16 _ _ _).mono ?_; rintro e w' ⟨rfl, rfl⟩) | fail)
  refine (first15 _ _ [ratesE xs, whenI (!withinB burst 1 1000000000) 7] _ (w2.heap.size + 1) (Row.lit _ _ _) (by simp [maxLen])).mono ?_
  rw [HW.out]
  rintro e w' ⟨rfl, rfl⟩
  have hb3 := hb2.alloc hb2.size (.cells #[.int .i64 (ratesE xs), .int .i64 (whenI (!withinB burst 1 1000000000) 7)] 24)
  go_wp2_with fail
  refine (hauls14 _).mono ?_
  rintro e w4 ⟨rfl, hb⟩
  have hb4 := below_step hb3 (Nat.le_refl _) hb
  clear hb hb3 hb2
  go_wp2_with fail
  refine (hauls14 _).mono ?_
  rintro e w5 ⟨rfl, hb⟩
  have hb5 := below_step hb4 (Nat.le_refl _) hb
  clear hb hb4
  go_wp2_with fail
  go_ret
  exact ⟨rfl, hb5⟩

set_option maxHeartbeats 1000000 in
set_option maxRecDepth 100000 in
theorem bm_long (a : Option Addr) (ca : Nat) (xs : List (Int × Int)) (burst : Int) (ta : Option Addr) (tn tc : Nat) (w : World) (hx : Row2 w w.heap.size a xs) (lx : xs.length ≤ maxLen) (hE : bucketE xs burst = 0) (v : Valid xs) (hb0 : 1 ≤ burst) (hb1' : burst ≤ 1000000000) (ht : 40 < tn) (ht2 : tn ≤ maxLen) :
    Calls Try.prog 6 #[.slice a xs.length ca, .int .i64 burst, .slice ta tn tc] w fun e w' => e = .returned (.bool true) ∧ Below w.heap.size w w' := by
  have HX := Lib.hid hx
  have HE := Lib.hid hE
  have HV := Lib.hid v
  have HW := Lib.hid ((bucket_want xs burst).trans hE)
  unfold maxLen at ht2
  clear hx hE v
  go_enter Try.func6, Try.ntmps6
  go_wp2_with fail
  refine (newBucket28_ok a ca xs burst w HX.out lx HE.out HV.out hb0 hb1').mono ?_
  rintro e w1 ⟨g, r, c, rfl, _, _, _, _, hb1⟩
  go_wp2_with fail
  refine (ratesError25 a ca xs w1 w.heap.size hb1.size (HX.out.below hb1) lx).mono ?_
  rintro e w2 ⟨rfl, hb⟩
  have hb2 := below_step hb1 (Nat.le_refl _) hb
  clear hb hb1
  go_wp2_with (first | (go_at_call 17; refine (within17 _ _ _ _).mono ?_; rintro e w' ⟨rfl, rfl⟩) | (go_at_call 16; refine (when16 _ _ _).mono ?_; rintro e w' ⟨rfl, rfl⟩) | fail)
  refine (first15 _ _ [ratesE xs, whenI (!withinB burst 1 1000000000) 7] _ (w2.heap.size + 1) (Row.lit _ _ _) (by simp [maxLen])).mono ?_
  rw [HW.out]
  rintro e w' ⟨rfl, rfl⟩
  have hb3 := hb2.alloc hb2.size (.cells #[.int .i64 (ratesE xs), .int .i64 (whenI (!withinB burst 1 1000000000) 7)] 24)
  go_wp2_with fail
  refine (hauls14 _).mono ?_
  rintro e w4 ⟨rfl, hb⟩
  have hb4 := below_step hb3 (Nat.le_refl _) hb
  clear hb hb3 hb2
  go_wp2_with fail
  refine (hauls14 _).mono ?_
  rintro e w5 ⟨rfl, hb⟩
  have hb5 := below_step hb4 (Nat.le_refl _) hb
  clear hb hb4
  go_wp2_with fail
  go_ret
  exact ⟨rfl, hb5⟩

end Go.Proofs.Ytdfloglicjocbaa
