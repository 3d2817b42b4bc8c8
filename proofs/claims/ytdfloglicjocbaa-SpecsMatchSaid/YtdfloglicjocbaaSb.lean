import Derived.Test.YtdfloglicjocbaaSa
import Derived.Test.YtdfloglicjocbaaRc
namespace Go.Proofs.Ytdfloglicjocbaa
open Go.RowKit

def specE' (c p pc sp lt od sd lm f m k j t : Int) (xs : List (Int × Int)) (burst : Int) : Int :=
  if spB c p pc sp lt then (if withinB od 1 6 then (if withinB sd 0 2147483647 && withinB lm 0 1099511627776 then (if boB f m k j t then (if ratesE xs = 0 then (if withinB burst 1 1000000000 then (if burst < pc then 13 else 0) else 7) else ratesE xs) else 7) else 7) else 5) else 7
theorem specE_seed (c p pc sp lt od sd lm f m k j t : Int) (xs : List (Int × Int)) (burst : Int) : specE c p pc sp lt od sd lm f m k j t xs burst = specE' c p pc sp lt od sd lm f m k j t xs burst := by
  have h1 : isSeedB sd = withinB sd 0 2147483647 := by
    unfold isSeedB withinB
    rw [Bool.eq_iff_iff]; simp; omega
  unfold specE specE'
  rw [h1]
  have h2 : (if bucketE xs burst = 0 then (if burst < pc then (13 : Int) else 0) else bucketE xs burst) = if ratesE xs = 0 then (if withinB burst 1 1000000000 then (if burst < pc then 13 else 0) else 7) else ratesE xs := by
    by_cases hr : ratesE xs = 0
    · rw [if_pos hr]
      by_cases hb : 1 ≤ burst ∧ burst ≤ 1000000000
      · have e : bucketE xs burst = 0 := by unfold bucketE; rw [if_pos hr, if_pos hb]
        have e2 : withinB burst 1 1000000000 = true := by unfold withinB; simp [hb]
        rw [if_pos e, if_pos e2]
      · have e : bucketE xs burst = 7 := by unfold bucketE; rw [if_pos hr, if_neg hb]
        rw [e, if_neg (by decide), if_neg (by unfold withinB; simp only [decide_eq_true_eq]; exact hb)]
    · have e : bucketE xs burst = ratesE xs := by unfold bucketE; rw [if_neg hr]
      rw [e, if_neg hr, if_neg hr]
  rw [h2]

set_option maxHeartbeats 2000000 in
set_option maxRecDepth 100000 in
theorem specError35 (c p pc sp lt od sd lm f m k j t : Int) (a : Option Addr) (ca : Nat) (xs : List (Int × Int)) (burst : Int) (w : World) (B : Nat) (hB : B ≤ w.heap.size) (hx : Row2 w B a xs) (lx : xs.length ≤ maxLen) :
    Calls Try.prog 35 #[.agg (spC c p pc sp lt od sd lm f m k j t (.slice a xs.length ca) burst)] w fun e w' => e = .returned (.int .i64 (specE c p pc sp lt od sd lm f m k j t xs burst)) ∧ Below w.heap.size w w' := by
  have HX := Lib.hid hx
  clear hx
  cases h1 : spB c p pc sp lt
  · have HE := Lib.hid (show specE c p pc sp lt od sd lm f m k j t xs burst = 7 by simp [specE, h1])
    rcases spB_cases _ _ _ _ _ h1 with q1 | ⟨q1, q2⟩ | ⟨q1, q2, q3⟩ | ⟨q1, q2, q3, q4⟩ | ⟨q1, q2, q3, q4, q5⟩
    all_goals
      clear h1
      go_enter Try.func35, Try.ntmps35
      go_wp2_with (go_at_call 58; refine (within58 _ _ _ _).mono ?_; rintro e w' ⟨rfl, rfl⟩)
      go_ret
      exact ⟨ret_int HE.out.symm, (Below.refl _ _).alloc (Nat.le_refl _) _⟩
  · obtain ⟨q1, q2, q3, q4, q5⟩ := spB_true _ _ _ _ _ h1
    cases h2 : withinB od 1 6
    · have HE := Lib.hid (show specE c p pc sp lt od sd lm f m k j t xs burst = 5 by simp [specE, h1, h2])
      clear h1
      go_enter Try.func35, Try.ntmps35
      go_wp2_with (go_at_call 58; refine (within58 _ _ _ _).mono ?_; rintro e w' ⟨rfl, rfl⟩)
      go_ret
      exact ⟨ret_int HE.out.symm, (Below.refl _ _).alloc (Nat.le_refl _) _⟩
    · rw [specE_seed]
      cases h3 : withinB sd 0 2147483647
      · have HE := Lib.hid (show specE' c p pc sp lt od sd lm f m k j t xs burst = 7 by simp [specE', h1, h2, h3])
        clear h1
        go_enter Try.func35, Try.ntmps35
        go_wp2_with (first | (go_at_call 58; refine (within58 _ _ _ _).mono ?_; rintro e w' ⟨rfl, rfl⟩))
        go_ret
        exact ⟨ret_int HE.out.symm, (Below.refl _ _).alloc (Nat.le_refl _) _⟩
      · cases h4 : withinB lm 0 1099511627776
        · have HE := Lib.hid (show specE' c p pc sp lt od sd lm f m k j t xs burst = 7 by simp [specE', h1, h2, h3, h4])
          clear h1
          go_enter Try.func35, Try.ntmps35
          go_wp2_with (first | (go_at_call 58; refine (within58 _ _ _ _).mono ?_; rintro e w' ⟨rfl, rfl⟩))
          go_ret
          exact ⟨ret_int HE.out.symm, (Below.refl _ _).alloc (Nat.le_refl _) _⟩
        · cases h5 : boB f m k j t
          · have HE := Lib.hid (show specE' c p pc sp lt od sd lm f m k j t xs burst = 7 by simp [specE', h1, h2, h3, h4, h5])
            have hbo : boE f m k j t = 7 := by simp [boE, h5]
            clear h1 h5
            go_enter Try.func35, Try.ntmps35
            go_wp2_with (first | (go_at_call 58; refine (within58 _ _ _ _).mono ?_; rintro e w' ⟨rfl, rfl⟩) | fail)
            refine (refBack13 _ _ _ _ _ _).mono ?_
            rintro e w1 ⟨rfl, hb1⟩
            have hb2 := alloc_below hb1
            clear hb1
            go_wp2_with fail
            go_ret
            exact ⟨ret_int HE.out.symm, hb2⟩
          · have hbo : boE f m k j t = 0 := by simp [boE, h5]
            have HSP := Lib.hid (show specE' c p pc sp lt od sd lm f m k j t xs burst = if ratesE xs = 0 then (if withinB burst 1 1000000000 then (if burst < pc then 13 else 0) else 7) else ratesE xs by simp [specE', h1, h2, h3, h4, h5])
            clear h1 h5
            go_enter Try.func35, Try.ntmps35
            go_wp2_with (first | (go_at_call 58; refine (within58 _ _ _ _).mono ?_; rintro e w' ⟨rfl, rfl⟩) | fail)
            refine (refBack13 _ _ _ _ _ _).mono ?_
            rintro e w1 ⟨rfl, hb1⟩
            have hc := box_cells hb1
            have HB1 := Lib.hid hb1
            have HB2 := Lib.hid (alloc_below hb1)
            clear hb1
            go_wp2_with fail
            refine (ratesError25 a ca xs w1 B (Nat.le_trans hB HB2.out.size) (HX.out.below (HB2.out.mono hB)) lx).mono ?_
            rintro e w2 ⟨rfl, hb⟩
            have hbb := below_step HB1.out (Nat.le_refl _) hb
            clear hc
            have hc := box_cells hbb
            have HB3 := Lib.hid (alloc_below hbb)
            clear hb hbb
            by_cases hbk : ratesE xs = 0
            · cases hwb : withinB burst 1 1000000000
              · have HE := Lib.hid (HSP.out.trans ((if_pos hbk).trans (if_neg (by rw [hwb]; decide))))
                go_wp2_with (go_at_call 58; refine (within58 _ _ _ _).mono ?_; rintro e w' ⟨rfl, rfl⟩)
                go_ret
                exact ⟨ret_int HE.out.symm, HB3.out⟩
              · by_cases hpb : burst < pc
                · have HE := Lib.hid (HSP.out.trans ((if_pos hbk).trans ((if_pos hwb).trans (if_pos hpb))))
                  go_wp2_with (go_at_call 58; refine (within58 _ _ _ _).mono ?_; rintro e w' ⟨rfl, rfl⟩)
                  go_ret
                  exact ⟨ret_int HE.out.symm, HB3.out⟩
                · have HE := Lib.hid (HSP.out.trans ((if_pos hbk).trans ((if_pos hwb).trans (if_neg hpb))))
                  go_wp2_with (go_at_call 58; refine (within58 _ _ _ _).mono ?_; rintro e w' ⟨rfl, rfl⟩)
                  go_ret
                  exact ⟨ret_int HE.out.symm, HB3.out⟩
            · have HE := Lib.hid (HSP.out.trans (if_neg hbk))
              have hne : (ratesE xs != 0) = true := by simpa using hbk
              clear hbk
              go_wp2_with fail
              go_ret
              exact ⟨ret_int HE.out.symm, HB3.out⟩

end Go.Proofs.Ytdfloglicjocbaa
