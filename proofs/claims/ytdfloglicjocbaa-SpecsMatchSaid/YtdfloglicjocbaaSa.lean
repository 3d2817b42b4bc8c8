import Derived.Test.YtdfloglicjocbaaRf
namespace Go.Proofs.Ytdfloglicjocbaa
open Go.RowKit

abbrev spC (c p pc sp lt od sd lm f m k j t : Int) (rv : Value) (burst : Int) : Array Value :=
  #[.int .i64 c, .int .i64 p, .int .i64 pc, .int .i64 sp, .int .i64 lt, .int .i64 od, .int .i64 sd, .int .i64 lm, .int .i64 f, .int .i64 m, .int .i64 k, .int .i64 j, .int .i64 t, rv, .int .i64 burst]
def spB (c p pc sp lt : Int) : Bool := withinB c 1 32 && withinB p 0 1048576 && withinB pc 1 1000000 && withinB sp 0 1000000000 && withinB lt 0 60000
def specE (c p pc sp lt od sd lm f m k j t : Int) (xs : List (Int × Int)) (burst : Int) : Int :=
  if spB c p pc sp lt then (if withinB od 1 6 then (if isSeedB sd && withinB lm 0 1099511627776 then (if boB f m k j t then (if bucketE xs burst = 0 then (if burst < pc then 13 else 0) else bucketE xs burst) else 7) else 7) else 5) else 7

theorem spB_cases (c p pc sp lt : Int) (h : spB c p pc sp lt = false) :
    withinB c 1 32 = false ∨ (withinB c 1 32 = true ∧ withinB p 0 1048576 = false) ∨ (withinB c 1 32 = true ∧ withinB p 0 1048576 = true ∧ withinB pc 1 1000000 = false) ∨
    (withinB c 1 32 = true ∧ withinB p 0 1048576 = true ∧ withinB pc 1 1000000 = true ∧ withinB sp 0 1000000000 = false) ∨
    (withinB c 1 32 = true ∧ withinB p 0 1048576 = true ∧ withinB pc 1 1000000 = true ∧ withinB sp 0 1000000000 = true ∧ withinB lt 0 60000 = false) := by
  unfold spB at h
  cases h1 : withinB c 1 32 <;> cases h2 : withinB p 0 1048576 <;> cases h3 : withinB pc 1 1000000 <;> cases h4 : withinB sp 0 1000000000 <;> cases h5 : withinB lt 0 60000 <;> simp_all
theorem spB_true (c p pc sp lt : Int) (h : spB c p pc sp lt = true) : withinB c 1 32 = true ∧ withinB p 0 1048576 = true ∧ withinB pc 1 1000000 = true ∧ withinB sp 0 1000000000 = true ∧ withinB lt 0 60000 = true := by
  unfold spB at h; simpa [and_assoc] using h

set_option maxHeartbeats 400000 in
theorem within57 (n a b : Int) (w : World) :
    Calls Try.prog 57 #[.int .i64 n, .int .i64 a, .int .i64 b] w fun e w' => e = .returned (.bool (withinB n a b)) ∧ w = w' := by
  go_enter Try.func57, Try.ntmps57
  go_wp2
  all_goals
    go_ret
    exact ⟨ret_bool (by unfold withinB; rw [Bool.eq_iff_iff]; simp; omega), rfl⟩

set_option maxHeartbeats 400000 in
theorem within58 (n a b : Int) (w : World) :
    Calls Try.prog 58 #[.int .i64 n, .int .i64 a, .int .i64 b] w fun e w' => e = .returned (.bool (withinB n a b)) ∧ w = w' := by
  go_enter Try.func58, Try.ntmps58
  go_wp2
  all_goals
    go_ret
    exact ⟨ret_bool (by unfold withinB; rw [Bool.eq_iff_iff]; simp; omega), rfl⟩

set_option maxHeartbeats 2000000 in
set_option maxRecDepth 100000 in
theorem checkSpec34 (c p pc sp lt od sd lm f m k j t : Int) (a : Option Addr) (ca : Nat) (xs : List (Int × Int)) (burst : Int) (w : World) (B : Nat) (hB : B ≤ w.heap.size) (hx : Row2 w B a xs) (lx : xs.length ≤ maxLen) :
    Calls Try.prog 34 #[.agg (spC c p pc sp lt od sd lm f m k j t (.slice a xs.length ca) burst)] w fun e w' => e = .returned (.int .i64 (specE c p pc sp lt od sd lm f m k j t xs burst)) ∧ Below w.heap.size w w' := by
  have HX := Lib.hid hx
  clear hx
  cases h1 : spB c p pc sp lt
  · have HE := Lib.hid (show specE c p pc sp lt od sd lm f m k j t xs burst = 7 by simp [specE, h1])
    rcases spB_cases _ _ _ _ _ h1 with q1 | ⟨q1, q2⟩ | ⟨q1, q2, q3⟩ | ⟨q1, q2, q3, q4⟩ | ⟨q1, q2, q3, q4, q5⟩
    all_goals
      clear h1
      go_enter Try.func34, Try.ntmps34
      go_wp2_with (go_at_call 57; refine (within57 _ _ _ _).mono ?_; rintro e w' ⟨rfl, rfl⟩)
      go_ret
      exact ⟨ret_int HE.out.symm, (Below.refl _ _).alloc (Nat.le_refl _) _⟩
  · obtain ⟨q1, q2, q3, q4, q5⟩ := spB_true _ _ _ _ _ h1
    cases h2 : withinB od 1 6
    · have HE := Lib.hid (show specE c p pc sp lt od sd lm f m k j t xs burst = 5 by simp [specE, h1, h2])
      clear h1
      go_enter Try.func34, Try.ntmps34
      go_wp2_with (go_at_call 57; refine (within57 _ _ _ _).mono ?_; rintro e w' ⟨rfl, rfl⟩)
      go_ret
      exact ⟨ret_int HE.out.symm, (Below.refl _ _).alloc (Nat.le_refl _) _⟩
    · cases h3 : isSeedB sd
      · have HE := Lib.hid (show specE c p pc sp lt od sd lm f m k j t xs burst = 7 by simp [specE, h1, h2, h3])
        clear h1
        go_enter Try.func34, Try.ntmps34
        go_wp2_with (first | (go_at_call 57; refine (within57 _ _ _ _).mono ?_; rintro e w' ⟨rfl, rfl⟩) | (go_at_call 48; refine (isSeed48 _ _).mono ?_; rintro e w' ⟨rfl, rfl⟩))
        go_ret
        exact ⟨ret_int HE.out.symm, (Below.refl _ _).alloc (Nat.le_refl _) _⟩
      · cases h4 : withinB lm 0 1099511627776
        · have HE := Lib.hid (show specE c p pc sp lt od sd lm f m k j t xs burst = 7 by simp [specE, h1, h2, h3, h4])
          clear h1
          go_enter Try.func34, Try.ntmps34
          go_wp2_with (first | (go_at_call 57; refine (within57 _ _ _ _).mono ?_; rintro e w' ⟨rfl, rfl⟩) | (go_at_call 48; refine (isSeed48 _ _).mono ?_; rintro e w' ⟨rfl, rfl⟩))
          go_ret
          exact ⟨ret_int HE.out.symm, (Below.refl _ _).alloc (Nat.le_refl _) _⟩
        · cases h5 : boB f m k j t
          · have HE := Lib.hid (show specE c p pc sp lt od sd lm f m k j t xs burst = 7 by simp [specE, h1, h2, h3, h4, h5])
            have hbo : boE f m k j t = 7 := by simp [boE, h5]
            clear h1 h5
            go_enter Try.func34, Try.ntmps34
            go_wp2_with (first | (go_at_call 57; refine (within57 _ _ _ _).mono ?_; rintro e w' ⟨rfl, rfl⟩) | (go_at_call 48; refine (isSeed48 _ _).mono ?_; rintro e w' ⟨rfl, rfl⟩) | fail)
            refine (check11 _ _ _ _ _ _).mono ?_
            rintro e w1 ⟨rfl, hb1⟩
            have hb2 := alloc_below hb1
            clear hb1
            go_wp2_with fail
            go_ret
            exact ⟨ret_int HE.out.symm, hb2⟩
          · have hbo : boE f m k j t = 0 := by simp [boE, h5]
            have HSP := Lib.hid (show specE c p pc sp lt od sd lm f m k j t xs burst = if bucketE xs burst = 0 then (if burst < pc then 13 else 0) else bucketE xs burst by simp [specE, h1, h2, h3, h4, h5])
            clear h1 h5
            go_enter Try.func34, Try.ntmps34
            go_wp2_with (first | (go_at_call 57; refine (within57 _ _ _ _).mono ?_; rintro e w' ⟨rfl, rfl⟩) | (go_at_call 48; refine (isSeed48 _ _).mono ?_; rintro e w' ⟨rfl, rfl⟩) | fail)
            refine (check11 _ _ _ _ _ _).mono ?_
            rintro e w1 ⟨rfl, hb1⟩
            have hc := box_cells hb1
            have HB1 := Lib.hid hb1
            have HB2 := Lib.hid (alloc_below hb1)
            clear hb1
            go_wp2_with fail
            refine (checkBucket51 a ca xs burst w1 B (Nat.le_trans hB HB2.out.size) (HX.out.below (HB2.out.mono hB)) lx).mono ?_
            rintro e w2 ⟨rfl, hb⟩
            have hbb := below_step HB1.out (Nat.le_refl _) hb
            clear hc
            have hc := box_cells hbb
            have HB3 := Lib.hid (alloc_below hbb)
            clear hb hbb
            by_cases hbk : bucketE xs burst = 0
            · by_cases hpb : burst < pc
              · have HE := Lib.hid (HSP.out.trans ((if_pos hbk).trans (if_pos hpb)))
                go_wp2_with fail
                go_ret
                exact ⟨ret_int HE.out.symm, HB3.out⟩
              · have HE := Lib.hid (HSP.out.trans ((if_pos hbk).trans (if_neg hpb)))
                go_wp2_with fail
                go_ret
                exact ⟨ret_int HE.out.symm, HB3.out⟩
            · have HE := Lib.hid (HSP.out.trans (if_neg hbk))
              have hne : (bucketE xs burst != 0) = true := by simpa using hbk
              clear hbk
              go_wp2_with fail
              go_ret
              exact ⟨ret_int HE.out.symm, HB3.out⟩

end Go.Proofs.Ytdfloglicjocbaa
