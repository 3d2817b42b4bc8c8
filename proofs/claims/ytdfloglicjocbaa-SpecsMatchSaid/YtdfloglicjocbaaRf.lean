import Derived.Test.YtdfloglicjocbaaRe
import Derived.Test.YtdfloglicjocbaaRc
namespace Go.Proofs.Ytdfloglicjocbaa
open Go.RowKit

theorem sumR_bd (xs : List (Int × Int)) (t : Int) (n : Nat) (v : Valid xs) (h : noNeg xs t n) : 0 ≤ sumR xs t n ∧ sumR xs t n ≤ 1000000000 * n := by
  induction n with
  | zero => simp [sumR]
  | succ n ih =>
    obtain ⟨a, b⟩ := ih fun i hi => h i (by omega)
    have := h n (by omega)
    have := v.rBd (t + n)
    simp only [sumR]
    omega
theorem allowOf_eq {xs : List (Int × Int)} {burst t : Int} {N : Nat} {r s : Int} (h : allowOf xs burst t N r) (k : allowOf xs burst t N s) : r = s := by
  rcases h with ⟨⟨i, hi, e⟩, rfl⟩ | ⟨hn, rfl⟩ <;> rcases k with ⟨⟨j, hj, e'⟩, rfl⟩ | ⟨kn, rfl⟩
  · rfl
  · exact absurd (by omega) (kn i (by omega))
  · exact absurd (by omega) (hn j (by omega))
  · rfl

set_option maxHeartbeats 1000000 in
set_option maxRecDepth 100000 in
theorem allowedIn27 (a : Option Addr) (ca : Nat) (xs : List (Int × Int)) (burst t : Int) (N : Nat) (w : World) (B : Nat) (hB : B ≤ w.heap.size) (hx : Row2 w B a xs) (v : Valid xs) (h0 : 0 ≤ t) (h1 : t + N ≤ 1099511627776) (hN : N ≤ 300000) (hb0 : 0 ≤ burst) (hb1 : burst ≤ 1000000000) :
    Calls Try.prog 27 #[.slice a xs.length ca, .int .i64 burst, .int .i64 t, .int .i64 (t + N)] w fun e w' => ∃ r, allowOf xs burst t N r ∧ e = .returned (.int .i64 r) ∧ Below w.heap.size w w' := by
  have lx := v.le
  have HX := Lib.hid hx
  have HV := Lib.hid v
  clear hx v
  go_enter Try.func27, Try.ntmps27
  go_wp2
  go_loopw [9, 10] (fun sv tv wr => ∃ n : Nat, n ≤ N + 1 ∧ tv = .int .i64 (t + n) ∧ sv = .int .i64 (sumR xs t (min n N)) ∧ noNeg xs t n ∧ Below w.heap.size w wr) (fun _ i _ => N + 1 - (intOf i - t).toNat)
  case atStart => exact ⟨0, by omega, by simp, by simp [sumR], fun i hi => by omega, Below.refl _ _⟩
  case round =>
    obtain ⟨n, hn, rfl, rfl, hneg, hbel⟩ := hrel
    obtain ⟨s0, s1⟩ := sumR_bd xs t (min n N) HV.out fun i hi => hneg i (by omega)
    have HN := Lib.hid hneg
    have hsz := hbel.size
    have HBel := Lib.hid hbel
    clear hneg hbel
    by_cases hle : n ≤ N
    · rw [show min n N = n from by omega] at *
      have hs1 : sumR xs t (n + 1) = sumR xs t n + rAt xs (t + n) := rfl
      have hm : sumR xs t (min (n + 1) N) = if n < N then sumR xs t n + rAt xs (t + n) else sumR xs t n := by
        by_cases h : n < N
        · rw [if_pos h, show min (n + 1) N = n + 1 from by omega, hs1]
        · rw [if_neg h, show min (n + 1) N = n from by omega]
      clear hs1
      have HM := Lib.hid hm
      clear hm
      generalize hS : sumR xs t n = S at *
      have HSS := Lib.hid hS
      clear hS
      go_wp2_with fail
      refine (refRateAt53 a ca xs (t + n) wr B (by omega) (HX.out.below (HBel.out.mono hB)) lx (by omega) (by omega)).mono ?_
      rintro e w1 ⟨rfl, hb⟩
      have HB1 := Lib.hid (below_step HBel.out (Nat.le_refl _) hb)
      clear hb
      obtain ⟨rb0, rb1⟩ := HV.out.rBd (t + n)
      by_cases hr : rAt xs (t + n) < 0
      · have HA := Lib.hid (show allowOf xs burst t N (-1) from .inl ⟨⟨n, hle, by omega⟩, rfl⟩)
        generalize rAt xs (t + n) = R at *
        go_wp2_with fail
        go_ret
        exact ⟨-1, HA.out, rfl, HB1.out⟩
      · have HNN := Lib.hid (show noNeg xs t (n + 1) from fun i hi => by
          by_cases hin : i < n
          · exact HN.out i hin
          · obtain rfl : i = n := by omega
            exact hr)
        generalize rAt xs (t + n) = R at *
        by_cases hlt : n < N
        · have HM2 := Lib.hid (HM.out.trans (if_pos hlt))
          go_wp2_with fail
          go_roundw
          case rel => exact ⟨n + 1, by omega, by go_num, by rw [HM2.out], HNN.out, HB1.out⟩
          case measure => simp [intOf]; omega
        · have HM2 := Lib.hid (HM.out.trans (if_neg hlt))
          go_wp2_with fail
          go_roundw
          case rel => exact ⟨n + 1, by omega, by go_num, by rw [HM2.out], HNN.out, HB1.out⟩
          case measure => simp [intOf]; omega
    · obtain rfl : n = N + 1 := by omega
      rw [show min (N + 1) N = N from by omega]
      obtain ⟨z0, z1⟩ := sumR_bd xs t N HV.out fun i hi => HN.out i (by omega)
      have HA := Lib.hid (show allowOf xs burst t N (burst + sumR xs t N / 1000) from .inr ⟨HN.out, rfl⟩)
      clear s0 s1
      generalize sumR xs t N = S at *
      go_wp2_with fail
      go_ret
      exact ⟨_, HA.out, rfl, HBel.out⟩

def bucketE (xs : List (Int × Int)) (burst : Int) : Int := if ratesE xs = 0 then (if 1 ≤ burst ∧ burst ≤ 1000000000 then 0 else 7) else ratesE xs

set_option maxHeartbeats 400000 in
theorem checkBucket51 (a : Option Addr) (ca : Nat) (xs : List (Int × Int)) (burst : Int) (w : World) (B : Nat) (hB : B ≤ w.heap.size) (hx : Row2 w B a xs) (lx : xs.length ≤ maxLen) :
    Calls Try.prog 51 #[.slice a xs.length ca, .int .i64 burst] w fun e w' => e = .returned (.int .i64 (bucketE xs burst)) ∧ Below w.heap.size w w' := by
  by_cases h : ratesE xs = 0
  · have hb : bucketE xs burst = if 1 ≤ burst ∧ burst ≤ 1000000000 then 0 else 7 := by unfold bucketE; rw [if_pos h]
    have HB := Lib.hid hb
    clear hb
    go_enter Try.func51, Try.ntmps51
    go_wp2_with fail
    refine (checkRates24 a ca xs w B hB hx lx).mono ?_
    rintro e w1 ⟨rfl, hb1⟩
    go_wp2_with fail
    all_goals
      go_ret
      exact ⟨ret_int (by rw [HB.out]; first | rw [if_pos (by omega)] | rw [if_neg (by omega)]), hb1⟩
  · have hb : bucketE xs burst = ratesE xs := by unfold bucketE; rw [if_neg h]
    have HB := Lib.hid hb
    have hne : (ratesE xs != 0) = true := by simpa using h
    clear hb h
    go_enter Try.func51, Try.ntmps51
    go_wp2_with fail
    refine (checkRates24 a ca xs w B hB hx lx).mono ?_
    rintro e w1 ⟨rfl, hb1⟩
    go_wp2_with fail
    go_ret
    exact ⟨ret_int HB.out.symm, hb1⟩

set_option maxHeartbeats 400000 in
theorem allowed26_no (a : Option Addr) (ca : Nat) (xs : List (Int × Int)) (burst t u : Int) (w : World) (B : Nat) (hB : B ≤ w.heap.size) (hx : Row2 w B a xs) (lx : xs.length ≤ maxLen) (h : ¬ bucketE xs burst = 0) :
    Calls Try.prog 26 #[.slice a xs.length ca, .int .i64 burst, .int .i64 t, .int .i64 u] w fun e w' => e = .returned (.tuple #[.int .i64 0, .int .i64 (bucketE xs burst)]) ∧ Below w.heap.size w w' := by
  have hne : (bucketE xs burst != 0) = true := by simpa using h
  clear h
  go_enter Try.func26, Try.ntmps26
  go_wp2_with fail
  refine (checkBucket51 a ca xs burst w B hB hx lx).mono ?_
  rintro e w1 ⟨rfl, hb1⟩
  go_wp2_with fail
  go_ret2
  exact ⟨rfl, hb1⟩

set_option maxHeartbeats 400000 in
theorem allowed26_out (a : Option Addr) (ca : Nat) (xs : List (Int × Int)) (burst t u : Int) (w : World) (B : Nat) (hB : B ≤ w.heap.size) (hx : Row2 w B a xs) (lx : xs.length ≤ maxLen) (h : bucketE xs burst = 0) (ht : t < 0 ∨ 1099511627776 < t ∨ u < t ∨ 1099511627776 < u) :
    Calls Try.prog 26 #[.slice a xs.length ca, .int .i64 burst, .int .i64 t, .int .i64 u] w fun e w' => e = .returned (.tuple #[.int .i64 0, .int .i64 7]) ∧ Below w.heap.size w w' := by
  go_enter Try.func26, Try.ntmps26
  go_wp2_with fail
  refine (checkBucket51 a ca xs burst w B hB hx lx).mono ?_
  rintro e w1 ⟨rfl, hb1⟩
  by_cases q1 : t < 0
  · clear ht
    go_wp2_with fail
    go_ret2
    exact ⟨rfl, hb1⟩
  by_cases q2 : 1099511627776 < t
  · clear ht
    go_wp2_with fail
    go_ret2
    exact ⟨rfl, hb1⟩
  by_cases q3 : u < t
  · clear ht
    go_wp2_with fail
    go_ret2
    exact ⟨rfl, hb1⟩
  have q4 : 1099511627776 < u := by omega
  clear ht
  go_wp2_with fail
  go_ret2
  exact ⟨rfl, hb1⟩

set_option maxHeartbeats 400000 in
theorem allowed26_ok (a : Option Addr) (ca : Nat) (xs : List (Int × Int)) (burst t : Int) (N : Nat) (w : World) (B : Nat) (hB : B ≤ w.heap.size) (hx : Row2 w B a xs) (lx : xs.length ≤ maxLen) (h : bucketE xs burst = 0) (v : Valid xs) (hb : 0 ≤ burst ∧ burst ≤ 1000000000) (h0 : 0 ≤ t) (h1 : t + N ≤ 1099511627776) :
    Calls Try.prog 26 #[.slice a xs.length ca, .int .i64 burst, .int .i64 t, .int .i64 (t + N)] w fun e w' => ∃ r, allowOf xs burst t N r ∧ e = .returned (.tuple #[.int .i64 r, .int .i64 0]) ∧ Below w.heap.size w w' := by
  go_enter Try.func26, Try.ntmps26
  go_wp2_with fail
  refine (checkBucket51 a ca xs burst w B hB hx lx).mono ?_
  rintro e w1 ⟨rfl, hb1⟩
  go_wp2_with fail
  refine (allowed52 a ca xs burst t N w1 B (hx.below (hb1.mono hB)) v h0 h1 hb.1 hb.2).mono ?_
  rintro e w' ⟨r, hr, rfl, rfl⟩
  have HR := Lib.hid hr
  clear hr
  go_wp2_with fail
  go_ret2
  exact ⟨r, HR.out, rfl, hb1⟩

end Go.Proofs.Ytdfloglicjocbaa
