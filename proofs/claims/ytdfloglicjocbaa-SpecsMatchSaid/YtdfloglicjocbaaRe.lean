import Derived.Test.YtdfloglicjocbaaRd
namespace Go.Proofs.Ytdfloglicjocbaa
open Go.RowKit

theorem sum_step (wh re S g : Int) (h : wh * 1000 + re = S) : (wh + g / 1000) * 1000 + (re + g % 1000) = S + g := by omega

set_option maxHeartbeats 2000000 in
set_option maxRecDepth 100000 in
theorem allowed52 (a : Option Addr) (ca : Nat) (xs : List (Int × Int)) (burst t : Int) (N : Nat) (w : World) (B : Nat) (hx : Row2 w B a xs) (v : Valid xs) (h0 : 0 ≤ t) (h1 : t + N ≤ 1099511627776) (hb0 : 0 ≤ burst) (hb1 : burst ≤ 1000000000) :
    Calls Try.prog 52 #[.slice a xs.length ca, .int .i64 burst, .int .i64 t, .int .i64 (t + N)] w fun e w' => ∃ r, allowOf xs burst t N r ∧ e = .returned (.int .i64 r) ∧ w = w' := by
  have HX := Lib.hid hx
  have HV := Lib.hid v
  clear hx v
  go_enter Try.func52, Try.ntmps52
  go_wp2
  go_loop [9, 10, 11] (fun wv rv tv => ARel xs t N wv rv tv) (fun _ _ i => N - (intOf i - t).toNat)
  case atStart => exact ⟨0, 0, 0, by omega, by omega, by simp, rfl, rfl, rfl, by omega, by omega, by omega, by omega, fun i hi => by omega⟩
  case round =>
    obtain ⟨n, wh, re, hn, hn2, rfl, rfl, rfl, hs, hw0, hw1, hr0, hr1, hneg⟩ := hrel
    have HS := Lib.hid hs
    have HN := Lib.hid hneg
    clear hs hneg
    go_wp2_with fail
    refine (rateAt55 a ca xs (t + n) w B HX.out HV.out (by omega) (by omega)).mono ?_
    rintro e w' ⟨rfl, rfl⟩
    obtain ⟨rb0, rb1⟩ := HV.out.rBd (t + n)
    obtain ⟨eb0, eb1⟩ := HV.out.eBd (t + n)
    by_cases hr : rAt xs (t + n) = -1
    · have hrb : (rAt xs (t + n) == -1) = true := beq_iff_eq.2 hr
      have HA := Lib.hid (show allowOf xs burst t N (-1) from .inl ⟨⟨n, hn, hr⟩, rfl⟩)
      clear hr
      generalize rAt xs (t + n) = R at *
      generalize eAt xs (t + n) = E at *
      go_wp2_with fail
      go_ret
      exact ⟨-1, HA.out, rfl, rfl⟩
    · have hrb : (rAt xs (t + n) == -1) = false := beq_eq_false_iff_ne.2 hr
      obtain ⟨d, hd, hd2⟩ : ∃ d : Nat, (if t + (N : Int) < eAt xs (t + n) then t + (N : Int) else eAt xs (t + n)) = t + n + d ∧ n + d ≤ N := by
        by_cases hlt : t + (N : Int) < eAt xs (t + n)
        · exact ⟨N - n, by rw [if_pos hlt]; omega, by omega⟩
        · exact ⟨(eAt xs (t + n) - (t + n)).toNat, by rw [if_neg hlt]; omega, by omega⟩
      have hdE : t + n + d ≤ eAt xs (t + n) := by
        rw [← hd]; split <;> omega
      have hdp : n + d < N → 0 < d := by
        intro h
        by_cases hlt : t + (N : Int) < eAt xs (t + n)
        · rw [if_pos hlt] at hd; omega
        · rw [if_neg hlt] at hd; omega
      have HSEG := Lib.hid (seg xs t n d HV.out hdE)
      have HNN := Lib.hid (noNeg_of xs t n (n + d) HV.out HN.out hr (by omega))
      have HDP := Lib.hid hdp
      have hd3 : (d : Int) ≤ 86400000 := by omega
      clear hr hdp hdE
      have rb2 : 0 ≤ rAt xs (t + n) := by
        have : ¬ rAt xs (t + n) = -1 := by simpa using hrb
        omega
      generalize rAt xs (t + n) = R at *
      generalize eAt xs (t + n) = E at *
      have hsub : t + (n : Int) + d - (t + n) = d := by omega
      obtain ⟨g0, g1⟩ := mul_bd R d 1000000000 86400000 rb2 rb1 (by omega) hd3
      have g2 : R * d ≤ 1000000000 * d := Int.mul_le_mul_of_nonneg_right rb1 (by omega)
      by_cases hend : n + d = N
      · have hte : (t + (n : Int) + d == t + (N : Int)) = true := beq_iff_eq.2 (by omega)
        have HF := Lib.hid (show burst + (wh + R * d / 1000) + (re + R * d % 1000) / 1000 = burst + sumR xs t N / 1000 by
          have h1 := sum_step wh re _ (R * d) HS.out
          rw [← HSEG.out, hend] at h1
          omega)
        have HNE := Lib.hid (show noNeg xs t N by rw [← hend]; exact HNN.out)
        have hq1 : wh + R * d / 1000 ≤ 2000000000000000000 := by omega
        have hq2 : re + R * d % 1000 ≤ 2000000000000000000 := by omega
        have hq3 : 0 ≤ R * d / 1000 ∧ 0 ≤ R * d % 1000 := by omega
        clear hend
        go_wp2_with fail
        refine (rateAt55 a ca xs (t + N) w B HX.out HV.out (by omega) (by omega)).mono ?_
        rintro e w' ⟨rfl, rfl⟩
        obtain ⟨sb0, sb1⟩ := HV.out.rBd (t + N)
        by_cases hz : rAt xs (t + N) = -1
        · have hzb : (rAt xs (t + N) == -1) = true := beq_iff_eq.2 hz
          have HA := Lib.hid (show allowOf xs burst t N (-1) from .inl ⟨⟨N, by omega, hz⟩, rfl⟩)
          clear hz
          generalize rAt xs (t + N) = R2 at *
          generalize eAt xs (t + N) = E2 at *
          go_wp2_with fail
          go_ret
          exact ⟨-1, HA.out, rfl, rfl⟩
        · have hzb : (rAt xs (t + N) == -1) = false := beq_eq_false_iff_ne.2 hz
          have HA := Lib.hid (show allowOf xs burst t N (burst + sumR xs t N / 1000) from .inr ⟨fun i hi => by
            by_cases hiN : i < N
            · exact HNE.out i hiN
            · obtain rfl : i = N := by omega
              omega, rfl⟩)
          clear hz
          generalize rAt xs (t + N) = R2 at *
          generalize eAt xs (t + N) = E2 at *
          go_wp2_with fail
          go_ret
          exact ⟨_, HA.out, ret_int HF.out, rfl⟩
      · have hte : (t + (n : Int) + d == t + (N : Int)) = false := beq_eq_false_iff_ne.2 (by omega)
        have hq3 : 0 ≤ R * d / 1000 ∧ 0 ≤ R * d % 1000 := by omega
        have hd4 := HDP.out (by omega)
        go_wp2_with fail
        go_round
        case rel => exact ⟨n + d, wh + R * d / 1000, re + R * d % 1000, by omega, by omega, by go_num, rfl, rfl, by rw [HSEG.out]; exact sum_step _ _ _ _ HS.out, by omega, by omega, by omega, by omega, HNN.out⟩
        case measure => simp [intOf]; omega

end Go.Proofs.Ytdfloglicjocbaa
