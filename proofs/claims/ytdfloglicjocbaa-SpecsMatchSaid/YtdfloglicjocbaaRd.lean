import Derived.Test.YtdfloglicjocbaaRa
import Derived.IntWalk
namespace Go.Proofs.Ytdfloglicjocbaa
open Go.RowKit

theorem ret_pair {k l : IntKind} {a b c d : Int} (h : a = b) (h' : c = d) : Ending.returned (.tuple #[.int k a, .int l c]) = .returned (.tuple #[.int k b, .int l d]) := by rw [h, h']

set_option maxHeartbeats 1000000 in
set_option maxRecDepth 100000 in
theorem rateAt55 (a : Option Addr) (ca : Nat) (xs : List (Int × Int)) (t : Int) (w : World) (B : Nat) (hx : Row2 w B a xs) (v : Valid xs) (h0 : 0 ≤ t) (h1 : t ≤ 1099611627776) :
    Calls Try.prog 55 #[.slice a xs.length ca, .int .i64 t] w fun e w' => e = .returned (.tuple #[.int .i64 (rAt xs t), .int .i64 (eAt xs t)]) ∧ w = w' := by
  have lx := v.le
  have lp := v.pos
  have HX := Lib.hid hx
  have HV := Lib.hid v
  clear hx v
  go_enter Try.func55, Try.ntmps55
  go_wp2
  go_loop [5, 8] (fun ev iv => ∃ n : Nat, n < xs.length ∧ iv = .int .i64 n ∧ ev = .int .i64 (endOf xs t (n + 1)) ∧ rIdx xs (secOf t) xs.length = rIdx xs (secOf t) (n + 1)) (fun _ i => (intOf i).toNat)
  case atStart =>
    refine ⟨xs.length - 1, by omega, ?_, ?_, ?_⟩
    · go_num
    · rw [show xs.length - 1 + 1 = xs.length from by omega]; simp [endOf]
    · rw [show xs.length - 1 + 1 = xs.length from by omega]
  case round =>
    obtain ⟨n, hn, rfl, rfl, hr⟩ := hrel
    obtain ⟨bx, ox, rfl, hb, c0, c1⟩ := HX.out n hn
    change w.cell? _ = some (.int .i64 (fromAt xs n)) at c0
    change w.cell? _ = some (.int .i64 (byteAt xs n)) at c1
    have hr1 : rIdx xs (secOf t) (n + 1) = if fromAt xs n ≤ secOf t then some n else rIdx xs (secOf t) n := rfl
    have hf0 := HV.out.from0 n hn
    have hf1 := HV.out.from1 n hn
    by_cases hF : fromAt xs n ≤ secOf t
    · have hi : rIdx xs (secOf t) xs.length = some n := by rw [hr, hr1, if_pos hF]
      have e1 : rAt xs t = byteAt xs n := by unfold rAt; rw [hi]; rfl
      have e2 : eAt xs t = endOf xs t (n + 1) := by unfold eAt; rw [hi]; rfl
      have E1 := Lib.hid e1
      have E2 := Lib.hid e2
      clear hr hr1 hi e1 e2
      change fromAt xs n ≤ t % 86400000 / 1000 at hF
      generalize endOf xs t (n + 1) = E at *
      generalize fromAt xs n = F at *
      generalize byteAt xs n = Y at *
      go_wp2
      go_ret2
      exact ⟨ret_pair E1.out.symm E2.out.symm, rfl⟩
    · have hn0 : n ≠ 0 := by
        rintro rfl
        have := HV.out.zero
        unfold secOf at hF
        omega
      obtain ⟨m, rfl⟩ : ∃ m, n = m + 1 := ⟨n - 1, by omega⟩
      have HR := Lib.hid (show rIdx xs (secOf t) xs.length = rIdx xs (secOf t) (m + 1) by rw [hr, hr1, if_neg hF])
      have HE := Lib.hid (show endOf xs t (m + 1) = t - t % 86400000 + fromAt xs (m + 1) * 1000 by unfold endOf; rw [if_neg (by omega)])
      clear hr hr1 hn0
      change ¬ fromAt xs (m + 1) ≤ t % 86400000 / 1000 at hF
      generalize endOf xs t (m + 1 + 1) = E at *
      generalize fromAt xs (m + 1) = F at *
      generalize byteAt xs (m + 1) = Y at *
      go_wp2
      go_round
      case rel => exact ⟨m, by omega, by go_num, by rw [HE.out], HR.out⟩
      case measure => simp [intOf]

set_option maxHeartbeats 1000000 in
set_option maxRecDepth 100000 in
theorem refRateAt53 (a : Option Addr) (ca : Nat) (xs : List (Int × Int)) (t : Int) (w : World) (B : Nat) (hB : B ≤ w.heap.size) (hx : Row2 w B a xs) (lx : xs.length ≤ 24) (h0 : 0 ≤ t) (h1 : t ≤ 1099611627776) :
    Calls Try.prog 53 #[.slice a xs.length ca, .int .i64 t] w fun e w' => e = .returned (.int .i64 (rAt xs t)) ∧ Below w.heap.size w w' := by
  have HX := Lib.hid hx
  clear hx
  go_enter Try.func53, Try.ntmps53
  go_wp2
  go_loopw [6, 14] (fun rv iv wr => ∃ n : Nat, n ≤ xs.length ∧ iv = .int .i64 n ∧ rv = .int .i64 (rOf xs (rIdx xs (secOf t) n)) ∧ Below w.heap.size w wr) (fun _ i _ => xs.length - (intOf i).toNat)
  case atStart => exact ⟨0, by omega, rfl, rfl, Below.refl _ _⟩
  case round =>
    obtain ⟨n, hn, rfl, rfl, hbel⟩ := hrel
    by_cases hlt : n < xs.length
    · obtain ⟨bx, ox, rfl, hb, c0, c1⟩ := (HX.out.below (hbel.mono hB)) n hlt
      change wr.cell? _ = some (.int .i64 (fromAt xs n)) at c0
      change wr.cell? _ = some (.int .i64 (byteAt xs n)) at c1
      have hsz := hbel.size
      have HBel := Lib.hid hbel
      have hr1 : rOf xs (rIdx xs (secOf t) (n + 1)) = if fromAt xs n ≤ secOf t then byteAt xs n else rOf xs (rIdx xs (secOf t) n) := by
        simp only [rIdx]; split <;> rfl
      clear hbel
      by_cases hF : fromAt xs n ≤ secOf t
      · have HR := Lib.hid (hr1.trans (if_pos hF))
        clear hr1
        change fromAt xs n ≤ t % 86400000 / 1000 at hF
        generalize rOf xs (rIdx xs (secOf t) n) = R at *
        generalize fromAt xs n = F at *
        generalize byteAt xs n = Y at *
        go_wp2
        go_roundw
        case rel => exact ⟨n + 1, by omega, by go_num, by rw [HR.out], HBel.out.alloc hsz _⟩
        case measure => simp [intOf]; omega
      · have HR := Lib.hid (hr1.trans (if_neg hF))
        clear hr1
        change ¬ fromAt xs n ≤ t % 86400000 / 1000 at hF
        generalize rOf xs (rIdx xs (secOf t) n) = R at *
        generalize fromAt xs n = F at *
        generalize byteAt xs n = Y at *
        go_wp2
        go_roundw
        case rel => exact ⟨n + 1, by omega, by go_num, by rw [HR.out], HBel.out.alloc hsz _⟩
        case measure => simp [intOf]; omega
    · obtain rfl : n = xs.length := by omega
      have hR : rOf xs (rIdx xs (secOf t) xs.length) = rAt xs t := rfl
      rw [hR]
      clear hR
      go_wp2
      go_ret
      exact ⟨rfl, hbel⟩


/-- what a window of N milliseconds allows. -/
def allowOf (xs : List (Int × Int)) (burst t : Int) (N : Nat) (r : Int) : Prop :=
  ((∃ i : Nat, i ≤ N ∧ rAt xs (t + i) = -1) ∧ r = -1) ∨ (noNeg xs t (N + 1) ∧ r = burst + sumR xs t N / 1000)

theorem noNeg_of (xs : List (Int × Int)) (t : Int) (n m : Nat) (v : Valid xs) (h : noNeg xs t n) (h1 : ¬ rAt xs (t + n) = -1) (h2 : t + m ≤ eAt xs (t + n)) : noNeg xs t m := by
  intro i hi
  by_cases hin : i < n
  · exact h i hin
  · have := v.same (t + n) (t + i) (by omega) (by omega)
    have := v.rBd (t + n)
    omega

def ARel (xs : List (Int × Int)) (t : Int) (N : Nat) (wv rv tv : Value) : Prop :=
  ∃ (n : Nat) (wh re : Int), n ≤ N ∧ (n < N ∨ n = 0) ∧ tv = .int .i64 (t + n) ∧ wv = .int .i64 wh ∧ rv = .int .i64 re ∧ wh * 1000 + re = sumR xs t n ∧ 0 ≤ wh ∧ wh ≤ 1000000 * n ∧ 0 ≤ re ∧ re ≤ 1000 * n ∧ noNeg xs t n

theorem seg (xs : List (Int × Int)) (t : Int) (n d : Nat) (v : Valid xs) (h : t + n + d ≤ eAt xs (t + n)) : sumR xs t (n + d) = sumR xs t n + rAt xs (t + n) * d :=
  sumR_const xs t n d _ fun i h1 h2 => v.same (t + n) (t + i) (by omega) (by omega)

end Go.Proofs.Ytdfloglicjocbaa
