import Derived.Test.YtdfloglicjocbaaBi
namespace Go.Proofs.Ytdfloglicjocbaa
open Go.RowKit
theorem bb_all (a : Option Addr) (ca : Nat) (xs : List (Int × Int)) (burst : Int) (ta : Option Addr) (tc : Nat) (ts : List (Int × Int)) (w : World) (hx : Row2 w w.heap.size a xs) (lx : xs.length ≤ maxLen) (ht : Row2 w w.heap.size ta ts) (ht2 : ts.length ≤ maxLen) :
    Calls Try.prog 7 #[.slice a xs.length ca, .int .i64 burst, .slice ta ts.length tc] w fun e w' => e = .returned (.bool true) ∧ Below w.heap.size w w' := by
  by_cases hE : bucketE xs burst = 0
  · have hE' := hE
    unfold bucketE at hE'
    by_cases hr : ratesE xs = 0
    · rw [if_pos hr] at hE'
      by_cases hb : 1 ≤ burst ∧ burst ≤ 1000000000
      · by_cases hl : 40 < ts.length
        · exact bb_long a ca xs burst ta ts.length tc w hx lx hE (valid_of hr) hb.1 hb.2 hl ht2
        · exact bb_ok a ca xs burst ta tc ts w hx lx hE (valid_of hr) hb.1 hb.2 ht (by omega)
      · rw [if_neg hb] at hE'; omega
    · rw [if_neg hr] at hE'; omega
  · exact bb_no a ca xs burst _ w hx lx hE
end Go.Proofs.Ytdfloglicjocbaa
