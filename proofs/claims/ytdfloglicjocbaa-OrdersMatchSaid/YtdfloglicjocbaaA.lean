import Derived.Test.YtdfloglicjocbaaRows
import Derived.WalkKit
import Derived.WalkSpells
import Derived.WalkLawsBesides
import Derived.Deep.QuietTactic
import Derived.BigQuiet
import Derived.Lib.Hide
namespace Go.Proofs.Ytdfloglicjocbaa
open Go.RowKit

def chanceI (s : Int) : Int := (s * 1103515245 + 12345) % 2147483648

set_option maxHeartbeats 400000 in
theorem chance68 (s : Int) (w : World) (h0 : 0 ≤ s) (h1 : s < 2147483648) :
    Calls Try.prog 68 #[.int .i64 s] w fun e w' => e = .returned (.int .i64 (chanceI s)) ∧ w = w' := by
  go_enter Try.func68, Try.ntmps68
  go_wp2
  go_ret
  exact ⟨rfl, rfl⟩

set_option maxHeartbeats 400000 in
theorem chance50 (s : Int) (w : World) (h0 : 0 ≤ s) (h1 : s < 2147483648) :
    Calls Try.prog 50 #[.int .i64 s] w fun e w' => e = .returned (.int .i64 (chanceI s)) ∧ w = w' := by
  go_enter Try.func50, Try.ntmps50
  go_wp2
  go_ret
  exact ⟨rfl, rfl⟩

theorem ret_int {k : IntKind} {a b : Int} (h : a = b) : Ending.returned (.int k a) = .returned (.int k b) := by rw [h]
theorem ret_bool {a b : Bool} (h : a = b) : Ending.returned (.bool a) = .returned (.bool b) := by rw [h]

def withinB (n a b : Int) : Bool := decide (a ≤ n ∧ n ≤ b)

set_option maxHeartbeats 400000 in
theorem within17 (n a b : Int) (w : World) :
    Calls Try.prog 17 #[.int .i64 n, .int .i64 a, .int .i64 b] w fun e w' => e = .returned (.bool (withinB n a b)) ∧ w = w' := by
  go_enter Try.func17, Try.ntmps17
  go_wp2
  all_goals
    go_ret
    exact ⟨ret_bool (by unfold withinB; rw [Bool.eq_iff_iff]; simp; omega), rfl⟩

set_option maxHeartbeats 400000 in
theorem within47 (n a b : Int) (w : World) :
    Calls Try.prog 47 #[.int .i64 n, .int .i64 a, .int .i64 b] w fun e w' => e = .returned (.bool (withinB n a b)) ∧ w = w' := by
  go_enter Try.func47, Try.ntmps47
  go_wp2
  all_goals
    go_ret
    exact ⟨ret_bool (by unfold withinB; rw [Bool.eq_iff_iff]; simp; omega), rfl⟩

def isSeedB (n : Int) : Bool := decide (0 ≤ n ∧ n < 2147483648)
set_option maxHeartbeats 400000 in
theorem isSeed48 (n : Int) (w : World) :
    Calls Try.prog 48 #[.int .i64 n] w fun e w' => e = .returned (.bool (isSeedB n)) ∧ w = w' := by
  go_enter Try.func48, Try.ntmps48
  go_wp2
  all_goals
    go_ret
    exact ⟨ret_bool (by unfold isSeedB; rw [Bool.eq_iff_iff]; simp; omega), rfl⟩

def whenI (b : Bool) (n : Int) : Int := if b then n else 0
set_option maxHeartbeats 400000 in
theorem when16 (b : Bool) (n : Int) (w : World) :
    Calls Try.prog 16 #[.bool b, .int .i64 n] w fun e w' => e = .returned (.int .i64 (whenI b n)) ∧ w = w' := by
  cases b
  all_goals
    go_enter Try.func16, Try.ntmps16
    go_wp2
    go_ret
    exact ⟨rfl, rfl⟩

def boB (f m k j t : Int) : Bool := decide (0 ≤ f ∧ f ≤ 3600000 ∧ f ≤ m ∧ m ≤ 3600000 ∧ 1 ≤ k ∧ k ≤ 100 ∧ 0 ≤ j ∧ j ≤ 100 ∧ 1 ≤ t ∧ t ≤ 100)
def boE (f m k j t : Int) : Int := if boB f m k j t then 0 else 7

set_option maxHeartbeats 400000 in
theorem refBack13 (f m k j t : Int) (w : World) :
    Calls Try.prog 13 #[.agg #[.int .i64 f, .int .i64 m, .int .i64 k, .int .i64 j, .int .i64 t]] w fun e w' => e = .returned (.int .i64 (boE f m k j t)) ∧ Below w.heap.size w w' := by
  go_enter Try.func13, Try.ntmps13
  go_wp2
  all_goals
    go_ret
    exact ⟨ret_int (by unfold boE; first | rw [if_pos (by unfold boB; simp; omega)] | rw [if_neg (by unfold boB; simp; omega)]), (Below.refl _ _).alloc (Nat.le_refl _) _⟩

set_option maxHeartbeats 400000 in
theorem check11 (f m k j t : Int) (w : World) :
    Calls Try.prog 11 #[.agg #[.int .i64 f, .int .i64 m, .int .i64 k, .int .i64 j, .int .i64 t]] w fun e w' => e = .returned (.int .i64 (boE f m k j t)) ∧ Below w.heap.size w w' := by
  go_enter Try.func11, Try.ntmps11
  go_wp2_with (go_at_call 47; refine (within47 _ _ _ _).mono ?_; rintro e w' ⟨rfl, rfl⟩)
  all_goals
    go_ret
    exact ⟨ret_int (by simp only [withinB, decide_eq_true_eq, Bool.not_eq_true', Bool.not_eq_false', decide_eq_false_iff_not] at *; unfold boE; first | rw [if_pos (by unfold boB; simp; omega)] | rw [if_neg (by unfold boB; simp; omega)]), (Below.refl _ _).alloc (Nat.le_refl _) _⟩

end Go.Proofs.Ytdfloglicjocbaa
