/-
  Plain law of OrdersMatch: what is carried, the order of chance, the mixed order. No program in sight.
-/
import Derived.Test.YtdfloglicjocbaaVf
set_option linter.unusedVariables false
set_option linter.unusedSimpArgs false
namespace Go.Proofs.Ytdfloglicjocbaa
open Go.Sort

def carB (k : Int) : Bool := k == 4 || k == 5
/-- the places below m that carry. -/
def carr (K : Nat → Int) (m : Nat) : List Nat := (List.range m).filter fun i => carB (K i)
theorem carr_succ (K : Nat → Int) (m : Nat) : carr K (m + 1) = carr K m ++ if carB (K m) then [m] else [] := by
  unfold carr
  rw [List.range_succ, List.filter_append]
  congr 1
  cases h : carB (K m) <;> simp [h]
theorem carr_yes (K : Nat → Int) (m : Nat) (h : carB (K m) = true) : carr K (m + 1) = carr K m ++ [m] := by rw [carr_succ, h]; rfl
theorem carr_no (K : Nat → Int) (m : Nat) (h : carB (K m) = false) : carr K (m + 1) = carr K m := by rw [carr_succ, h]; simp
theorem carr_lt (K : Nat → Int) (m : Nat) : ∀ i ∈ carr K m, i < m := by
  intro i hi
  unfold carr at hi
  exact List.mem_range.1 (List.mem_filter.1 hi).1
theorem carr_len (K : Nat → Int) (m : Nat) : (carr K m).length ≤ m := by
  unfold carr
  have := List.length_filter_le (fun i => carB (K i)) (List.range m)
  simpa using this
theorem carr_sorted (K : Nat → Int) (m : Nat) : (carr K m).Pairwise (· < ·) := by
  unfold carr
  exact List.Pairwise.filter _ List.pairwise_lt_range

/-- exchange. -/
def exL (L : List Nat) (i k : Nat) : List Nat := (L.set i (L.getD k 0)).set k (L.getD i 0)
theorem exL_len (L : List Nat) (i k : Nat) : (exL L i k).length = L.length := by simp [exL]
/-- the order of chance, from i down. -/
def shufL (s : Int) : Nat → List Nat → List Nat
  | 0, L => L
  | i + 1, L => shufL (chanceI s) i (exL L (i + 1) (chanceI s % ((i : Int) + 2)).toNat)
theorem shufL_len (i : Nat) (s : Int) (L : List Nat) : (shufL s i L).length = L.length := by
  induction i generalizing s L with
  | zero => rfl
  | succ i ih => rw [shufL, ih, exL_len]
/-- from both ends: r places from p on. -/
def mixR (L : List Nat) (p : Nat) : Nat → List Nat
  | 0 => []
  | 1 => [L.getD p 0]
  | r + 2 => L.getD p 0 :: L.getD (p + r + 1) 0 :: mixR L (p + 1) r
/-- what the kinds of orders make of the sorted places. -/
def finL (kind seed : Int) (L : List Nat) : List Nat :=
  if kind = 5 then mixR L 0 L.length else if kind = 6 then shufL seed (L.length - 1) L else L
end Go.Proofs.Ytdfloglicjocbaa
