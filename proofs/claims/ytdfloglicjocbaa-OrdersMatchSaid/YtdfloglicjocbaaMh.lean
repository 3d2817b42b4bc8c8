import Derived.Test.YtdfloglicjocbaaMg
set_option linter.unusedVariables false
set_option linter.unusedSimpArgs false
namespace Go.Proofs.Ytdfloglicjocbaa
open Go.RowKit

def rngOk (size part : Int) : Prop := 0 ≤ size ∧ size ≤ 1048576 ∧ 1 ≤ part ∧ part ≤ 1048576

set_option maxHeartbeats 400000 in
theorem parts42_bad (size part : Int) (w : World) (h : ¬ rngOk size part) :
    Calls Try.prog 42 #[.int .i64 size, .int .i64 part] w fun e w' => e = .returned (.tuple #[.slice none 0 0, .int .i64 7]) ∧ w = w' := by
  unfold rngOk at h
  by_cases h0 : 0 ≤ size
  · by_cases h1 : size ≤ 1048576
    · by_cases h2 : 1 ≤ part
      · have h3 : 1048576 < part := by omega
        clear h
        go_enter Try.func42, Try.ntmps42
        go_wp2_with fail
        go_ret2
        exact ⟨rfl, rfl⟩
      · have h2' : part < 1 := by omega
        clear h
        go_enter Try.func42, Try.ntmps42
        go_wp2_with fail
        go_ret2
        exact ⟨rfl, rfl⟩
    · have h1' : 1048576 < size := by omega
      clear h
      go_enter Try.func42, Try.ntmps42
      go_wp2_with fail
      go_ret2
      exact ⟨rfl, rfl⟩
  · have h0' : size < 0 := by omega
    clear h
    go_enter Try.func42, Try.ntmps42
    go_wp2_with fail
    go_ret2
    exact ⟨rfl, rfl⟩
theorem quo_bd (size part : Int) (h : rngOk size part) : 0 ≤ (size + part - 1) / part ∧ (size + part - 1) / part ≤ 2097152 := by
  obtain ⟨h0, h1, h2, h3⟩ := h
  refine ⟨Int.ediv_nonneg (by omega) (by omega), ?_⟩
  have := Int.ediv_le_self part (show 0 ≤ size + part - 1 by omega)
  omega
set_option maxHeartbeats 400000 in
theorem parts42_large (size part : Int) (w : World) (h : rngOk size part) (hq : 1000 < (size + part - 1) / part) :
    Calls Try.prog 42 #[.int .i64 size, .int .i64 part] w fun e w' => e = .returned (.tuple #[.slice none 0 0, .int .i64 8]) ∧ w = w' := by
  have hb := quo_bd size part h
  obtain ⟨h0, h1, h2, h3⟩ := h
  go_enter Try.func42, Try.ntmps42
  go_wp2_with fail
  go_ret2
  exact ⟨rfl, rfl⟩
def PartsOk (size part : Int) (w : World) (e : Ending) (w' : World) : Prop :=
  ∃ (n : Nat) (a : Option Addr) (cap : Nat), PartN size part n ∧ n ≤ 1048577 ∧ e = .returned (.tuple #[.slice a (partL size part n).length cap, .int .i64 0]) ∧ PRow w' w'.heap.size a (partL size part n) ∧ Below w.heap.size w w'
set_option maxHeartbeats 400000 in
theorem parts42_ok (size part : Int) (w : World) (h : rngOk size part) (hq : (size + part - 1) / part ≤ 1000) :
    Calls Try.prog 42 #[.int .i64 size, .int .i64 part] w (PartsOk size part w) := by
  have hb := quo_bd size part h
  obtain ⟨h0, h1, h2, h3⟩ := h
  go_enter Try.func42, Try.ntmps42
  go_wp2_with fail
  refine (partsOf64 size part w h0 h1 h2 h3).mono ?_
  rintro e w1 ⟨n, v, hN, hn, rfl, hown, hb1⟩
  obtain ⟨a1, cap1, rfl, hr1⟩ := PRow.of_own hown (partL_len size part n)
  have HN := Lib.hid hN
  have HR := Lib.hid hr1
  clear hN hown hr1
  go_wp2_with fail
  go_ret2
  exact ⟨n, a1, cap1, HN.out, hn, rfl, HR.out, hb1⟩

/-! ### the errors that the law wants -/
def wantS (bad : Bool) (W : Int) : Int := firstI [W, whenI bad 7]
theorem wantS_ne (bad : Bool) (W : Int) (h : W ≠ 0) : wantS bad W = W := by simp [wantS, firstI, h]
theorem wantS_zero (bad : Bool) : wantS bad 0 = whenI bad 7 := by cases bad <;> simp [wantS, firstI, whenI]
open Classical in
noncomputable def badB (size : Int) (p : Int × Int) : Bool := decide (badI size p)
theorem badB_yes (size : Int) (p : Int × Int) (h : badI size p) : badB size p = true := by simp [badB, h]
theorem badB_no (size : Int) (p : Int × Int) (h : ¬ badI size p) : badB size p = false := by simp [badB, h]
noncomputable def wantL (size : Int) (W : Int) (xs : List (Int × Int)) : Int := xs.foldl (fun W p => wantS (badB size p) W) W
theorem wantL_take (size W : Int) (xs : List (Int × Int)) (k : Nat) (h : k < xs.length) : wantL size W (xs.take (k + 1)) = wantS (badB size (xs.getD k (0, 0))) (wantL size W (xs.take k)) := by
  unfold wantL
  rw [List.take_succ_eq_append_getElem h, List.foldl_append]
  simp [List.getElem?_eq_getElem h]
theorem wantL_ne (size W : Int) (xs : List (Int × Int)) (h : W ≠ 0) : wantL size W xs = W := by
  unfold wantL
  induction xs with
  | nil => rfl
  | cons x l ih => rw [List.foldl_cons, wantS_ne _ _ h]; exact ih
theorem wantL_bad (size : Int) (xs : List (Int × Int)) (h : ∃ i, i < xs.length ∧ badI size (xs.getD i (0, 0))) : wantL size 0 xs = 7 := by
  induction xs with
  | nil => obtain ⟨i, hi, _⟩ := h; simp at hi
  | cons x l ih =>
    by_cases hx : badI size x
    · have : wantL size 0 (x :: l) = wantL size 7 l := by
        unfold wantL; rw [List.foldl_cons, wantS_zero, badB_yes _ _ hx]; rfl
      rw [this, wantL_ne _ _ _ (by omega)]
    · have : wantL size 0 (x :: l) = wantL size 0 l := by
        unfold wantL; rw [List.foldl_cons, wantS_zero, badB_no _ _ hx]; rfl
      rw [this]
      obtain ⟨i, hi, hb⟩ := h
      cases i with
      | zero => exact absurd (by simpa using hb) hx
      | succ i => exact ih ⟨i, by simpa using hi, by simpa using hb⟩
theorem wantL_good (size : Int) (xs : List (Int × Int)) (h : ∀ i, i < xs.length → ¬ badI size (xs.getD i (0, 0))) : wantL size 0 xs = 0 := by
  induction xs with
  | nil => rfl
  | cons x l ih =>
    have hx : ¬ badI size x := by simpa using h 0 (by simp)
    have : wantL size 0 (x :: l) = wantL size 0 l := by
      unfold wantL; rw [List.foldl_cons, wantS_zero, badB_no _ _ hx]; rfl
    rw [this]
    exact ih fun i hi => by simpa using h (i + 1) (by simpa using hi)
theorem within_no (n a b : Int) (h : ¬ (a ≤ n ∧ n ≤ b)) : withinB n a b = false := by unfold withinB; simp only [decide_eq_false_iff_not]; exact h
theorem within_yes (n a b : Int) (h : a ≤ n ∧ n ≤ b) : withinB n a b = true := by unfold withinB; simp only [decide_eq_true_eq]; exact h
/-- right intervals are pairs of naturals. -/
theorem natP (size : Nat) (xs : List (Int × Int)) (h : ∀ i, i < xs.length → ¬ badI size (xs.getD i (0, 0))) : ∃ ns : List (Nat × Nat), xs = ns.map castP ∧ ∀ p ∈ ns, p.1 ≤ p.2 ∧ p.2 ≤ size := by
  induction xs with
  | nil => exact ⟨[], rfl, by simp⟩
  | cons x l ih =>
    obtain ⟨ns, rfl, hns⟩ := ih fun i hi => by simpa using h (i + 1) (by simpa using hi)
    have hx : ¬ badI size x := by simpa using h 0 (by simp)
    unfold badI at hx
    obtain ⟨a, b⟩ := x
    simp only at hx
    refine ⟨(a.toNat, b.toNat) :: ns, ?_, ?_⟩
    · rw [List.map_cons]
      congr 1
      simp only [castP]
      rw [Int.toNat_of_nonneg (by omega), Int.toNat_of_nonneg (by omega)]
    · intro p hp
      rcases List.mem_cons.1 hp with rfl | hp
      · simp only; omega
      · exact hns p hp
end Go.Proofs.Ytdfloglicjocbaa
