import Derived.Test.YtdfloglicjocbaaPo
namespace Go.Proofs.Ytdfloglicjocbaa

def fromAt (xs : List (Int × Int)) (i : Nat) : Int := (xs.getD i (0, 0)).1
def byteAt (xs : List (Int × Int)) (i : Nat) : Int := (xs.getD i (0, 0)).2

def rateBad (xs : List (Int × Int)) (i : Nat) : Int :=
  if fromAt xs i < 0 ∨ 86399 < fromAt xs i ∨ byteAt xs i < -1 ∨ 1000000000 < byteAt xs i then 7
  else if (i = 0 ∧ fromAt xs i ≠ 0) ∨ (0 < i ∧ fromAt xs i ≤ fromAt xs (i - 1)) then 10 else 0
def ratesE (xs : List (Int × Int)) : Int :=
  if xs.length = 0 then 21 else if 24 < xs.length then 8 else firstI ((List.range xs.length).map (rateBad xs))

structure Valid (xs : List (Int × Int)) : Prop where
  pos : 0 < xs.length
  le : xs.length ≤ 24
  zero : fromAt xs 0 = 0
  from0 : ∀ i, i < xs.length → 0 ≤ fromAt xs i
  from1 : ∀ i, i < xs.length → fromAt xs i ≤ 86399
  byte0 : ∀ i, i < xs.length → -1 ≤ byteAt xs i
  byte1 : ∀ i, i < xs.length → byteAt xs i ≤ 1000000000
  up : ∀ i, i + 1 < xs.length → fromAt xs i < fromAt xs (i + 1)

theorem firstI_eq_zero {l : List Int} (h : firstI l = 0) : ∀ x ∈ l, x = 0 := by
  induction l with
  | nil => simp
  | cons x l ih =>
    simp only [firstI] at h
    by_cases hx : x = 0
    · rw [if_pos hx] at h
      intro y hy
      rcases List.mem_cons.1 hy with rfl | hy
      · exact hx
      · exact ih h y hy
    · rw [if_neg hx] at h; exact absurd h hx

theorem valid_of {xs : List (Int × Int)} (h : ratesE xs = 0) : Valid xs := by
  unfold ratesE at h
  by_cases h0 : xs.length = 0
  · rw [if_pos h0] at h; omega
  rw [if_neg h0] at h
  by_cases h1 : 24 < xs.length
  · rw [if_pos h1] at h; omega
  rw [if_neg h1] at h
  have hz := firstI_eq_zero h
  have key : ∀ i, i < xs.length → rateBad xs i = 0 := fun i hi => hz _ (List.mem_map.2 ⟨i, List.mem_range.2 hi, rfl⟩)
  have k2 : ∀ i, i < xs.length → ¬ (fromAt xs i < 0 ∨ 86399 < fromAt xs i ∨ byteAt xs i < -1 ∨ 1000000000 < byteAt xs i) ∧ ¬ ((i = 0 ∧ fromAt xs i ≠ 0) ∨ (0 < i ∧ fromAt xs i ≤ fromAt xs (i - 1))) := by
    intro i hi
    have := key i hi
    unfold rateBad at this
    by_cases a : fromAt xs i < 0 ∨ 86399 < fromAt xs i ∨ byteAt xs i < -1 ∨ 1000000000 < byteAt xs i
    · rw [if_pos a] at this; omega
    · rw [if_neg a] at this
      by_cases b : (i = 0 ∧ fromAt xs i ≠ 0) ∨ (0 < i ∧ fromAt xs i ≤ fromAt xs (i - 1))
      · rw [if_pos b] at this; omega
      · exact ⟨a, b⟩
  refine ⟨by omega, by omega, ?_, ?_, ?_, ?_, ?_, ?_⟩
  · have := (k2 0 (by omega)).2; omega
  · intro i hi; have := (k2 i hi).1; omega
  · intro i hi; have := (k2 i hi).1; omega
  · intro i hi; have := (k2 i hi).1; omega
  · intro i hi; have := (k2 i hi).1; omega
  · intro i hi; have := (k2 (i + 1) hi).2; simp at this; omega

/-- the last of the first k rates that has begun by that second. -/
def rIdx (xs : List (Int × Int)) (sec : Int) : Nat → Option Nat
  | 0 => none
  | k + 1 => if fromAt xs k ≤ sec then some k else rIdx xs sec k
def rOf (xs : List (Int × Int)) : Option Nat → Int
  | some i => byteAt xs i
  | none => 0
def secOf (t : Int) : Int := t % 86400000 / 1000
def rAt (xs : List (Int × Int)) (t : Int) : Int := rOf xs (rIdx xs (secOf t) xs.length)
def endOf (xs : List (Int × Int)) (t : Int) (k : Nat) : Int := if k = xs.length then t - t % 86400000 + 86400000 else t - t % 86400000 + fromAt xs k * 1000
def nextOf : Option Nat → Nat
  | some i => i + 1
  | none => 0
def eAt (xs : List (Int × Int)) (t : Int) : Int := endOf xs t (nextOf (rIdx xs (secOf t) xs.length))

theorem rIdx_some {xs : List (Int × Int)} {sec : Int} {k i : Nat} (h : rIdx xs sec k = some i) : i < k ∧ fromAt xs i ≤ sec ∧ ∀ j, i < j → j < k → sec < fromAt xs j := by
  induction k with
  | zero => simp [rIdx] at h
  | succ k ih =>
    simp only [rIdx] at h
    by_cases hc : fromAt xs k ≤ sec
    · rw [if_pos hc] at h
      injection h with h
      subst h
      exact ⟨by omega, hc, fun j h1 h2 => by omega⟩
    · rw [if_neg hc] at h
      obtain ⟨a, b, c⟩ := ih h
      refine ⟨by omega, b, fun j h1 h2 => ?_⟩
      by_cases hj : j = k
      · subst hj; omega
      · exact c j h1 (by omega)
theorem rIdx_eq {xs : List (Int × Int)} {sec : Int} {k i : Nat} (hi : i < k) (h : fromAt xs i ≤ sec) (hj : ∀ j, i < j → j < k → sec < fromAt xs j) : rIdx xs sec k = some i := by
  induction k with
  | zero => omega
  | succ k ih =>
    simp only [rIdx]
    by_cases hk : i = k
    · subst hk; rw [if_pos h]
    · rw [if_neg (by have := hj k (by omega) (by omega); omega)]
      exact ih (by omega) fun j h1 h2 => hj j h1 (by omega)
theorem Valid.mono {xs : List (Int × Int)} (v : Valid xs) (i j : Nat) (h : i ≤ j) (hj : j < xs.length) : fromAt xs i ≤ fromAt xs j := by
  induction j with
  | zero => obtain rfl : i = 0 := by omega
            omega
  | succ j ih =>
    by_cases e : i = j + 1
    · subst e; omega
    · have := ih (by omega) (by omega)
      have := v.up j hj
      omega
theorem Valid.found {xs : List (Int × Int)} (v : Valid xs) (sec : Int) (h : 0 ≤ sec) : ∃ i, rIdx xs sec xs.length = some i := by
  cases e : rIdx xs sec xs.length with
  | some i => exact ⟨i, rfl⟩
  | none =>
    exfalso
    have : ∀ k, 0 < k → rIdx xs sec k ≠ none := by
      intro k
      induction k with
      | zero => intro h; omega
      | succ k ih =>
        intro _ hn
        simp only [rIdx] at hn
        by_cases hc : fromAt xs k ≤ sec
        · rw [if_pos hc] at hn; cases hn
        · rw [if_neg hc] at hn
          by_cases hk : k = 0
          · subst hk; have := v.zero; omega
          · exact ih (by omega) hn
    exact this _ v.pos e
theorem Valid.rBd {xs : List (Int × Int)} (v : Valid xs) (t : Int) : -1 ≤ rAt xs t ∧ rAt xs t ≤ 1000000000 := by
  obtain ⟨i, hi⟩ := v.found (secOf t) (by unfold secOf; omega)
  obtain ⟨h1, _, _⟩ := rIdx_some hi
  unfold rAt
  rw [hi]
  exact ⟨v.byte0 i h1, v.byte1 i h1⟩
theorem Valid.eBd {xs : List (Int × Int)} (v : Valid xs) (t : Int) : t < eAt xs t ∧ eAt xs t ≤ t + 86400000 := by
  obtain ⟨i, hi⟩ := v.found (secOf t) (by unfold secOf; omega)
  obtain ⟨h1, h2, h3⟩ := rIdx_some hi
  unfold eAt
  rw [hi, show nextOf (some i) = i + 1 from rfl]
  unfold endOf
  by_cases e : i + 1 = xs.length
  · rw [if_pos e]; omega
  · rw [if_neg e]
    have := h3 (i + 1) (by omega) (by omega)
    have := v.from1 (i + 1) (by omega)
    unfold secOf at *
    omega
theorem Valid.same {xs : List (Int × Int)} (v : Valid xs) (t u : Int) (h1 : t ≤ u) (h2 : u < eAt xs t) : rAt xs u = rAt xs t := by
  obtain ⟨i, hi⟩ := v.found (secOf t) (by unfold secOf; omega)
  obtain ⟨a1, a2, a3⟩ := rIdx_some hi
  unfold eAt at h2
  rw [hi, show nextOf (some i) = i + 1 from rfl] at h2
  unfold endOf at h2
  unfold rAt
  rw [hi]
  have : rIdx xs (secOf u) xs.length = some i := by
    by_cases e : i + 1 = xs.length
    · rw [if_pos e] at h2
      refine rIdx_eq a1 ?_ fun j h3 h4 => by omega
      unfold secOf at *
      omega
    · rw [if_neg e] at h2
      have f1 := v.from1 (i + 1) (by omega)
      refine rIdx_eq a1 ?_ fun j h3 h4 => ?_
      · unfold secOf at *
        omega
      · have := v.mono (i + 1) j (by omega) h4
        unfold secOf at *
        omega
  rw [this]

/-- the sum of the rates of n milliseconds. -/
def sumR (xs : List (Int × Int)) (t : Int) : Nat → Int
  | 0 => 0
  | n + 1 => sumR xs t n + rAt xs (t + n)
/-- none of the times t .. t + n - 1 is unlimited. -/
def noNeg (xs : List (Int × Int)) (t : Int) (n : Nat) : Prop := ∀ i : Nat, i < n → ¬ rAt xs (t + i) < 0

theorem sumR_const (xs : List (Int × Int)) (t : Int) (n m : Nat) (r : Int) (h : ∀ i : Nat, n ≤ i → i < n + m → rAt xs (t + i) = r) : sumR xs t (n + m) = sumR xs t n + r * m := by
  induction m with
  | zero => simp
  | succ m ih =>
    have h1 := ih fun i a b => h i a (by omega)
    have h2 := h (n + m) (by omega) (by omega)
    show sumR xs t (n + m) + rAt xs (t + ((n + m : Nat) : Int)) = _
    rw [h1, h2]
    have : r * ((m + 1 : Nat) : Int) = r * m + r := by rw [Int.natCast_succ, Int.mul_add, Int.mul_one]
    omega

end Go.Proofs.Ytdfloglicjocbaa
