import Derived.Test.YtdfloglicjocbaaRf
namespace Go.Proofs.Ytdfloglicjocbaa

/-- what is held n milliseconds behind s, were no time unlimited just then. -/
def passF (xs : List (Int × Int)) (M s l : Int) : Nat → Int
  | 0 => l
  | n + 1 => if rAt xs (s + n) < 0 then M else min M (passF xs M s l n + rAt xs (s + n))
/-- what is held n milliseconds behind s. -/
def holdF (xs : List (Int × Int)) (M s l : Int) (n : Nat) : Int := if rAt xs (s + n) < 0 then M else passF xs M s l n

section
variable {xs : List (Int × Int)} {M s l : Int}
theorem passF_le (hl : l ≤ M) (n : Nat) : passF xs M s l n ≤ M := by
  cases n with
  | zero => exact hl
  | succ n => simp only [passF]; split <;> omega
theorem passF_ge (hM : 0 ≤ M) (hl : 0 ≤ l) (n : Nat) : 0 ≤ passF xs M s l n := by
  induction n with
  | zero => exact hl
  | succ n ih => simp only [passF]; split <;> omega
theorem holdF_le (hl : l ≤ M) (n : Nat) : holdF xs M s l n ≤ M := by
  have := passF_le (xs := xs) (s := s) hl n
  unfold holdF; split <;> omega
theorem holdF_ge (hM : 0 ≤ M) (hl : 0 ≤ l) (n : Nat) : 0 ≤ holdF xs M s l n := by
  have := passF_ge (xs := xs) (s := s) hM hl n
  unfold holdF; split <;> omega
theorem passF_seg (hl : l ≤ M) (n d : Nat) (r : Int) (hr : 0 ≤ r) (h : ∀ i : Nat, n ≤ i → i < n + d → rAt xs (s + i) = r) : passF xs M s l (n + d) = min M (passF xs M s l n + r * d) := by
  induction d with
  | zero => have := passF_le (xs := xs) (s := s) hl n; simp; omega
  | succ d ih =>
    have h1 := ih fun i a b => h i a (by omega)
    have h2 := h (n + d) (by omega) (by omega)
    show passF xs M s l (n + d + 1) = _
    simp only [passF]
    rw [h2, if_neg (by omega), h1]
    have : r * ((d + 1 : Nat) : Int) = r * d + r := by rw [Int.natCast_succ, Int.mul_add, Int.mul_one]
    omega
theorem passF_neg (n : Nat) (h : rAt xs (s + n) < 0) : passF xs M s l (n + 1) = M := by simp only [passF]; rw [if_pos h]
theorem passF_full (n d : Nat) (hd : 0 < d) (h : ∀ i : Nat, n ≤ i → i < n + d → rAt xs (s + i) = -1) : passF xs M s l (n + d) = M := by
  obtain ⟨e, rfl⟩ : ∃ e, d = e + 1 := ⟨d - 1, by omega⟩
  exact passF_neg (n + e) (by rw [h (n + e) (by omega) (by omega)]; decide)

def neverB (xs : List (Int × Int)) : Bool := (List.range xs.length).all fun i => byteAt xs i == 0
theorem neverB_zero (h : neverB xs = true) (t : Int) : rAt xs t = 0 := by
  unfold rAt
  cases e : rIdx xs (secOf t) xs.length with
  | none => rfl
  | some i =>
    have := List.all_eq_true.1 h i (List.mem_range.2 (rIdx_some e).1)
    simpa [rOf] using this
theorem passF_never (hl : l ≤ M) (h : neverB xs = true) (n : Nat) : passF xs M s l n = l := by
  have := passF_seg (xs := xs) (M := M) (s := s) (l := l) hl 0 n 0 (by omega) fun i _ _ => neverB_zero h _
  simp only [Nat.zero_add, Int.zero_mul, Int.add_zero] at this
  rw [this]
  simp only [passF]
  omega
theorem holdF_never (hl : l ≤ M) (h : neverB xs = true) (n : Nat) : holdF xs M s l n = l := by
  unfold holdF
  rw [neverB_zero h, if_neg (by decide), passF_never hl h]

/-- inside of a stretch with one rate. -/
theorem holdF_seg (v : Valid xs) (hl : l ≤ M) (n d : Nat) (hr : 0 ≤ rAt xs (s + n)) (hd : s + n + d < eAt xs (s + n)) : holdF xs M s l (n + d) = min M (holdF xs M s l n + rAt xs (s + n) * d) := by
  have h1 : ∀ i : Nat, n ≤ i → i < n + d + 1 → rAt xs (s + i) = rAt xs (s + n) := fun i a b => v.same (s + n) (s + i) (by omega) (by omega)
  have h2 := passF_seg (M := M) (s := s) (l := l) hl n d (rAt xs (s + n)) hr fun i a b => h1 i a (by omega)
  have h3 := h1 (n + d) (by omega) (by omega)
  unfold holdF
  rw [h3, if_neg (by omega), if_neg (by omega), h2]
/-- up to the end of a stretch with one rate. -/
theorem passF_end (v : Valid xs) (hl : l ≤ M) (n d : Nat) (hr : 0 ≤ rAt xs (s + n)) (hd : s + n + d ≤ eAt xs (s + n)) : passF xs M s l (n + d) = min M (holdF xs M s l n + rAt xs (s + n) * d) := by
  have h2 := passF_seg (M := M) (s := s) (l := l) hl n d (rAt xs (s + n)) hr fun i a b => v.same (s + n) (s + i) (by omega) (by omega)
  unfold holdF
  rw [if_neg (by omega), h2]
end

/-- what Take does. -/
def takeAt (xs : List (Int × Int)) (M s l need : Int) (k0 n : Nat) : Prop := k0 ≤ n ∧ s + n ≤ 1099511627776 ∧ need ≤ holdF xs M s l n ∧ ∀ i, k0 ≤ i → i < n → holdF xs M s l i < need
def takeNo (xs : List (Int × Int)) (M s l need : Int) (k0 : Nat) : Prop := ∀ i : Nat, k0 ≤ i → s + i ≤ 1099511627776 → holdF xs M s l i < need
def leftF (xs : List (Int × Int)) (M s l need : Int) (n : Nat) : Int := if rAt xs (s + n) = -1 then M else holdF xs M s l n - need

end Go.Proofs.Ytdfloglicjocbaa
