import Derived.Test.YtnjmcppljbkhnaaGi
set_option linter.unusedVariables false
set_option linter.unusedSimpArgs false
namespace Go.Proofs.Ytnjmcppljbkhnaa
open Go.RowKit
/-- coefficient c of the polynomial of byte j. -/
def cf (secret noise : ByteArray) (n j c : Nat) : Nat := if c = 0 then at8 secret j else at8 noise (j * (n - 1) + c - 1)
theorem cf_lt (secret noise : ByteArray) (n j c : Nat) : cf secret noise n j c < 256 := by
  unfold cf; split <;> exact at8_lt _ _
/-- the value after m coefficients, from the highest down. -/
def hor (f : Nat → Nat) (x n : Nat) : Nat → Nat
  | 0 => 0
  | m + 1 => tm (hor f x n m) x ^^^ f (n - 1 - m)
theorem hor_lt (f : Nat → Nat) (x n m : Nat) (hf : ∀ i, f i < 256) : hor f x n m < 256 := by
  induction m with
  | zero => show (0 : Nat) < 256; decide
  | succ m ih => exact xor_lt (tm_lt ih) (hf _)
def shV (secret noise : ByteArray) (n j x : Nat) : Nat := hor (cf secret noise n j) x n n
theorem shV_lt (secret noise : ByteArray) (n j x : Nat) : shV secret noise n j x < 256 := hor_lt _ _ _ _ (cf_lt _ _ _ _)
def shD (secret noise : ByteArray) (n x : Nat) : ByteArray := strB secret.size (fun j => shV secret noise n j x)
theorem shD_size (secret noise : ByteArray) (n x : Nat) : (shD secret noise n x).size = secret.size := strB_size _ _
theorem pE_hor (f : Nat → Nat) (x n : Nat) (hf : ∀ i, f i < 256) (hx : x < 256) : ∀ m, m ≤ n → pE ((List.range' (n - m) m).map f) x = hor f x n m := by
  intro m
  induction m with
  | zero => intro _; rfl
  | succ m ih =>
    intro hm
    have h := ih (by omega)
    rw [List.range'_succ, List.map_cons, show n - (m + 1) + 1 = n - m by omega]
    show f (n - (m + 1)) ^^^ tm x (pE ((List.range' (n - m) m).map f) x) = tm (hor f x n m) x ^^^ f (n - 1 - m)
    rw [h, tm_comm x _ hx (hor_lt f x n m hf), show n - (m + 1) = n - 1 - m by omega, Nat.xor_comm]
def coL (f : Nat → Nat) (n : Nat) : List Nat := (List.range' 0 n).map f
theorem pE_coL (f : Nat → Nat) (x n : Nat) (hf : ∀ i, f i < 256) (hx : x < 256) : pE (coL f n) x = hor f x n n := by
  have h := pE_hor f x n hf hx n (Nat.le_refl _)
  rw [Nat.sub_self] at h
  exact h
theorem coL_bytes (f : Nat → Nat) (n : Nat) (hf : ∀ i, f i < 256) : Bytes (coL f n) := by
  intro c hc
  simp only [coL, List.mem_map] at hc
  obtain ⟨i, _, rfl⟩ := hc
  exact hf i
theorem coL_zero (f : Nat → Nat) (n : Nat) (h0 : 0 < n) : pE (coL f n) 0 = f 0 := by
  obtain ⟨m, rfl⟩ : ∃ m, n = m + 1 := ⟨n - 1, by omega⟩
  unfold coL
  rw [List.range'_succ, List.map_cons]
  show f 0 ^^^ tm 0 _ = f 0
  rw [zero_tm, Nat.xor_zero]
/-- as the document reckons it: powers. -/
def rpw (x : Nat) : Nat → Nat
  | 0 => 1
  | m + 1 => tm (rpw x m) x
def rvl (f : Nat → Nat) (x : Nat) : Nat → Nat
  | 0 => f 0
  | m + 1 => rvl f x m ^^^ tm (rpw x (m + 1)) (f (m + 1))
theorem rpw_lt (x m : Nat) : rpw x m < 256 := by
  induction m with
  | zero => show (1 : Nat) < 256; decide
  | succ m ih => exact tm_lt ih
theorem rvl_lt (f : Nat → Nat) (x m : Nat) (hf : ∀ i, f i < 256) : rvl f x m < 256 := by
  induction m with
  | zero => exact hf 0
  | succ m ih => exact xor_lt ih (tm_lt (rpw_lt x (m + 1)))
theorem rvl_hor (f : Nat → Nat) (x n : Nat) (hf : ∀ i, f i < 256) (hx : x < 256) : ∀ m, m + 1 ≤ n → rvl f x m ^^^ tm (rpw x m) (tm (hor f x n (n - 1 - m)) x) = hor f x n n := by
  intro m
  induction m with
  | zero =>
    intro h
    obtain ⟨k, rfl⟩ : ∃ k, n = k + 1 := ⟨n - 1, by omega⟩
    show f 0 ^^^ tm 1 (tm (hor f x (k + 1) k) x) = tm (hor f x (k + 1) k) x ^^^ f (k + 1 - 1 - k)
    rw [one_tm _ (tm_lt (hor_lt f x _ _ hf)), show k + 1 - 1 - k = 0 by omega, Nat.xor_comm]
  | succ m ih =>
    intro h
    rw [← ih (by omega)]
    obtain ⟨q, hq⟩ : ∃ q, n - 1 - m = q + 1 := ⟨n - 1 - m - 1, by omega⟩
    rw [hq, show n - 1 - (m + 1) = q by omega]
    show (rvl f x m ^^^ tm (tm (rpw x m) x) (f (m + 1))) ^^^ tm (tm (rpw x m) x) (tm (hor f x n q) x) = rvl f x m ^^^ tm (rpw x m) (tm (tm (hor f x n q) x ^^^ f (n - 1 - q)) x)
    have hH := tm_lt (b := x) (hor_lt f x n q hf)
    have hp := rpw_lt x m
    rw [show n - 1 - q = m + 1 by omega, tm_xor_left, tm_xor_right, tm_assoc _ _ _ hp hx (hf _), tm_assoc _ _ _ hp hx hH, tm_comm x _ hx (hf _), tm_comm x _ hx hH]
    rw [Nat.xor_assoc, Nat.xor_comm (tm (rpw x m) (tm (f (m + 1)) x))]
theorem rvl_end (f : Nat → Nat) (x n : Nat) (hf : ∀ i, f i < 256) (hx : x < 256) (h0 : 0 < n) : rvl f x (n - 1) = hor f x n n := by
  have h := rvl_hor f x n hf hx (n - 1) (by omega)
  rw [show n - 1 - (n - 1) = 0 by omega] at h
  have e : hor f x n 0 = 0 := rfl
  rw [e, zero_tm, tm_zero, Nat.xor_zero] at h
  exact h
theorem shares_back (secret noise : ByteArray) (n : Nat) (h0 : 0 < n) (X : Nat → Int) (D : Nat → ByteArray) (len : Nat) (hr : ∀ i, i < len → 1 ≤ X i ∧ X i ≤ 255) (hd : ∀ i k, i < len → k < len → X i = X k → i = k)
    (hD : ∀ i, i < len → D i = shD secret noise n (X i).toNat) (hl : n ≤ len) (hs0 : 0 < secret.size) (hs1 : secret.size ≤ 1024) :
    scanE X D 0 len = 0 ∧ Good (xN X) D n len (D 0).size ∧ vS (xN X) D n 0 (D 0).size = secret := by
  have hsz : ∀ i, i < len → (D i).size = secret.size := fun i hi => by rw [hD i hi, shD_size]
  have hD0 : (D 0).size = secret.size := hsz 0 (by omega)
  have hxv : ∀ i, i < len → xN X i = (X i).toNat := fun i hi => by have := hr i hi; unfold xN; omega
  have hval : ∀ i j, i < len → j < secret.size → at8 (D i) j = pE (coL (cf secret noise n j) n) (xN X i) := fun i j hi hj => by
    rw [hD i hi, hxv i hi, pE_coL _ _ _ (cf_lt _ _ _ _) (by have := hr i hi; omega)]
    exact at8_strB secret.size _ j hj (shV_lt _ _ _ _ _)
  have hlag : ∀ j x, j < secret.size → x < 256 → vB (xN X) D n x n j = pE (coL (cf secret noise n j) n) x := fun j x hj hx =>
    lagrange (xN X) (fun t => at8 (D t) j) n (coL (cf secret noise n j) n) (xN_lt X) (fun i => at8_lt _ _)
      (fun i k hi hk e => hd i k (by omega) (by omega) (by
        rw [hxv i (by omega), hxv k (by omega)] at e
        have := hr i (by omega)
        have := hr k (by omega)
        omega))
      (by simp [coL]) (coL_bytes _ _ (cf_lt _ _ _ _)) (fun i hi => hval i j (by omega) hj) x hx
  refine ⟨?_, ?_, ?_⟩
  · have key : ∀ k, k ≤ len → scanE X D 0 k = 0 := by
      intro k
      induction k with
      | zero => intro _; rfl
      | succ k ih =>
        intro hk
        refine scanE_next X D k (ih (by omega)) ?_
        have h1 := hr k (by omega)
        have h2 : twiceB X k = false := by
          unfold twiceB
          rw [List.any_eq_false]
          intro j hj
          have hj' : j < k := by simpa using hj
          have : X j ≠ X k := fun e => by have := hd j k (by omega) (by omega) e; omega
          simpa using this
        have h3 := hsz k (by omega)
        unfold eltE
        rw [if_neg (by omega), if_neg (by rw [h2]; decide), if_neg (by omega)]
    exact key len (Nat.le_refl _)
  · intro j hj i hi1 hi2
    rw [hD0] at hj
    rw [hlag j _ hj (xN_lt X i), hval i j hi2 hj]
  · unfold vS
    rw [hD0]
    refine (strB_eq secret.size _ secret rfl (fun j => vB_lt _ _ _ _ _ _ (xN_lt X) (by decide))).2 (fun j hj => ?_)
    rw [hlag j 0 hj (by decide), coL_zero _ _ h0]
    rfl
end Go.Proofs.Ytnjmcppljbkhnaa
