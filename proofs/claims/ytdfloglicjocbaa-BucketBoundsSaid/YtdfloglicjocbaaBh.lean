import Derived.Test.YtdfloglicjocbaaBa
namespace Go.Proofs.Ytdfloglicjocbaa

def sumTo (S : List Int) (i : Nat) : Nat → Int
  | 0 => 0
  | n + 1 => sumTo S i n + S.getD (i + n) 0
theorem sumR_add (xs : List (Int × Int)) (t : Int) (n m : Nat) : sumR xs t (n + m) = sumR xs t n + sumR xs (t + n) m := by
  induction m with
  | zero => simp [sumR]
  | succ m ih =>
    show sumR xs t (n + m) + rAt xs (t + ((n + m : Nat) : Int)) = _
    rw [ih]
    simp only [sumR]
    rw [show t + ((n + m : Nat) : Int) = t + n + m from by omega]
    omega
theorem passF_sum (xs : List (Int × Int)) (M s l : Int) (n : Nat) (h : noNeg xs s n) : passF xs M s l n ≤ l + sumR xs s n := by
  induction n with
  | zero => simp [passF, sumR]
  | succ n ih =>
    have h1 := ih fun i hi => h i (by omega)
    have h2 := h n (by omega)
    simp only [passF, sumR]
    rw [if_neg h2]
    omega
theorem sumTo_snoc (S : List Int) (y : Int) (i n : Nat) (h : i + n ≤ S.length) : sumTo (S ++ [y]) i n = sumTo S i n := by
  induction n with
  | zero => rfl
  | succ n ih =>
    simp only [sumTo]
    rw [ih (by omega)]
    simp [List.getElem?_append_left (show i + n < S.length by omega)]
theorem getD_snoc (S : List Int) (y : Int) (i : Nat) (h : i < S.length) : (S ++ [y]).getD i 0 = S.getD i 0 := by
  simp [List.getElem?_append_left h]
theorem getD_last (S : List Int) (y : Int) : (S ++ [y]).getD S.length 0 = y := by simp
theorem sumTo_bd (S : List Int) (b : Int) (hb : ∀ i, i < S.length → 0 ≤ S.getD i 0 ∧ S.getD i 0 ≤ b) (i n : Nat) (h : i + n ≤ S.length) : 0 ≤ sumTo S i n ∧ sumTo S i n ≤ b * n := by
  induction n with
  | zero => simp [sumTo]
  | succ n ih =>
    have h1 := ih (by omega)
    have h2 := hb (i + n) (by omega)
    simp only [sumTo]
    have : b * ((n + 1 : Nat) : Int) = b * n + b := by rw [Int.natCast_succ, Int.mul_add, Int.mul_one]
    omega

/-- what the grants keep. -/
structure Inv (xs : List (Int × Int)) (burst : Int) (T S : List Int) (s lb : Int) : Prop where
  len : T.length = S.length
  t0 : ∀ i, i < T.length → 0 ≤ T.getD i 0
  t1 : ∀ i, i < T.length → T.getD i 0 ≤ s
  sz : ∀ i, i < S.length → 0 ≤ S.getD i 0 ∧ S.getD i 0 ≤ burst
  up : ∀ i k, i ≤ k → k < T.length → T.getD i 0 ≤ T.getD k 0
  now : ∀ i, i < T.length → noNeg xs (T.getD i 0) ((s - T.getD i 0).toNat + 1) → lb + 1000 * sumTo S i (T.length - i) ≤ burst * 1000 + sumR xs (T.getD i 0) (s - T.getD i 0).toNat
  old : ∀ i k, i ≤ k → k < T.length → noNeg xs (T.getD i 0) ((T.getD k 0 - T.getD i 0).toNat + 1) → 1000 * sumTo S i (k + 1 - i) ≤ burst * 1000 + sumR xs (T.getD i 0) (T.getD k 0 - T.getD i 0).toNat

theorem Inv.nil (xs : List (Int × Int)) (burst s lb : Int) : Inv xs burst [] [] s lb :=
  ⟨rfl, by simp, by simp, by simp, by simp, by simp, by simp⟩

theorem Inv.step {xs : List (Int × Int)} {burst : Int} {T S : List Int} {s lb y : Int} {n : Nat} (h : Inv xs burst T S s lb) (hs : 0 ≤ s) (hl : lb ≤ burst * 1000) (hy0 : 0 ≤ y) (hy1 : y ≤ burst)
    (hge : y * 1000 ≤ holdF xs (burst * 1000) s lb n) : Inv xs burst (T ++ [s + n]) (S ++ [y]) (s + n) (leftF xs (burst * 1000) s lb (y * 1000) n) := by
  have hle := holdF_le (xs := xs) (s := s) hl n
  have hlen := h.len
  have hnow : ∀ i, i < (T ++ [s + (n : Int)]).length → noNeg xs ((T ++ [s + (n : Int)]).getD i 0) ((s + n - (T ++ [s + (n : Int)]).getD i 0).toNat + 1) →
      leftF xs (burst * 1000) s lb (y * 1000) n + 1000 * sumTo (S ++ [y]) i ((T ++ [s + (n : Int)]).length - i) ≤ burst * 1000 + sumR xs ((T ++ [s + (n : Int)]).getD i 0) (s + n - (T ++ [s + (n : Int)]).getD i 0).toNat ∧ 0 ≤ leftF xs (burst * 1000) s lb (y * 1000) n := by
    intro i hi hn
    have hi' : i < T.length + 1 := by simpa using hi
    have hlf : leftF xs (burst * 1000) s lb (y * 1000) n = if rAt xs (s + n) = -1 then burst * 1000 else holdF xs (burst * 1000) s lb n - y * 1000 := rfl
    by_cases e : i = T.length
    · subst e
      rw [getD_last] at hn ⊢
      have h0 := hn 0 (by omega)
      rw [show s + (n : Int) + ((0 : Nat) : Int) = s + n from by omega] at h0
      rw [hlf, if_neg (by omega)]
      have e1 : sumTo (S ++ [y]) T.length ((T ++ [s + (n : Int)]).length - T.length) = y := by
        simp [sumTo, hlen]
      rw [e1, show (s + (n : Int) - (s + n)).toNat = 0 from by omega]
      simp only [sumR]
      omega
    · have hiT : i < T.length := by omega
      rw [getD_snoc _ _ _ hiT] at hn ⊢
      have g0 := h.t0 i hiT
      have g1 := h.t1 i hiT
      have hw := h.now i hiT
      generalize T.getD i 0 = t at *
      obtain ⟨d, hd⟩ : ∃ d : Nat, s = t + d := ⟨(s - t).toNat, by omega⟩
      have e2 : (s + (n : Int) - t).toNat = d + n := by omega
      have e3 : (s - t).toNat = d := by omega
      rw [e2] at hn ⊢
      rw [e3] at hw
      have hn1 := hn (d + n) (by omega)
      rw [show t + ((d + n : Nat) : Int) = s + n from by omega] at hn1
      have hw1 := hw fun j hj => hn j (by omega)
      have hps := passF_sum xs (burst * 1000) s lb n fun j hj => by
        have := hn (d + j) (by omega)
        rwa [show t + ((d + j : Nat) : Int) = s + j from by omega] at this
      have hhold : holdF xs (burst * 1000) s lb n = passF xs (burst * 1000) s lb n := by unfold holdF; rw [if_neg hn1]
      rw [hlf, if_neg (by omega), sumR_add, ← hd]
      have e4 : sumTo (S ++ [y]) i ((T ++ [s + (n : Int)]).length - i) = sumTo S i (T.length - i) + y := by
        rw [show (T ++ [s + (n : Int)]).length - i = (T.length - i) + 1 from by simp; omega]
        simp only [sumTo]
        rw [sumTo_snoc _ _ _ _ (by omega), show i + (T.length - i) = S.length from by omega, getD_last]
      rw [e4]
      omega
  refine ⟨by simp [hlen], ?_, ?_, ?_, ?_, fun i hi hn => (hnow i hi hn).1, ?_⟩
  · intro i hi
    have hi' : i < T.length + 1 := by simpa using hi
    by_cases e : i = T.length
    · subst e; rw [getD_last]; omega
    · rw [getD_snoc _ _ _ (by omega)]; exact h.t0 i (by omega)
  · intro i hi
    have hi' : i < T.length + 1 := by simpa using hi
    by_cases e : i = T.length
    · subst e; rw [getD_last]; omega
    · rw [getD_snoc _ _ _ (by omega)]
      have := h.t1 i (by omega)
      omega
  · intro i hi
    have hi' : i < S.length + 1 := by simpa using hi
    by_cases e : i = S.length
    · subst e; rw [getD_last]; exact ⟨hy0, hy1⟩
    · rw [getD_snoc _ _ _ (by omega)]; exact h.sz i (by omega)
  · intro i k hik hk
    have hk' : k < T.length + 1 := by simpa using hk
    by_cases e : k = T.length
    · subst e
      rw [getD_last]
      by_cases e' : i = T.length
      · subst e'; rw [getD_last]; omega
      · rw [getD_snoc _ _ _ (by omega)]
        have := h.t1 i (by omega)
        omega
    · rw [getD_snoc _ _ _ (by omega), getD_snoc _ _ _ (by omega)]; exact h.up i k hik (by omega)
  · intro i k hik hk hn
    have hk' : k < T.length + 1 := by simpa using hk
    by_cases e : k = T.length
    · subst e
      rw [getD_last] at hn ⊢
      have h1 := hnow i (by simp; omega) hn
      rw [show (T ++ [s + (n : Int)]).length - i = T.length + 1 - i from by simp] at h1
      omega
    · rw [getD_snoc _ _ _ (by omega), getD_snoc _ _ _ (by omega)] at hn ⊢
      rw [sumTo_snoc _ _ _ _ (by omega)]
      exact h.old i k hik (by omega) hn

end Go.Proofs.Ytdfloglicjocbaa
