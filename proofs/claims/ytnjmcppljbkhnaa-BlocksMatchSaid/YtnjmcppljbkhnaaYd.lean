import Derived.Test.YtnjmcppljbkhnaaYc
set_option linter.unusedVariables false
set_option linter.unusedSimpArgs false
namespace Go.Proofs.Ytnjmcppljbkhnaa
open Go.RowKit
theorem leB_congr' (f g : Nat → Nat) (n : Nat) (h : ∀ i, i < n → f i = g i) : leB f n = leB g n := by
  induction n with
  | zero => rfl
  | succ n ih => rw [leB, leB, ih (fun i hi => h i (by omega)), h n (by omega)]
theorem leB_upd (f : Nat → Nat) (n k d : Nat) (hk : k < n) : leB (upd f k d) n + f k * 256 ^ k = leB f n + d * 256 ^ k := by
  induction n with
  | zero => omega
  | succ n ih =>
    rw [leB, leB]
    by_cases h : k = n
    · subst h
      rw [leB_congr' (upd f k d) f k (fun i hi => by unfold upd; rw [if_neg (by omega)])]
      have : upd f k d k = d := by unfold upd; rw [if_pos rfl]
      rw [this]
      omega
    · have h1 := ih (by omega)
      have : upd f k d n = f n := by unfold upd; rw [if_neg (by omega)]
      rw [this]
      omega
theorem valD_lt (a : List Nat) (h : ∀ d ∈ a, d < 256) : valD a < 256 ^ a.length := by
  induction a with
  | nil => simp [valD]
  | cons d t ih =>
    have h1 := ih (fun x hx => h x (by simp [hx]))
    have h2 := h d (by simp)
    simp only [valD, List.length_cons, Nat.pow_succ]
    omega
/-- the cells f after k digits of row i, with the carry c. -/
def ProdAt (a b : List Nat) (f : Nat → Nat) (i k c : Nat) : Prop :=
  (∀ j, f j < 256) ∧ c < 256 ∧ leB f (a.length + b.length + 1) + 256 ^ (i + k) * c = valD (a.take i) * valD b + 256 ^ i * a.getD i 0 * valD (b.take k)
theorem upd_lt (f : Nat → Nat) (k d : Nat) (hf : ∀ j, f j < 256) (hd : d < 256) : ∀ j, upd f k d j < 256 := by
  intro j; unfold upd; split
  · exact hd
  · exact hf j
theorem ProdAt.next {a b : List Nat} {f : Nat → Nat} {i k c : Nat} (h : ProdAt a b f i k c) (ha : ∀ d ∈ a, d < 256) (hb : ∀ d ∈ b, d < 256) (hi : i < a.length) (hk : k < b.length) :
    ProdAt a b (upd f (i + k) ((f (i + k) + a.getD i 0 * b.getD k 0 + c) % 256)) i (k + 1) ((f (i + k) + a.getD i 0 * b.getD k 0 + c) / 256) := by
  obtain ⟨h1, h2, h3⟩ := h
  have xa := getD_lt a ha i
  have xb := getD_lt b hb k
  have xf := h1 (i + k)
  have hxy : a.getD i 0 * b.getD k 0 ≤ 255 * 255 := Nat.mul_le_mul (by omega) (by omega)
  have hu := leB_upd f (a.length + b.length + 1) (i + k) ((f (i + k) + a.getD i 0 * b.getD k 0 + c) % 256) (by omega)
  refine ⟨upd_lt f _ _ h1 (by omega), by omega, ?_⟩
  rw [valD_take b k, Nat.mul_add, show 256 ^ i * a.getD i 0 * (256 ^ k * b.getD k 0) = 256 ^ (i + k) * (a.getD i 0 * b.getD k 0) by rw [Nat.pow_add]; ac_rfl]
  rw [show i + (k + 1) = (i + k) + 1 by omega, Nat.pow_succ, Nat.mul_assoc]
  generalize a.getD i 0 * b.getD k 0 = xy at *
  generalize f (i + k) = z at *
  generalize 256 ^ (i + k) = P at *
  have e : P * ((z + xy + c) % 256) + P * (256 * ((z + xy + c) / 256)) = P * z + P * xy + P * c := by
    rw [← Nat.mul_add, Nat.mod_add_div, Nat.mul_add, Nat.mul_add]
  rw [Nat.mul_comm z P, Nat.mul_comm _ P] at hu
  omega
theorem ProdAt.start (a b : List Nat) : ProdAt a b (fun _ => 0) 0 0 0 := by
  refine ⟨fun _ => (by decide : (0 : Nat) < 256), by omega, ?_⟩
  have : ∀ n, leB (fun _ => 0) n = 0 := by
    intro n; induction n with
    | zero => rfl
    | succ n ih => rw [leB, ih]; simp
  rw [this]
  simp [valD]
/-- the cells while the last carry of row i goes on at k. -/
def CarryAt (a b : List Nat) (f : Nat → Nat) (i k c : Nat) : Prop :=
  (∀ j, f j < 256) ∧ c < 256 ∧ leB f (a.length + b.length + 1) + 256 ^ k * c = valD (a.take (i + 1)) * valD b ∧ (0 < c → k < i + 1 + b.length)
theorem carry_bound (a b : List Nat) (ha : ∀ d ∈ a, d < 256) (hb : ∀ d ∈ b, d < 256) (i k c x : Nat) (h : x + 256 ^ k * c = valD (a.take (i + 1)) * valD b) (hc : 0 < c) : k < i + 1 + b.length := by
  rcases Nat.lt_or_ge k (i + 1 + b.length) with h1 | h1
  · exact h1
  · exfalso
    have v1 := valD_lt (a.take (i + 1)) (fun d hd => ha d (List.mem_of_mem_take hd))
    have v2 := valD_lt b hb
    have v3 : (256 : Nat) ^ (a.take (i + 1)).length ≤ 256 ^ (i + 1) := Nat.pow_le_pow_right (by omega) (by rw [List.length_take]; omega)
    have v4 : valD (a.take (i + 1)) * valD b < 256 ^ (i + 1) * 256 ^ b.length := Nat.mul_lt_mul_of_lt_of_le (by omega) (by omega) (Nat.pow_pos (by omega))
    have v5 : (256 : Nat) ^ (i + 1 + b.length) ≤ 256 ^ k := Nat.pow_le_pow_right (by omega) h1
    rw [Nat.pow_add] at v5
    have v6 : 256 ^ k ≤ 256 ^ k * c := Nat.le_mul_of_pos_right _ hc
    omega
theorem ProdAt.carry {a b : List Nat} {f : Nat → Nat} {i c : Nat} (h : ProdAt a b f i b.length c) (ha : ∀ d ∈ a, d < 256) (hb : ∀ d ∈ b, d < 256) : CarryAt a b f i (i + b.length) c := by
  obtain ⟨h1, h2, h3⟩ := h
  rw [List.take_of_length_le (Nat.le_refl _), ← Nat.add_mul, ← valD_take] at h3
  exact ⟨h1, h2, h3, fun hc => carry_bound a b ha hb i _ c _ h3 hc⟩
theorem CarryAt.next {a b : List Nat} {f : Nat → Nat} {i k c : Nat} (h : CarryAt a b f i k c) (ha : ∀ d ∈ a, d < 256) (hb : ∀ d ∈ b, d < 256) (hi : i < a.length) (hc : 0 < c) :
    CarryAt a b (upd f k ((f k + c) % 256)) i (k + 1) ((f k + c) / 256) := by
  obtain ⟨h1, h2, h3, h4⟩ := h
  have hk := h4 hc
  have xf := h1 k
  have hu := leB_upd f (a.length + b.length + 1) k ((f k + c) % 256) (by omega)
  have h5 : leB (upd f k ((f k + c) % 256)) (a.length + b.length + 1) + 256 ^ (k + 1) * ((f k + c) / 256) = valD (a.take (i + 1)) * valD b := by
    rw [← h3, Nat.pow_succ, Nat.mul_assoc]
    generalize f k = z at *
    generalize 256 ^ k = P at *
    have e : P * ((z + c) % 256) + P * (256 * ((z + c) / 256)) = P * z + P * c := by
      rw [← Nat.mul_add, Nat.mod_add_div, Nat.mul_add]
    rw [Nat.mul_comm z P, Nat.mul_comm _ P] at hu
    omega
  exact ⟨upd_lt f _ _ h1 (by omega), by omega, h5, fun hc => carry_bound a b ha hb i _ _ _ h5 hc⟩
theorem CarryAt.done {a b : List Nat} {f : Nat → Nat} {i k : Nat} (h : CarryAt a b f i k 0) : ProdAt a b f (i + 1) 0 0 := by
  obtain ⟨h1, h2, h3, _⟩ := h
  refine ⟨h1, by omega, ?_⟩
  simp only [Nat.mul_zero, Nat.add_zero, List.take_zero, valD] at h3 ⊢
  exact h3
theorem ProdAt.done {a b : List Nat} {f : Nat → Nat} (h : ProdAt a b f a.length 0 0) : leB f (a.length + b.length + 1) = valD a * valD b := by
  obtain ⟨_, _, h3⟩ := h
  rw [List.take_of_length_le (Nat.le_refl _)] at h3
  simpa [valD] using h3
end Go.Proofs.Ytnjmcppljbkhnaa
