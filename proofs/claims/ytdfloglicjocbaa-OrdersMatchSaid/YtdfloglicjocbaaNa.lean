/-
  Plain law of a stable sort: exchanged ranges, rotations, the symmetric merge of two sorted parts. No program in sight.
-/
import Derived.Sort.LotA
set_option linter.unusedSimpArgs false
set_option linter.unusedVariables false
namespace Go.Proofs.Ytdfloglicjocbaa
open Go.Sort
variable {α : Type} [Inhabited α]

/-- n exchanges of a + i with b + i. -/
def swpN (d : Array α) (a b : Nat) : Nat → Array α
  | 0 => d
  | n + 1 => swp (swpN d a b n) (a + n) (b + n)
theorem swpN_size (d : Array α) (a b n : Nat) : (swpN d a b n).size = d.size := by
  induction n with
  | zero => rfl
  | succ n ih => rw [swpN, size_swp, ih]
theorem swpN_get (d : Array α) (a b n : Nat) (h : a + n ≤ b) (hb : b + n ≤ d.size) (k : Nat) :
    (swpN d a b n)[k]! = if a ≤ k ∧ k < a + n then d[b + (k - a)]! else if b ≤ k ∧ k < b + n then d[a + (k - b)]! else d[k]! := by
  induction n generalizing k with
  | zero => rw [if_neg (by omega), if_neg (by omega)]; rfl
  | succ n ih =>
    rw [swpN, swp_get _ (by rw [swpN_size]; omega) (by rw [swpN_size]; omega)]
    have i1 := ih (by omega) (by omega) (a + n)
    rw [if_neg (by omega), if_neg (by omega)] at i1
    have i2 := ih (by omega) (by omega) (b + n)
    rw [if_neg (by omega), if_neg (by omega)] at i2
    have i3 := ih (by omega) (by omega) k
    rw [i1, i2, i3]
    by_cases h1 : k = b + n
    · rw [if_pos h1, if_neg (by omega), if_pos (by omega), show a + (k - b) = a + n by omega]
    · rw [if_neg h1]
      by_cases h2 : k = a + n
      · rw [if_pos h2, if_pos (by omega), show b + (k - a) = b + n by omega]
      · rw [if_neg h2]
        by_cases h3 : a ≤ k ∧ k < a + n
        · rw [if_pos h3, if_pos (by omega)]
        · rw [if_neg h3]
          by_cases h4 : b ≤ k ∧ k < b + n
          · rw [if_pos h4, if_neg (by omega), if_pos (by omega)]
          · rw [if_neg h4, if_neg (by omega), if_neg (by omega)]
theorem swpN_permIn (d : Array α) (a b n lo hi : Nat) (h1 : lo ≤ a) (h2 : a + n ≤ b) (h3 : b + n ≤ hi) (h4 : hi ≤ d.size) : PermIn lo hi d (swpN d a b n) := by
  induction n with
  | zero => exact permIn_refl _ _ _
  | succ n ih =>
    rw [swpN]
    exact permIn_trans _ _ _ _ _ (ih (by omega) (by omega)) (swp_permIn _ _ _ _ _ (by omega) (by omega) (by omega) (by omega) (by rw [swpN_size]; exact h4))

/-- d' is d with the parts [a, m) and [m, b) exchanged. -/
def Rot (a m b : Nat) (d d' : Array α) : Prop :=
  d'.size = d.size ∧ (∀ k, k < a ∨ b ≤ k → d'[k]! = d[k]!) ∧ (∀ k, a ≤ k → k < a + (b - m) → d'[k]! = d[m + (k - a)]!) ∧ (∀ k, a + (b - m) ≤ k → k < b → d'[k]! = d[k - (b - m)]!)
theorem rot_nil (a m : Nat) (d : Array α) (h : a ≤ m) : Rot a m m d d :=
  ⟨rfl, fun _ _ => rfl, fun k h1 h2 => by omega, fun k h1 h2 => by rw [show k - (m - m) = k by omega]⟩
theorem rot_nil2 (a b : Nat) (d : Array α) (h : a ≤ b) : Rot a a b d d :=
  ⟨rfl, fun _ _ => rfl, fun k h1 h2 => by rw [show a + (k - a) = k by omega], fun k h1 h2 => by omega⟩
theorem rot_gt (m i j : Nat) (d d' : Array α) (hi : i ≤ m) (hij : j < i) (hb : m + j ≤ d.size) (h : Rot (m - i + j) m (m + j) (swpN d (m - i) m j) d') : Rot (m - i) m (m + j) d d' := by
  obtain ⟨h1, h2, h3, h4⟩ := h
  have g := swpN_get d (m - i) m j (by omega) (by omega)
  refine ⟨by rw [h1, swpN_size], fun k hk => ?_, fun k k1 k2 => ?_, fun k k1 k2 => ?_⟩
  · rw [h2 k (by omega), g, if_neg (by omega), if_neg (by omega)]
  · rw [h2 k (by omega), g, if_pos (by omega)]
  · by_cases hk : k < m - i + j + j
    · rw [h3 k (by omega) (by omega), g, if_neg (by omega), if_pos (by omega), show m - i + (m + (k - (m - i + j)) - m) = k - (m + j - m) by omega]
    · rw [h4 k (by omega) (by omega), g, if_neg (by omega), if_neg (by omega)]
theorem rot_lt (m i j : Nat) (d d' : Array α) (hi : i ≤ m) (hij : i < j) (hb : m + j ≤ d.size) (h : Rot (m - i) m (m + (j - i)) (swpN d (m - i) (m + j - i) i) d') : Rot (m - i) m (m + j) d d' := by
  obtain ⟨h1, h2, h3, h4⟩ := h
  have g := swpN_get d (m - i) (m + j - i) i (by omega) (by omega)
  refine ⟨by rw [h1, swpN_size], fun k hk => ?_, fun k k1 k2 => ?_, fun k k1 k2 => ?_⟩
  · rw [h2 k (by omega), g, if_neg (by omega), if_neg (by omega)]
  · by_cases hk : k < m - i + (j - i)
    · rw [h3 k (by omega) (by omega), g, if_neg (by omega), if_neg (by omega)]
    · rw [h4 k (by omega) (by omega), g, if_pos (by omega)]
      rw [show m + j - i + (k - (m + (j - i) - m) - (m - i)) = m + (k - (m - i)) by omega]
  · rw [h2 k (by omega), g, if_neg (by omega), if_pos (by omega), show m - i + (k - (m + j - i)) = k - (m + j - m) by omega]
theorem rot_eq (m i : Nat) (d : Array α) (hi : i ≤ m) (hb : m + i ≤ d.size) : Rot (m - i) m (m + i) d (swpN d (m - i) m i) := by
  have g := swpN_get d (m - i) m i (by omega) (by omega)
  refine ⟨swpN_size _ _ _ _, fun k hk => ?_, fun k k1 k2 => ?_, fun k k1 k2 => ?_⟩
  · rw [g, if_neg (by omega), if_neg (by omega)]
  · rw [g, if_pos (by omega)]
  · rw [g, if_neg (by omega), if_pos (by omega), show m - i + (k - m) = k - (m + i - m) by omega]
/-- one exchange further to the right. -/
theorem rot_right (a k : Nat) (d dk : Array α) (h : a ≤ k) (hk : k + 1 < d.size) (hr : Rot a (a + 1) (k + 1) d dk) : Rot a (a + 1) (k + 2) d (swp dk k (k + 1)) := by
  obtain ⟨h1, h2, h3, h4⟩ := hr
  have g := swp_get dk (i := k) (j := k + 1) (by omega) (by omega)
  refine ⟨by rw [size_swp, h1], fun q hq => ?_, fun q q1 q2 => ?_, fun q q1 q2 => ?_⟩
  · rw [g, if_neg (by omega), if_neg (by omega)]; exact h2 q (by omega)
  · rw [g, if_neg (by omega)]
    by_cases hq : q = k
    · rw [if_pos hq, h2 (k + 1) (by omega)]; congr 1; omega
    · rw [if_neg hq]; exact h3 q q1 (by omega)
  · rw [g, if_pos (by omega), h4 k (by omega) (by omega)]; congr 1; omega
/-- one exchange further to the left. -/
theorem rot_left (k m : Nat) (d dk : Array α) (h : k + 1 ≤ m) (hm : m < d.size) (hr : Rot (k + 1) m (m + 1) d dk) : Rot k m (m + 1) d (swp dk (k + 1) k) := by
  obtain ⟨h1, h2, h3, h4⟩ := hr
  have g := swp_get dk (i := k + 1) (j := k) (by omega) (by omega)
  refine ⟨by rw [size_swp, h1], fun q hq => ?_, fun q q1 q2 => ?_, fun q q1 q2 => ?_⟩
  · rw [g, if_neg (by omega), if_neg (by omega)]; exact h2 q (by omega)
  · rw [g, if_pos (by omega), h3 (k + 1) (by omega) (by omega)]; congr 1; omega
  · rw [g, if_neg (by omega)]
    by_cases hq : q = k + 1
    · rw [if_pos hq, h2 k (by omega)]; congr 1; omega
    · rw [if_neg hq]; exact h4 q (by omega) q2

variable {lt lt' : α → α → Bool}
theorem srt_le (hS : SWO lt') {a b : Nat} {d : Array α} (h : SortedIn lt' a b d) {i j : Nat} (h1 : a ≤ i) (h2 : i ≤ j) (h3 : j < b) : lt' d[j]! d[i]! = false := by
  by_cases e : i = j
  · rw [e]; exact hS.irrefl _
  · exact h i j h1 (by omega) h3
/-- one element ahead of a sorted part is brought to its place. -/
theorem merge_one (hS : SWO lt') (a i b : Nat) (d d' : Array α) (hai : a < i) (hib : i ≤ b) (hs : SortedIn lt' (a + 1) b d) (hr : Rot a (a + 1) i d d') (h1 : i = a + 1 ∨ lt' d[i - 1]! d[a]! = true) (h2 : i = b ∨ lt' d[i]! d[a]! = false) : SortedIn lt' a b d' := by
  obtain ⟨r1, r2, r3, r4⟩ := hr
  intro p q hp hpq hq
  have ea : d'[i - 1]! = d[a]! := by rw [r4 (i - 1) (by omega) (by omega)]; congr 1; omega
  by_cases c1 : q < i - 1
  · rw [r3 q (by omega) (by omega), r3 p (by omega) (by omega)]
    exact hs _ _ (by omega) (by omega) (by omega)
  · by_cases c2 : q = i - 1
    · rw [c2, ea, r3 p (by omega) (by omega)]
      rcases h1 with h1 | h1
      · omega
      · exact hS.ntrans _ _ _ (hS.asymmA h1) (srt_le hS hs (by omega) (by omega) (by omega))
    · rw [r2 q (by omega)]
      rcases h2 with h2 | h2
      · omega
      · have hqa : lt' d[q]! d[a]! = false := hS.ntrans _ _ _ (srt_le hS hs (i := i) (j := q) (by omega) (by omega) hq) h2
        by_cases c3 : p = i - 1
        · rw [c3, ea]; exact hqa
        · by_cases c4 : p < i - 1
          · rw [r3 p (by omega) (by omega)]
            exact srt_le hS hs (by omega) (by omega) hq
          · rw [r2 p (by omega)]
            exact srt_le hS hs (by omega) (by omega) hq
/-- one element behind a sorted part is brought to its place. -/
theorem merge_last (hS : SWO lt') (a i m : Nat) (d d' : Array α) (hai : a ≤ i) (him : i ≤ m) (hs : SortedIn lt' a m d) (hr : Rot i m (m + 1) d d') (h1 : i = a ∨ lt' d[m]! d[i - 1]! = false) (h2 : i = m ∨ lt' d[m]! d[i]! = true) : SortedIn lt' a (m + 1) d' := by
  obtain ⟨r1, r2, r3, r4⟩ := hr
  intro p q hp hpq hq
  have ea : d'[i]! = d[m]! := by rw [r3 i (by omega) (by omega)]; congr 1; omega
  by_cases c1 : p < i
  · rw [r2 p (by omega)]
    rcases h1 with h1 | h1
    · omega
    · have hmp : lt' d[m]! d[p]! = false := hS.ntrans _ _ _ h1 (srt_le hS hs hp (by omega) (by omega))
      by_cases c2 : q < i
      · rw [r2 q (by omega)]; exact hs _ _ hp hpq (by omega)
      · by_cases c3 : q = i
        · rw [c3, ea]; exact hmp
        · rw [r4 q (by omega) (by omega)]
          exact srt_le hS hs hp (by omega) (by omega)
  · rw [r4 q (by omega) (by omega)]
    by_cases c2 : p = i
    · rw [c2, ea]
      rcases h2 with h2 | h2
      · omega
      · exact hS.ntrans _ _ _ (srt_le hS hs (i := i) (j := q - (m + 1 - m)) (by omega) (by omega) (by omega)) (hS.asymmA h2)
    · rw [r4 p (by omega) (by omega)]
      exact srt_le hS hs (by omega) (by omega) (by omega)

/-- what the symmetric merge has to do behind its search. -/
structure Halves (lt' : α → α → Bool) (a st mid en b : Nat) (d : Array α) : Prop where
  sA : SortedIn lt' a st d
  sB : SortedIn lt' st mid d
  sC : SortedIn lt' mid en d
  sD : SortedIn lt' en b d
  cross : ∀ i j, a ≤ i → i < mid → mid ≤ j → j < b → lt' d[j]! d[i]! = false
theorem halves (hS : SWO lt') (a m b st mid en : Nat) (d d1 : Array α) (h1 : a ≤ st) (h2 : st ≤ m) (h3 : m ≤ en) (h4 : en ≤ b) (h5 : st + en = mid + m) (hA : SortedIn lt' a m d) (hB : SortedIn lt' m b d) (hr : Rot st m en d d1)
    (e1 : a < st → en < b → lt' d[en]! d[st - 1]! = false) (e2 : st < m → m < en → lt' d[en - 1]! d[st]! = true) : Halves lt' a st mid en b d1 := by
  obtain ⟨r1, r2, r3, r4⟩ := hr
  refine ⟨fun p q hp hpq hq => ?_, fun p q hp hpq hq => ?_, fun p q hp hpq hq => ?_, fun p q hp hpq hq => ?_, fun p q hp hpm hmq hq => ?_⟩
  · rw [r2 p (by omega), r2 q (by omega)]; exact hA _ _ hp hpq (by omega)
  · rw [r3 p (by omega) (by omega), r3 q (by omega) (by omega)]; exact hB _ _ (by omega) (by omega) (by omega)
  · rw [r4 p (by omega) (by omega), r4 q (by omega) (by omega)]; exact hA _ _ (by omega) (by omega) (by omega)
  · rw [r2 p (by omega), r2 q (by omega)]; exact hB _ _ (by omega) hpq (by omega)
  · by_cases c1 : p < st
    · rw [r2 p (by omega)]
      by_cases c2 : q < en
      · rw [r4 q (by omega) (by omega)]; exact srt_le hS hA hp (by omega) (by omega)
      · rw [r2 q (by omega)]
        exact hS.ntrans _ _ _ (srt_le hS hB (i := en) (j := q) (by omega) (by omega) hq) (hS.ntrans _ _ _ (e1 (by omega) (by omega)) (srt_le hS hA hp (by omega) (by omega)))
    · rw [r3 p (by omega) (by omega)]
      by_cases c2 : q < en
      · rw [r4 q (by omega) (by omega)]
        exact hS.ntrans _ _ _ (srt_le hS hA (i := st) (j := q - (en - m)) (by omega) (by omega) (by omega)) (hS.ntrans _ _ _ (hS.asymmA (e2 (by omega) (by omega))) (srt_le hS hB (by omega) (by omega) (by omega)))
      · rw [r2 q (by omega)]; exact srt_le hS hB (by omega) (by omega) hq
/-- both halves sorted: the whole is sorted. -/
theorem halves_end (a mid b : Nat) (d d2 d3 : Array α) (ham : a ≤ mid) (hmb : mid ≤ b) (hb : b ≤ d.size) (hc : ∀ i j, a ≤ i → i < mid → mid ≤ j → j < b → lt' d[j]! d[i]! = false)
    (p1 : PermIn a mid d d2) (s1 : SortedIn lt' a mid d2) (p2 : PermIn mid b d2 d3) (s2 : SortedIn lt' mid b d3) : SortedIn lt' a b d3 := by
  have hc2 : ∀ i j, a ≤ i → i < mid → mid ≤ j → j < b → lt' d2[j]! d2[i]! = false := fun i j h1 h2 h3 h4 => by
    rw [p1.2.1 j (Or.inr h3)]
    exact permIn_all d d2 a mid (fun x => lt' d[j]! x = false) (by omega) p1 (fun k k1 k2 => hc k j k1 k2 h3 h4) i h1 h2
  have hc3 : ∀ i j, a ≤ i → i < mid → mid ≤ j → j < b → lt' d3[j]! d3[i]! = false := fun i j h1 h2 h3 h4 => by
    rw [p2.2.1 i (Or.inl h2)]
    exact permIn_all d2 d3 mid b (fun x => lt' x d2[i]! = false) (by rw [p1.1]; omega) p2 (fun k k1 k2 => hc2 i k h1 h2 k1 k2) j h3 h4
  intro p q hp hpq hq
  by_cases c1 : q < mid
  · rw [p2.2.1 q (Or.inl c1), p2.2.1 p (Or.inl (by omega))]; exact s1 _ _ hp hpq c1
  · by_cases c2 : mid ≤ p
    · exact s2 _ _ c2 hpq hq
    · exact hc3 p q hp (by omega) (by omega) hq
end Go.Proofs.Ytdfloglicjocbaa
