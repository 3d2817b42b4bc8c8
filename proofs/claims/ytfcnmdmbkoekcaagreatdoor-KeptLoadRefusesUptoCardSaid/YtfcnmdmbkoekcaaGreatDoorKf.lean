/-
  Of the error of a list: the error of a part that has one is the list's; a list without one has two sums in each entry, and no path twice.
-/
import Derived.Test.YtfcnmdmbkoekcaaGreatDoorKe
namespace Go.Proofs.Kl
theorem errOf_prefix (f : ByteArray → Bool) : ∀ (l1 l2 : List E) (p : Option ByteArray), errOf f p l1 ≠ 0 → errOf f p (l1 ++ l2) = errOf f p l1
  | [], _, _, h => absurd rfl h
  | x :: l, l2, p, h => by
    simp only [List.cons_append, errOf] at h ⊢
    by_cases hc : chk f p x = 0
    · rw [if_neg (fun g => g hc)] at h ⊢
      rw [if_neg (fun g => g hc)]
      exact errOf_prefix f l l2 _ h
    · rw [if_pos hc, if_pos hc]
theorem errOf_stop (f : ByteArray → Bool) (l : List E) (k : Nat) (h : errOf f none (l.take k) ≠ 0) : errOf f none l = errOf f none (l.take k) := by
  have := errOf_prefix f (l.take k) (l.drop k) none h
  rwa [List.take_append_drop] at this
theorem chk_two {f : ByteArray → Bool} {p : Option ByteArray} {x : E} (h : chk f p x = 0) : x.sums.length = 2 := by
  unfold chk at h
  split at h
  · omega
  · split at h
    · omega
    · split at h
      · omega
      · split at h
        · omega
        · rename_i hk
          have hk2 : kindsB x.sums = true := by cases hb : kindsB x.sums with
            | true => rfl
            | false => exact absurd hb hk
          have h1 : x.sums.map Prod.fst = [1, 2] := of_decide_eq_true hk2
          have := congrArg List.length h1
          simpa using this
theorem errOf_two (f : ByteArray → Bool) : ∀ (l : List E) (p : Option ByteArray), errOf f p l = 0 → ∀ x ∈ l, x.sums.length = 2
  | [], _, _, _, h => by cases h
  | y :: l, p, h, x, hx => by
    simp only [errOf] at h
    by_cases hc : chk f p y = 0
    · rw [if_neg (fun g => g hc)] at h
      rcases List.mem_cons.1 hx with rfl | hx
      · exact chk_two hc
      · exact errOf_two f l _ h x hx
    · rw [if_pos hc] at h; exact absurd h hc
/-- the new entry's path is no earlier one's. -/
theorem errOf_new (f : ByteArray → Bool) (l : List E) (x : E) (h : errOf f none (l ++ [x]) = 0) : ∀ y ∈ l, y.path ≠ x.path := by
  have h1 := (errOf_sorted f _ none h).2
  rw [List.pairwise_append] at h1
  intro y hy e
  have := h1.2.2 y hy x (by simp)
  rw [e, cmpL_refl] at this
  cases this
end Go.Proofs.Kl
