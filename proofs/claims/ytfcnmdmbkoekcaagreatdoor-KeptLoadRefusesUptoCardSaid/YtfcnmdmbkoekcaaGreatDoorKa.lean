/-
  The order of trees on texts (names.Compare, wherryref2.Before): plain law. A list that is strictly ordered is the one sorted list of its entries.
-/
import Derived.Sort.Statements
namespace Go.Proofs.Kl
/-- a byte's place in the order of trees: the slash first. -/
def wt (c : UInt8) : Int := if c = 47 then -1 else (c.toNat : Int)
def cmpL : List UInt8 → List UInt8 → Int
  | [], [] => 0
  | [], _ :: _ => -1
  | _ :: _, [] => 1
  | x :: a, y :: b => if wt x < wt y then -1 else if wt y < wt x then 1 else cmpL a b
theorem wt_inj {x y : UInt8} (h : wt x = wt y) : x = y := by
  unfold wt at h
  by_cases h1 : x = 47
  · by_cases h2 : y = 47
    · rw [h1, h2]
    · rw [if_pos h1, if_neg h2] at h; omega
  · by_cases h2 : y = 47
    · rw [if_neg h1, if_pos h2] at h; omega
    · rw [if_neg h1, if_neg h2] at h
      exact UInt8.toNat_inj.1 (by omega)
theorem cmpL_refl : ∀ a : List UInt8, cmpL a a = 0
  | [] => rfl
  | x :: a => by simp only [cmpL, Int.lt_irrefl, if_false]; exact cmpL_refl a
theorem cmpL_eq : ∀ {a b : List UInt8}, cmpL a b = 0 → a = b
  | [], [], _ => rfl
  | [], _ :: _, h => by simp [cmpL] at h
  | _ :: _, [], h => by simp [cmpL] at h
  | x :: a, y :: b, h => by
    simp only [cmpL] at h
    split at h
    · omega
    · split at h
      · omega
      · rename_i h1 h2
        rw [wt_inj (show wt x = wt y by omega), cmpL_eq h]
theorem cmpL_anti : ∀ a b : List UInt8, cmpL b a = - cmpL a b
  | [], [] => rfl
  | [], _ :: _ => rfl
  | _ :: _, [] => rfl
  | x :: a, y :: b => by
    simp only [cmpL]
    by_cases h1 : wt x < wt y
    · rw [if_pos h1, if_neg (show ¬ wt y < wt x by omega), if_pos h1]; rfl
    · by_cases h2 : wt y < wt x
      · rw [if_pos h2, if_neg h1, if_pos h2]
      · rw [if_neg h1, if_neg h2, if_neg h2, if_neg h1]; exact cmpL_anti a b
theorem cmpL_trans : ∀ {a b c : List UInt8}, cmpL a b < 0 → cmpL b c < 0 → cmpL a c < 0
  | [], [], _, h, _ => by simp [cmpL] at h
  | [], _ :: _, [], _, h => by simp [cmpL] at h
  | [], _ :: _, _ :: _, _, _ => by simp [cmpL]
  | _ :: _, [], _, h, _ => by simp [cmpL] at h
  | _ :: _, _ :: _, [], _, h => by simp [cmpL] at h
  | x :: a, y :: b, z :: c, h, g => by
    simp only [cmpL] at h g ⊢
    by_cases h1 : wt x < wt z
    · rw [if_pos h1]; decide
    · rw [if_neg h1]
      split at h
      · split at g
        · omega
        · split at g <;> omega
      · split at h
        · omega
        · split at g
          · omega
          · split at g
            · omega
            · rw [if_neg (show ¬ wt z < wt x by omega)]
              exact cmpL_trans h g
theorem cmpL_range : ∀ a b : List UInt8, cmpL a b = -1 ∨ cmpL a b = 0 ∨ cmpL a b = 1
  | [], [] => by simp [cmpL]
  | [], _ :: _ => by simp [cmpL]
  | _ :: _, [] => by simp [cmpL]
  | x :: a, y :: b => by
    simp only [cmpL]
    split
    · exact Or.inl rfl
    · split
      · exact Or.inr (Or.inr rfl)
      · exact cmpL_range a b
/-- one step of both loops. -/
theorem cmpL_drop {a b : List UInt8} {i : Nat} (ha : i < a.length) (hb : i < b.length) :
    cmpL (a.drop i) (b.drop i) = if wt a[i] < wt b[i] then -1 else if wt b[i] < wt a[i] then 1 else cmpL (a.drop (i + 1)) (b.drop (i + 1)) := by
  rw [List.drop_eq_getElem_cons ha, List.drop_eq_getElem_cons hb]
  rfl
theorem cmpL_end {a b : List UInt8} {i : Nat} (h : ¬ (i < a.length ∧ i < b.length)) (ha : i ≤ a.length) (hb : i ≤ b.length) :
    cmpL (a.drop i) (b.drop i) = if a.length < b.length then -1 else if b.length < a.length then 1 else 0 := by
  by_cases h1 : i < a.length
  · rw [List.drop_eq_getElem_cons h1, List.drop_eq_nil_of_le (show b.length ≤ i by omega)]
    rw [if_neg (by omega), if_pos (by omega)]
    rfl
  · rw [List.drop_eq_nil_of_le (show a.length ≤ i by omega)]
    by_cases h2 : i < b.length
    · rw [List.drop_eq_getElem_cons h2, if_pos (by omega)]
      rfl
    · rw [List.drop_eq_nil_of_le (show b.length ≤ i by omega), if_neg (by omega), if_neg (by omega)]
      rfl
/-- a strictly ordered list is the one sorted list of its entries. -/
theorem strict_unique {α : Type} (lt : α → α → Bool) (irr : ∀ x, lt x x = false) (asym : ∀ x y, lt x y = true → lt y x = false) : ∀ (l l' : List α), l'.Perm l → l.Pairwise (fun x y => lt x y = true) → l'.Pairwise (fun x y => lt y x = false) → l' = l
  | [], l', hp, _, _ => by simpa using hp
  | x :: l, l', hp, hs, hs' => by
    obtain ⟨h1, h2⟩ := List.pairwise_cons.1 hs
    cases l' with
    | nil => exact absurd hp.length_eq (by simp)
    | cons y l'' =>
      obtain ⟨g1, g2⟩ := List.pairwise_cons.1 hs'
      have hx : x ∈ y :: l'' := hp.symm.subset (by simp)
      have hy : y ∈ x :: l := hp.subset (by simp)
      have e : y = x := by
        rcases List.mem_cons.1 hy with e | hy
        · exact e
        · rcases List.mem_cons.1 hx with e | hx
          · exact e.symm
          · have a1 := h1 y hy
            have a2 := g1 x hx
            rw [a2] at a1; cases a1
      subst e
      rw [strict_unique lt irr asym l l'' (List.Perm.cons_inv hp) h2 g2]
end Go.Proofs.Kl
