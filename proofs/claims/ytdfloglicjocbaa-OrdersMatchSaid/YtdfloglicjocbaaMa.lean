/-
  Plain law of PartsMatch: what Missing gives of the sorted list is what Rest gives of the list as it came. No program in sight.
-/
set_option linter.unusedSimpArgs false
namespace Go.Proofs.Ytdfloglicjocbaa
/-- the runs of positions below k that are not covered. -/
def restStep (l : List (Nat × Nat)) (i : Nat) : List (Nat × Nat) :=
  match l.getLast? with
  | some q => if q.2 = i then l.dropLast ++ [(q.1, i + 1)] else l ++ [(i, i + 1)]
  | none => l ++ [(i, i + 1)]
def rest (cov : Nat → Bool) : Nat → List (Nat × Nat)
  | 0 => []
  | k + 1 => if cov k then rest cov k else restStep (rest cov k) k
theorem rest_mem (cov : Nat → Bool) (k : Nat) : ∀ q ∈ rest cov k, q.1 < q.2 ∧ q.2 ≤ k ∧ cov (q.2 - 1) = false := by
  induction k with
  | zero => intro q h; simp [rest] at h
  | succ k ih =>
    intro q h
    rw [rest] at h
    by_cases hc : cov k = true
    · rw [if_pos hc] at h
      obtain ⟨h1, h2, h3⟩ := ih q h
      exact ⟨h1, by omega, h3⟩
    · rw [if_neg hc] at h
      have hc' : cov k = false := by simpa using hc
      unfold restStep at h
      cases hl : (rest cov k).getLast? with
      | none =>
        rw [hl] at h
        simp only [List.mem_append, List.mem_singleton] at h
        rcases h with h | rfl
        · obtain ⟨h1, h2, h3⟩ := ih q h
          exact ⟨h1, by omega, h3⟩
        · exact ⟨by simp, by simp, by simpa using hc'⟩
      | some r =>
        rw [hl] at h
        simp only at h
        have hr := List.mem_of_getLast? hl
        obtain ⟨r1, r2, r3⟩ := ih r hr
        by_cases he : r.2 = k
        · rw [if_pos he] at h
          simp only [List.mem_append, List.mem_singleton] at h
          rcases h with h | rfl
          · obtain ⟨h1, h2, h3⟩ := ih q ((List.dropLast_sublist _).subset h)
            exact ⟨h1, by omega, h3⟩
          · exact ⟨by simp; omega, by simp, by simpa using hc'⟩
        · rw [if_neg he] at h
          simp only [List.mem_append, List.mem_singleton] at h
          rcases h with h | rfl
          · obtain ⟨h1, h2, h3⟩ := ih q h
            exact ⟨h1, by omega, h3⟩
          · exact ⟨by simp, by simp, by simpa using hc'⟩
theorem rest_cov (cov : Nat → Bool) (x y : Nat) (hxy : x ≤ y) (h : ∀ p, x ≤ p → p < y → cov p = true) : rest cov y = rest cov x := by
  induction y with
  | zero => rw [Nat.le_zero.1 hxy]
  | succ y ih =>
    by_cases hx : x = y + 1
    · rw [hx]
    · rw [rest, if_pos (h y (by omega) (by omega))]
      exact ih (by omega) fun p h1 h2 => h p h1 (by omega)
theorem rest_gap (cov : Nat → Bool) (x y : Nat) (hxy : x < y) (h : ∀ p, x ≤ p → p < y → cov p = false) (hx : x = 0 ∨ cov (x - 1) = true) : rest cov y = rest cov x ++ [(x, y)] := by
  induction y with
  | zero => omega
  | succ y ih =>
    rw [rest, if_neg (by rw [h y (by omega) (by omega)]; simp)]
    by_cases he : x = y
    · subst he
      unfold restStep
      cases hl : (rest cov x).getLast? with
      | none => rfl
      | some r =>
        obtain ⟨r1, r2, r3⟩ := rest_mem cov x r (List.mem_of_getLast? hl)
        simp only
        rw [if_neg]
        intro e
        rw [e] at r3
        rcases hx with hx | hx
        · omega
        · rw [hx] at r3; cases r3
    · rw [ih (by omega) fun p h1 h2 => h p h1 (by omega)]
      unfold restStep
      simp
/-- what Missing does. -/
def missStep (s : List (Nat × Nat) × Nat) (h : Nat × Nat) : List (Nat × Nat) × Nat :=
  (if s.2 < h.1 ∧ h.1 < h.2 then s.1 ++ [(s.2, h.1)] else s.1, if h.1 < h.2 then max s.2 h.2 else s.2)
def missing (size : Nat) (l : List (Nat × Nat)) : List (Nat × Nat) :=
  let s := l.foldl missStep ([], 0)
  if s.2 < size then s.1 ++ [(s.2, size)] else s.1
def covers (l : List (Nat × Nat)) (p : Nat) : Bool := l.any fun h => decide (h.1 ≤ p) && decide (p < h.2)
theorem covers_iff (l : List (Nat × Nat)) (p : Nat) : covers l p = true ↔ ∃ h ∈ l, h.1 ≤ p ∧ p < h.2 := by
  simp [covers]
theorem covers_no (l : List (Nat × Nat)) (p : Nat) : covers l p = false ↔ ∀ h ∈ l, ¬ (h.1 ≤ p ∧ p < h.2) := by
  rw [← Bool.not_eq_true, covers_iff]
  exact ⟨fun h q hq hp => h ⟨q, hq, hp⟩, fun h ⟨q, hq, hp⟩ => h q hq hp⟩
/-- what holds while Missing goes through the sorted list. -/
theorem miss_inv (all : List (Nat × Nat)) (pre suf : List (Nat × Nat)) (hall : all = pre ++ suf) (hs : suf.Pairwise fun a b => a.1 ≤ b.1) (out : List (Nat × Nat)) (at' : Nat) (ho : out = rest (covers all) at') (ha : at' = 0 ∨ covers all (at' - 1) = true) (he : ∀ h ∈ pre, h.1 < h.2 → h.2 ≤ at') :
    (suf.foldl missStep (out, at')).1 = rest (covers all) (suf.foldl missStep (out, at')).2 ∧ ((suf.foldl missStep (out, at')).2 = 0 ∨ covers all ((suf.foldl missStep (out, at')).2 - 1) = true) ∧ (∀ h ∈ all, h.1 < h.2 → h.2 ≤ (suf.foldl missStep (out, at')).2) := by
  induction suf generalizing pre out at' with
  | nil => rw [hall, List.append_nil] at *; exact ⟨ho, ha, he⟩
  | cons h suf ih =>
    obtain ⟨a, b⟩ := h
    rw [List.foldl_cons]
    have hs2 := List.pairwise_cons.1 hs
    have hmem : (a, b) ∈ all := by rw [hall]; simp
    refine ih (pre ++ [(a, b)]) (by rw [hall]; simp) hs2.2 _ _ ?_ ?_ ?_
    · by_cases hab : a < b
      · by_cases hat : at' < a
        · have g1 : rest (covers all) a = rest (covers all) at' ++ [(at', a)] := by
            refine rest_gap _ _ _ hat ?_ ha
            intro p h1 h2
            rw [covers_no, hall]
            intro q hq ⟨q1, q2⟩
            rcases List.mem_append.1 hq with hq | hq
            · have := he q hq (by omega); omega
            · rcases List.mem_cons.1 hq with rfl | hq
              · simp at q1; omega
              · have := hs2.1 q hq; simp at this; omega
          have g2 : rest (covers all) b = rest (covers all) a := by
            refine rest_cov _ _ _ (by omega) fun p h1 h2 => ?_
            rw [covers_iff]; exact ⟨(a, b), hmem, h1, h2⟩
          simp only
          rw [if_pos ⟨hat, hab⟩, if_pos hab, Nat.max_eq_right (by omega), g2, g1, ho]
        · simp only
          rw [if_neg (by omega), if_pos hab, ho]
          by_cases hb : at' ≤ b
          · rw [Nat.max_eq_right hb]
            refine (rest_cov _ _ _ hb fun p h1 h2 => ?_).symm
            rw [covers_iff]; exact ⟨(a, b), hmem, by simp; omega, h2⟩
          · rw [Nat.max_eq_left (by omega)]
      · simp only
        rw [if_neg (by omega), if_neg hab, ho]
    · simp only
      by_cases hab : a < b
      · rw [if_pos hab]
        by_cases hb : at' ≤ b
        · rw [Nat.max_eq_right hb]
          right
          rw [covers_iff]; exact ⟨(a, b), hmem, by simp; omega, by simp; omega⟩
        · rw [Nat.max_eq_left (by omega)]; exact ha
      · rw [if_neg hab]; exact ha
    · intro q hq hq2
      simp only
      rcases List.mem_append.1 hq with hq | hq
      · have := he q hq hq2
        split <;> omega
      · rw [List.mem_singleton] at hq
        subst hq
        rw [if_pos hq2]; simp only; omega
/-- what Missing gives of the sorted list is what the rest is of the list as it came. -/
theorem missing_rest (size : Nat) (l have' : List (Nat × Nat)) (hp : l.Perm have') (hs : l.Pairwise fun a b => a.1 ≤ b.1) (hb : ∀ h ∈ l, h.2 ≤ size) : missing size l = rest (covers have') size := by
  have hc : covers have' = covers l := by
    funext p
    by_cases h : covers l p = true
    · rw [h]
      rw [covers_iff] at *
      obtain ⟨q, hq, h1⟩ := h
      exact ⟨q, hp.mem_iff.1 hq, h1⟩
    · have h' : covers l p = false := by simpa using h
      rw [h']
      rw [covers_no] at *
      intro q hq
      exact h' q (hp.mem_iff.2 hq)
  rw [hc]
  obtain ⟨h1, h2, h3⟩ := miss_inv l [] l rfl hs [] 0 rfl (Or.inl rfl) (by simp)
  unfold missing
  generalize l.foldl missStep ([], 0) = s at *
  obtain ⟨out, a⟩ := s
  simp only at *
  subst h1
  by_cases ha : a < size
  · rw [if_pos ha]
    refine (rest_gap _ _ _ ha ?_ h2).symm
    intro p p1 p2
    rw [covers_no]
    intro q hq ⟨q1, q2⟩
    have := h3 q hq (by omega); omega
  · rw [if_neg ha]
    have : a ≤ size := by
      rcases h2 with h2 | h2
      · omega
      · rw [covers_iff] at h2
        obtain ⟨q, hq, q1, q2⟩ := h2
        have := hb q hq; omega
    rw [show a = size by omega]
end Go.Proofs.Ytdfloglicjocbaa
