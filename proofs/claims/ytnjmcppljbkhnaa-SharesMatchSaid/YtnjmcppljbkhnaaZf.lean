import Derived.Test.YtnjmcppljbkhnaaZe
set_option linter.unusedVariables false
set_option linter.unusedSimpArgs false
namespace Go.Proofs.Ytnjmcppljbkhnaa
open Go.RowKit
theorem nodup_len : ∀ (N : Nat) (L : List Nat), L.Nodup → (∀ x ∈ L, x < N) → L.length ≤ N := by
  intro N
  induction N with
  | zero =>
    intro L _ h
    cases L with
    | nil => simp
    | cons a t => exact absurd (h a (by simp)) (by omega)
  | succ N ih =>
    intro L hd h
    have h1 := ih (L.erase N) (hd.erase N) (fun x hx => by
      have h2 := (List.Nodup.mem_erase_iff hd).1 hx
      have := h x h2.2
      have := h2.1
      omega)
    have h3 : (L.erase N).length = if N ∈ L then L.length - 1 else L.length := by
      split
      · rename_i hm; exact List.length_erase_of_mem hm
      · rename_i hm; rw [List.erase_of_not_mem hm]
    rw [h3] at h1
    split at h1 <;> omega
/-- the cells of the shares of the numbers L. -/
def lsC (D : Nat → ByteArray) : List Nat → List Value
  | [] => []
  | x :: t => .int .i64 (x : Nat) :: .string (D x) :: lsC D t
theorem lsC_len (D : Nat → ByteArray) (L : List Nat) : (lsC D L).length = L.length * 2 := by
  induction L with
  | nil => rfl
  | cons x t ih => simp only [lsC, List.length_cons, ih]; omega
theorem lsC_snoc (D : Nat → ByteArray) (L : List Nat) (x : Nat) : lsC D (L ++ [x]) = lsC D L ++ [.int .i64 (x : Nat), .string (D x)] := by
  induction L with
  | nil => rfl
  | cons y t ih => simp only [List.cons_append, lsC, ih]
theorem lsC_at (D : Nat → ByteArray) (L : List Nat) (i : Nat) (h : i < L.length) : (lsC D L)[i * 2]? = some (.int .i64 ((L.getD i 0 : Nat) : Int)) ∧ (lsC D L)[i * 2 + 1]? = some (.string (D (L.getD i 0))) := by
  induction L generalizing i with
  | nil => simp at h
  | cons x t ih =>
    cases i with
    | zero => simp [lsC]
    | succ i =>
      have := ih i (by simpa using h)
      rw [show (i + 1) * 2 = i * 2 + 1 + 1 by omega]
      simp only [lsC, List.getElem?_cons_succ, List.getD_cons_succ]
      exact this
def lX (L : List Nat) : Nat → Int := fun i => ((L.getD i 0 : Nat) : Int)
def lD (D : Nat → ByteArray) (L : List Nat) : Nat → ByteArray := fun i => D (L.getD i 0)
theorem own_list {w : World} {base : Nat} {v : Value} {D : Nat → ByteArray} {L : List Nat} (h : w.ownsRow base 46 2 v L.length (lsC D L)) :
    ∃ a ca, v = .slice a L.length ca ∧ L.length ≤ ca ∧ ca ≤ maxLen ∧ SRowI w w.heap.size a L.length (lX L) (lD D L) := by
  obtain ⟨h1, h2⟩ := h
  rcases h2 with ⟨rfl, h3⟩ | ⟨g, cap, cur, rfl, hb, hg, hc, hm, hs, ht⟩
  · exact ⟨none, 0, by rw [h3], by omega, by omega, fun i hi => by omega⟩
  · have hB : Blk w g 46 cur := hg
    refine ⟨some ⟨g, 0, none⟩, cap, rfl, hc, hm, fun i hi => ⟨g, 0, rfl, hB.lt, ?_, ?_⟩⟩
    · rw [Nat.zero_add, hB.cell]
      show cur[i * 2]? = some (.int .i64 ((L.getD i 0 : Nat) : Int))
      rw [← (lsC_at D L i hi).1, ← ht, List.getElem?_take_of_lt (by omega), Array.getElem?_toList]
    · rw [Nat.zero_add, hB.cell]
      show cur[i * 2 + 1]? = some (.string (D (L.getD i 0)))
      rw [← (lsC_at D L i hi).2, ← ht, List.getElem?_take_of_lt (by omega), Array.getElem?_toList]
theorem getD_mem' (L : List Nat) (i : Nat) (h : i < L.length) : L.getD i 0 ∈ L := by
  rw [List.getD_eq_getElem?_getD, List.getElem?_eq_getElem h]
  exact List.getElem_mem h
theorem memB_list (D : Nat → ByteArray) (L : List Nat) (x : Nat) : memB (lX L) (lD D L) L.length (x : Int) (D x) = decide (x ∈ L) := by
  rw [Bool.eq_iff_iff, decide_eq_true_eq]
  unfold memB lX lD
  rw [List.any_eq_true]
  constructor
  · rintro ⟨i, hi, h⟩
    have hi' : i < L.length := by simpa using hi
    simp only [Bool.and_eq_true, beq_iff_eq] at h
    have : x = L.getD i 0 := by have := h.1; omega
    rw [this]
    exact getD_mem' L i hi'
  · intro h
    obtain ⟨i, hi, he⟩ := List.getElem_of_mem h
    refine ⟨i, by simpa using hi, ?_⟩
    have e : L.getD i 0 = x := by rw [List.getD_eq_getElem?_getD, List.getElem?_eq_getElem hi]; exact he
    rw [e]
    simp
theorem nodup_snoc (L : List Nat) (x : Nat) (h : L.Nodup) (hx : x ∉ L) : (L ++ [x]).Nodup := by
  rw [List.nodup_append]
  refine ⟨h, by simp, fun a ha b hb => ?_⟩
  simp at hb
  subst hb
  intro e
  subst e
  exact hx ha
theorem getD_inj (L : List Nat) (h : L.Nodup) (i k : Nat) (hi : i < L.length) (hk : k < L.length) (e : L.getD i 0 = L.getD k 0) : i = k := by
  rw [List.getD_eq_getElem?_getD, List.getD_eq_getElem?_getD, List.getElem?_eq_getElem hi, List.getElem?_eq_getElem hk] at e
  simp only [Option.getD_some] at e
  rcases Nat.lt_trichotomy i k with hlt | heq | hgt
  · exact absurd e (List.pairwise_iff_getElem.1 h i k hi hk hlt)
  · exact heq
  · exact absurd e.symm (List.pairwise_iff_getElem.1 h k i hk hi hgt)
theorem tmod_idx (z : Int) (m : Nat) (h : 0 < m) : ∃ (t : Int) (i : Nat), z.tmod (m : Int) = t ∧ -(m : Int) < t ∧ t < (m : Int) ∧ (t + (m : Int)) % (m : Int) = (i : Int) ∧ i < m := by
  have h1 := Int.lt_tmod_of_pos z (show (0 : Int) < m by omega)
  have h2 := Int.tmod_lt_of_pos z (show (0 : Int) < m by omega)
  refine ⟨z.tmod m, ((z.tmod m + m) % m).toNat, rfl, h1, h2, ?_, ?_⟩
  · have := Int.emod_nonneg (z.tmod m + m) (show (m : Int) ≠ 0 by omega)
    omega
  · have := Int.emod_lt_of_pos (z.tmod m + m) (show (0 : Int) < m by omega)
    have := Int.emod_nonneg (z.tmod m + m) (show (m : Int) ≠ 0 by omega)
    omega
/-- what Secret makes of some of the shares. -/
theorem back_list (secret noise : ByteArray) (n : Nat) (h0 : 0 < n) (hn : n ≤ 255) (L : List Nat) (hL : ∀ x ∈ L, 1 ≤ x ∧ x ≤ 255) (hd : L.Nodup) (len : Nat) (hl : len ≤ L.length) (hlen : len ≤ 255) (hs0 : 0 < secret.size) (hs1 : secret.size ≤ 1024) (w : World) (e : Ending) (w' : World)
    (h : SPost (lX L) (lD (shD secret noise n) L) n len w e w') :
    (len < n → e = .returned (.tuple #[.string ByteArray.empty, .int .i64 3])) ∧ (n ≤ len → e = .returned (.tuple #[.string secret, .int .i64 0])) ∧ Below w.heap.size w w' := by
  obtain ⟨h1, hb⟩ := h
  refine ⟨fun hlt => ?_, fun hle => ?_, hb⟩
  · have hbase : baseE (n : Int) len = 3 := by unfold baseE; rw [if_neg (by omega), if_pos (by omega)]
    rw [hbase, scanE_base _ _ 3 len (by decide)] at h1
    rcases h1 with ⟨_, h⟩ | ⟨h, _⟩ | ⟨h, _⟩
    · exact h
    · exact absurd h (by decide)
    · exact absurd h (by decide)
  · have hbase : baseE (n : Int) len = 0 := by unfold baseE; rw [if_neg (by omega), if_neg (by omega), if_neg (by omega)]
    have hr : ∀ i, i < len → 1 ≤ lX L i ∧ lX L i ≤ 255 := fun i hi => by
      have := hL _ (getD_mem' L i (by omega))
      unfold lX; omega
    obtain ⟨b1, b2, b3⟩ := shares_back secret noise n h0 (lX L) (lD (shD secret noise n) L) len hr
      (fun i k hi hk e => getD_inj L hd i k (by omega) (by omega) (by unfold lX at e; omega))
      (fun i hi => by unfold lD lX; simp) hle hs0 hs1
    rw [hbase, b1] at h1
    rcases h1 with ⟨h, _⟩ | ⟨_, _, h⟩ | ⟨_, h, _⟩
    · exact absurd rfl h
    · rw [Int.toNat_natCast, b3] at h; exact h
    · exact absurd (by simpa using b2) h
end Go.Proofs.Ytnjmcppljbkhnaa
