import Derived.Test.YtnjmcppljbkhnaaZa
set_option linter.unusedVariables false
set_option linter.unusedSimpArgs false
namespace Go.Proofs.Ytnjmcppljbkhnaa
open Go.RowKit
theorem info46s : (Try.prog.info? 46).map (fun i => (i.zero, i.size, i.bytes)) = some (some (.agg #[.int .i64 0, .string ⟨#[]⟩]), 2, 24) := by kernel_rfl
/-- the cells of shares 1 to n. -/
def shC (D : Nat → ByteArray) : Nat → List Value
  | 0 => []
  | n + 1 => shC D n ++ [.int .i64 ((n + 1 : Nat) : Int), .string (D n)]
theorem shC_len (D : Nat → ByteArray) (n : Nat) : (shC D n).length = n * 2 := by
  induction n with
  | zero => rfl
  | succ n ih => simp only [shC, List.length_append, ih, List.length_cons, List.length_nil]; omega
theorem shC_at (D : Nat → ByteArray) (n i : Nat) (h : i < n) : (shC D n)[i * 2]? = some (.int .i64 ((i + 1 : Nat) : Int)) ∧ (shC D n)[i * 2 + 1]? = some (.string (D i)) := by
  induction n with
  | zero => omega
  | succ n ih =>
    have hl := shC_len D n
    by_cases e : i = n
    · subst e
      simp only [shC]
      rw [List.getElem?_append_right (by omega), List.getElem?_append_right (by omega), hl]
      simp
    · obtain ⟨h1, h2⟩ := ih (by omega)
      simp only [shC]
      rw [List.getElem?_append_left (by omega), List.getElem?_append_left (by omega)]
      exact ⟨h1, h2⟩
theorem own_shares {w : World} {base n : Nat} {v : Value} {D : Nat → ByteArray} (h : w.ownsRow base 46 2 v n (shC D n)) (h0 : 0 < n) :
    ∃ g cap, v = .slice (some ⟨g, 0, none⟩) n cap ∧ n ≤ cap ∧ cap ≤ maxLen ∧ base ≤ g ∧ g < w.heap.size ∧ SRowI w w.heap.size (some ⟨g, 0, none⟩) n (fun i => ((i + 1 : Nat) : Int)) D := by
  obtain ⟨h1, h2⟩ := h
  rcases h2 with ⟨rfl, h3⟩ | ⟨g, cap, cur, rfl, hb, hg, hc, hm, hs, ht⟩
  · omega
  · have hB : Blk w g 46 cur := hg
    refine ⟨g, cap, rfl, hc, hm, hb, hB.lt, fun i hi => ⟨g, 0, rfl, hB.lt, ?_, ?_⟩⟩
    · rw [Nat.zero_add, hB.cell, ← (shC_at D n i hi).1, ← ht, List.getElem?_take_of_lt (by omega), Array.getElem?_toList]
    · rw [Nat.zero_add, hB.cell, ← (shC_at D n i hi).2, ← ht, List.getElem?_take_of_lt (by omega), Array.getElem?_toList]
theorem shares30_empty (secret noise : ByteArray) (need many : Int) (w : World) (h : secret.size = 0) :
    Calls Try.prog 30 #[.string secret, .string noise, .int .i64 need, .int .i64 many] w fun e w' => e = .returned (.tuple #[.slice none 0 0, .int .i64 21]) ∧ w = w' := by
  have e := empty_no _ h
  clear h
  go_enter Try.func30, Try.ntmps30
  go_wp2_with fail
  go_ret2
  exact ⟨rfl, rfl⟩
theorem shares30_large (secret noise : ByteArray) (need many : Int) (w : World) (h : 1024 < secret.size) (hm : secret.size ≤ maxLen) :
    Calls Try.prog 30 #[.string secret, .string noise, .int .i64 need, .int .i64 many] w fun e w' => e = .returned (.tuple #[.slice none 0 0, .int .i64 8]) ∧ w = w' := by
  have e := empty_of secret (by omega)
  unfold maxLen at hm
  have d : decide ((1024 : Int) < (secret.size : Int)) = true := decide_eq_true (by omega)
  go_enter Try.func30, Try.ntmps30
  go_wp2_with fail
  go_ret2
  exact ⟨rfl, rfl⟩
theorem shares30_range (secret noise : ByteArray) (need many : Int) (w : World) (h0 : 0 < secret.size) (h1 : secret.size ≤ 1024) (h : ¬ (1 ≤ many ∧ many ≤ 255 ∧ 1 ≤ need ∧ need ≤ many)) :
    Calls Try.prog 30 #[.string secret, .string noise, .int .i64 need, .int .i64 many] w fun e w' => e = .returned (.tuple #[.slice none 0 0, .int .i64 7]) ∧ w = w' := by
  have e := empty_of secret h0
  have d : decide ((1024 : Int) < (secret.size : Int)) = false := decide_eq_false (by omega)
  by_cases a : many < 1
  · go_enter Try.func30, Try.ntmps30
    go_wp2_with fail
    go_ret2
    exact ⟨rfl, rfl⟩
  · by_cases b : 255 < many
    · have a1 : decide (many < 1) = false := decide_eq_false a
      have b1 : decide (255 < many) = true := decide_eq_true b
      go_enter Try.func30, Try.ntmps30
      go_wp2_with fail
      go_ret2
      exact ⟨rfl, rfl⟩
    · by_cases c : need < 1
      · have a1 : decide (many < 1) = false := decide_eq_false a
        have b1 : decide (255 < many) = false := decide_eq_false b
        have c1 : decide (need < 1) = true := decide_eq_true c
        go_enter Try.func30, Try.ntmps30
        go_wp2_with fail
        go_ret2
        exact ⟨rfl, rfl⟩
      · have a1 : decide (many < 1) = false := decide_eq_false a
        have b1 : decide (255 < many) = false := decide_eq_false b
        have c1 : decide (need < 1) = false := decide_eq_false c
        have d1 : decide (many < need) = true := decide_eq_true (by omega)
        go_enter Try.func30, Try.ntmps30
        go_wp2_with fail
        go_ret2
        exact ⟨rfl, rfl⟩
theorem shares30_form (secret noise : ByteArray) (n many p : Nat) (w : World) (h0 : 0 < secret.size) (h1 : secret.size ≤ 1024) (hn : n = p + 1) (hp : n ≤ many) (hm : many ≤ 255) (h : noise.size ≠ secret.size * p) (hz : noise.size ≤ maxLen) :
    Calls Try.prog 30 #[.string secret, .string noise, .int .i64 n, .int .i64 many] w fun e w' => e = .returned (.tuple #[.slice none 0 0, .int .i64 6]) ∧ w = w' := by
  have e := empty_of secret h0
  unfold maxLen at hz
  have d : decide ((1024 : Int) < (secret.size : Int)) = false := decide_eq_false (by omega)
  have a1 : decide ((many : Int) < 1) = false := decide_eq_false (by omega)
  have b1 : decide ((255 : Int) < (many : Int)) = false := decide_eq_false (by omega)
  have c1 : decide ((n : Int) < 1) = false := decide_eq_false (by omega)
  have d1 : decide ((many : Int) < (n : Int)) = false := decide_eq_false (by omega)
  have q1 : (n : Int) - 1 = (p : Int) := by omega
  have hsp : secret.size * p ≤ 1024 * 254 := Nat.mul_le_mul h1 (by omega)
  have q2 : (secret.size : Int) * (p : Int) = ((secret.size * p : Nat) : Int) := by simp
  have q3 : ((noise.size : Int) != ((secret.size * p : Nat) : Int)) = true := by simp only [bne_iff_ne, ne_eq]; omega
  have q4 : ((noise.size : Int) == ((secret.size * p : Nat) : Int)) = false := by simp only [beq_eq_false_iff_ne, ne_eq]; omega
  clear h hn
  generalize secret.size * p = r at *
  go_enter Try.func30, Try.ntmps30
  go_wp2_with fail
  go_ret2
  exact ⟨rfl, rfl⟩
end Go.Proofs.Ytnjmcppljbkhnaa
