import Derived.Test.YtnjmcppljbkhnaaZf
set_option linter.unusedVariables false
set_option linter.unusedSimpArgs false
namespace Go.Proofs.Ytnjmcppljbkhnaa
open Go.RowKit
theorem within_t (n a b : Int) (w : World) (h : a ≤ n ∧ n ≤ b) : Calls Try.prog 10 #[.int .i64 n, .int .i64 a, .int .i64 b] w fun e w' => e = .returned (.bool true) ∧ w = w' := by
  have hh := within10 n a b w
  rw [decide_eq_true h.1, decide_eq_true h.2] at hh
  exact hh
theorem within_f (n a b : Int) (w : World) (h : ¬ (a ≤ n ∧ n ≤ b)) : Calls Try.prog 10 #[.int .i64 n, .int .i64 a, .int .i64 b] w fun e w' => e = .returned (.bool false) ∧ w = w' := by
  have hh := within10 n a b w
  rw [show (decide (a ≤ n) && decide (n ≤ b)) = false by simp; omega] at hh
  exact hh
/-- the slice has the cells xs. -/
def PRow (w : World) (a : Option Addr) (xs : List Int) : Prop := ∀ i, i < xs.length → ∃ b off, a = some ⟨b, off, none⟩ ∧ b < w.heap.size ∧ w.cell? ⟨b, off + i, none⟩ = some (.int .i64 (xs.getD i 0))
set_option maxRecDepth 100000 in
set_option maxHeartbeats 4000000 in
theorem law7_out (secret noise : ByteArray) (need many : Int) (v : Value) (w : World) (hs : secret.size ≤ maxLen) (hn : noise.size ≤ maxLen) (h : ¬ (secret.size ≤ 1024 ∧ 1 ≤ many ∧ many ≤ 255 ∧ 1 ≤ need ∧ need ≤ many)) :
    Calls Try.prog 7 #[.string secret, .string noise, .int .i64 need, .int .i64 many, v] w fun e w' => e = .returned (.bool true) ∧ Below w.heap.size w w' := by
  have hs0 := hs
  unfold maxLen at hs
  by_cases hz : secret.size = 0
  · skip
    by_cases h1 : 1 ≤ many ∧ many ≤ 255
    · have h2 : ¬ (1 ≤ need ∧ need ≤ many) := by omega
      have e := empty_no secret hz
      have d1 : decide ((1024 : Int) < (secret.size : Int)) = false := decide_eq_false (by omega)
      have C30 := Lib.hid (fun w => shares30_empty secret noise need many w hz)
      go_enter Try.func7, Try.ntmps7
      go_wp2_with fail
      refine (within_t many 1 255 _ (by omega)).mono ?_
      rintro e w' ⟨rfl, rfl⟩
      go_wp2_with fail
      refine (within_f need 1 many _ (by omega)).mono ?_
      rintro e w' ⟨rfl, rfl⟩
      go_wp2_with fail
      refine (C30.out _).mono ?_
      rintro e w' ⟨rfl, rfl⟩
      go_wp2_with fail
      refine (when17' true 21 _ _ rfl).mono ?_
      rintro e w' ⟨rfl, rfl⟩
      go_wp2_with fail
      refine (when17' false 8 _ _ rfl).mono ?_
      rintro e w' ⟨rfl, rfl⟩
      go_wp2_with fail
      refine (within_t many 1 255 _ (by omega)).mono ?_
      rintro e w' ⟨rfl, rfl⟩
      go_wp2_with fail
      refine (within_f need 1 many _ (by omega)).mono ?_
      rintro e w' ⟨rfl, rfl⟩
      go_wp2_with fail
      refine (when17' true 7 _ _ rfl).mono ?_
      rintro e w' ⟨rfl, rfl⟩
      go_wp2_with fail
      refine (first3 _ _ _ _ _).mono ?_
      rintro e w' ⟨rfl, rfl⟩
      rw [show firstI [whenI true 21, whenI false 8, whenI true 7] = 21 from rfl]
      go_wp2_with fail
      refine (seals13 _).mono ?_
      rintro e w5 ⟨rfl, b5⟩
      have HB5 := Lib.hid (((Below.refl w.heap.size w).alloc (Nat.le_refl _) _).trans (b5.mono (by simp)))
      clear b5
      go_wp2_with fail
      refine (seals13 _).mono ?_
      rintro e w6 ⟨rfl, b6⟩
      have HB6 := Lib.hid (below_step HB5.out (Nat.le_refl _) b6)
      clear b6
      go_wp2_with fail
      go_ret
      exact ⟨rfl, HB6.out⟩
    · skip
      have e := empty_no secret hz
      have d1 : decide ((1024 : Int) < (secret.size : Int)) = false := decide_eq_false (by omega)
      have C30 := Lib.hid (fun w => shares30_empty secret noise need many w hz)
      go_enter Try.func7, Try.ntmps7
      go_wp2_with fail
      refine (within_f many 1 255 _ (by omega)).mono ?_
      rintro e w' ⟨rfl, rfl⟩
      go_wp2_with fail
      refine (C30.out _).mono ?_
      rintro e w' ⟨rfl, rfl⟩
      go_wp2_with fail
      refine (when17' true 21 _ _ rfl).mono ?_
      rintro e w' ⟨rfl, rfl⟩
      go_wp2_with fail
      refine (when17' false 8 _ _ rfl).mono ?_
      rintro e w' ⟨rfl, rfl⟩
      go_wp2_with fail
      refine (within_f many 1 255 _ (by omega)).mono ?_
      rintro e w' ⟨rfl, rfl⟩
      go_wp2_with fail
      refine (when17' true 7 _ _ rfl).mono ?_
      rintro e w' ⟨rfl, rfl⟩
      go_wp2_with fail
      refine (first3 _ _ _ _ _).mono ?_
      rintro e w' ⟨rfl, rfl⟩
      rw [show firstI [whenI true 21, whenI false 8, whenI true 7] = 21 from rfl]
      go_wp2_with fail
      refine (seals13 _).mono ?_
      rintro e w5 ⟨rfl, b5⟩
      have HB5 := Lib.hid (((Below.refl w.heap.size w).alloc (Nat.le_refl _) _).trans (b5.mono (by simp)))
      clear b5
      go_wp2_with fail
      refine (seals13 _).mono ?_
      rintro e w6 ⟨rfl, b6⟩
      have HB6 := Lib.hid (below_step HB5.out (Nat.le_refl _) b6)
      clear b6
      go_wp2_with fail
      go_ret
      exact ⟨rfl, HB6.out⟩
  · by_cases hbig : 1024 < secret.size
    · skip
      by_cases h1 : 1 ≤ many ∧ many ≤ 255
      · by_cases h2 : 1 ≤ need ∧ need ≤ many
        · skip
          have e := empty_of secret (by omega)
          have d1 : decide ((1024 : Int) < (secret.size : Int)) = true := decide_eq_true (by omega)
          have d2 : decide ((secret.size : Int) ≤ 1024) = false := decide_eq_false (by omega)
          have C30 := Lib.hid (fun w => shares30_large secret noise need many w hbig hs0)
          go_enter Try.func7, Try.ntmps7
          go_wp2_with fail
          refine (within_t many 1 255 _ (by omega)).mono ?_
          rintro e w' ⟨rfl, rfl⟩
          go_wp2_with fail
          refine (within_t need 1 many _ (by omega)).mono ?_
          rintro e w' ⟨rfl, rfl⟩
          go_wp2_with fail
          refine (C30.out _).mono ?_
          rintro e w' ⟨rfl, rfl⟩
          go_wp2_with fail
          refine (when17' false 21 _ _ rfl).mono ?_
          rintro e w' ⟨rfl, rfl⟩
          go_wp2_with fail
          refine (when17' true 8 _ _ rfl).mono ?_
          rintro e w' ⟨rfl, rfl⟩
          go_wp2_with fail
          refine (within_t many 1 255 _ (by omega)).mono ?_
          rintro e w' ⟨rfl, rfl⟩
          go_wp2_with fail
          refine (within_t need 1 many _ (by omega)).mono ?_
          rintro e w' ⟨rfl, rfl⟩
          go_wp2_with fail
          refine (when17' false 7 _ _ rfl).mono ?_
          rintro e w' ⟨rfl, rfl⟩
          go_wp2_with fail
          refine (first3 _ _ _ _ _).mono ?_
          rintro e w' ⟨rfl, rfl⟩
          rw [show firstI [whenI false 21, whenI true 8, whenI false 7] = 8 from rfl]
          go_wp2_with fail
          refine (seals13 _).mono ?_
          rintro e w5 ⟨rfl, b5⟩
          have HB5 := Lib.hid (((Below.refl w.heap.size w).alloc (Nat.le_refl _) _).trans (b5.mono (by simp)))
          clear b5
          go_wp2_with fail
          refine (seals13 _).mono ?_
          rintro e w6 ⟨rfl, b6⟩
          have HB6 := Lib.hid (below_step HB5.out (Nat.le_refl _) b6)
          clear b6
          go_wp2_with fail
          go_ret
          exact ⟨rfl, HB6.out⟩
        · skip
          have e := empty_of secret (by omega)
          have d1 : decide ((1024 : Int) < (secret.size : Int)) = true := decide_eq_true (by omega)
          have d2 : decide ((secret.size : Int) ≤ 1024) = false := decide_eq_false (by omega)
          have C30 := Lib.hid (fun w => shares30_large secret noise need many w hbig hs0)
          go_enter Try.func7, Try.ntmps7
          go_wp2_with fail
          refine (within_t many 1 255 _ (by omega)).mono ?_
          rintro e w' ⟨rfl, rfl⟩
          go_wp2_with fail
          refine (within_f need 1 many _ (by omega)).mono ?_
          rintro e w' ⟨rfl, rfl⟩
          go_wp2_with fail
          refine (C30.out _).mono ?_
          rintro e w' ⟨rfl, rfl⟩
          go_wp2_with fail
          refine (when17' false 21 _ _ rfl).mono ?_
          rintro e w' ⟨rfl, rfl⟩
          go_wp2_with fail
          refine (when17' true 8 _ _ rfl).mono ?_
          rintro e w' ⟨rfl, rfl⟩
          go_wp2_with fail
          refine (within_t many 1 255 _ (by omega)).mono ?_
          rintro e w' ⟨rfl, rfl⟩
          go_wp2_with fail
          refine (within_f need 1 many _ (by omega)).mono ?_
          rintro e w' ⟨rfl, rfl⟩
          go_wp2_with fail
          refine (when17' true 7 _ _ rfl).mono ?_
          rintro e w' ⟨rfl, rfl⟩
          go_wp2_with fail
          refine (first3 _ _ _ _ _).mono ?_
          rintro e w' ⟨rfl, rfl⟩
          rw [show firstI [whenI false 21, whenI true 8, whenI true 7] = 8 from rfl]
          go_wp2_with fail
          refine (seals13 _).mono ?_
          rintro e w5 ⟨rfl, b5⟩
          have HB5 := Lib.hid (((Below.refl w.heap.size w).alloc (Nat.le_refl _) _).trans (b5.mono (by simp)))
          clear b5
          go_wp2_with fail
          refine (seals13 _).mono ?_
          rintro e w6 ⟨rfl, b6⟩
          have HB6 := Lib.hid (below_step HB5.out (Nat.le_refl _) b6)
          clear b6
          go_wp2_with fail
          go_ret
          exact ⟨rfl, HB6.out⟩
      · skip
        have e := empty_of secret (by omega)
        have d1 : decide ((1024 : Int) < (secret.size : Int)) = true := decide_eq_true (by omega)
        have d2 : decide ((secret.size : Int) ≤ 1024) = false := decide_eq_false (by omega)
        have C30 := Lib.hid (fun w => shares30_large secret noise need many w hbig hs0)
        go_enter Try.func7, Try.ntmps7
        go_wp2_with fail
        refine (within_f many 1 255 _ (by omega)).mono ?_
        rintro e w' ⟨rfl, rfl⟩
        go_wp2_with fail
        refine (C30.out _).mono ?_
        rintro e w' ⟨rfl, rfl⟩
        go_wp2_with fail
        refine (when17' false 21 _ _ rfl).mono ?_
        rintro e w' ⟨rfl, rfl⟩
        go_wp2_with fail
        refine (when17' true 8 _ _ rfl).mono ?_
        rintro e w' ⟨rfl, rfl⟩
        go_wp2_with fail
        refine (within_f many 1 255 _ (by omega)).mono ?_
        rintro e w' ⟨rfl, rfl⟩
        go_wp2_with fail
        refine (when17' true 7 _ _ rfl).mono ?_
        rintro e w' ⟨rfl, rfl⟩
        go_wp2_with fail
        refine (first3 _ _ _ _ _).mono ?_
        rintro e w' ⟨rfl, rfl⟩
        rw [show firstI [whenI false 21, whenI true 8, whenI true 7] = 8 from rfl]
        go_wp2_with fail
        refine (seals13 _).mono ?_
        rintro e w5 ⟨rfl, b5⟩
        have HB5 := Lib.hid (((Below.refl w.heap.size w).alloc (Nat.le_refl _) _).trans (b5.mono (by simp)))
        clear b5
        go_wp2_with fail
        refine (seals13 _).mono ?_
        rintro e w6 ⟨rfl, b6⟩
        have HB6 := Lib.hid (below_step HB5.out (Nat.le_refl _) b6)
        clear b6
        go_wp2_with fail
        go_ret
        exact ⟨rfl, HB6.out⟩
    · skip
      by_cases h1 : 1 ≤ many ∧ many ≤ 255
      · have h2 : ¬ (1 ≤ need ∧ need ≤ many) := by omega
        have e := empty_of secret (by omega)
        have d1 : decide ((1024 : Int) < (secret.size : Int)) = false := decide_eq_false (by omega)
        have C30 := Lib.hid (fun w => shares30_range secret noise need many w (by omega) (by omega) (by omega))
        go_enter Try.func7, Try.ntmps7
        go_wp2_with fail
        refine (within_t many 1 255 _ (by omega)).mono ?_
        rintro e w' ⟨rfl, rfl⟩
        go_wp2_with fail
        refine (within_f need 1 many _ (by omega)).mono ?_
        rintro e w' ⟨rfl, rfl⟩
        go_wp2_with fail
        refine (C30.out _).mono ?_
        rintro e w' ⟨rfl, rfl⟩
        go_wp2_with fail
        refine (when17' false 21 _ _ rfl).mono ?_
        rintro e w' ⟨rfl, rfl⟩
        go_wp2_with fail
        refine (when17' false 8 _ _ rfl).mono ?_
        rintro e w' ⟨rfl, rfl⟩
        go_wp2_with fail
        refine (within_t many 1 255 _ (by omega)).mono ?_
        rintro e w' ⟨rfl, rfl⟩
        go_wp2_with fail
        refine (within_f need 1 many _ (by omega)).mono ?_
        rintro e w' ⟨rfl, rfl⟩
        go_wp2_with fail
        refine (when17' true 7 _ _ rfl).mono ?_
        rintro e w' ⟨rfl, rfl⟩
        go_wp2_with fail
        refine (first3 _ _ _ _ _).mono ?_
        rintro e w' ⟨rfl, rfl⟩
        rw [show firstI [whenI false 21, whenI false 8, whenI true 7] = 7 from rfl]
        go_wp2_with fail
        refine (seals13 _).mono ?_
        rintro e w5 ⟨rfl, b5⟩
        have HB5 := Lib.hid (((Below.refl w.heap.size w).alloc (Nat.le_refl _) _).trans (b5.mono (by simp)))
        clear b5
        go_wp2_with fail
        refine (seals13 _).mono ?_
        rintro e w6 ⟨rfl, b6⟩
        have HB6 := Lib.hid (below_step HB5.out (Nat.le_refl _) b6)
        clear b6
        go_wp2_with fail
        go_ret
        exact ⟨rfl, HB6.out⟩
      · skip
        have e := empty_of secret (by omega)
        have d1 : decide ((1024 : Int) < (secret.size : Int)) = false := decide_eq_false (by omega)
        have C30 := Lib.hid (fun w => shares30_range secret noise need many w (by omega) (by omega) (by omega))
        go_enter Try.func7, Try.ntmps7
        go_wp2_with fail
        refine (within_f many 1 255 _ (by omega)).mono ?_
        rintro e w' ⟨rfl, rfl⟩
        go_wp2_with fail
        refine (C30.out _).mono ?_
        rintro e w' ⟨rfl, rfl⟩
        go_wp2_with fail
        refine (when17' false 21 _ _ rfl).mono ?_
        rintro e w' ⟨rfl, rfl⟩
        go_wp2_with fail
        refine (when17' false 8 _ _ rfl).mono ?_
        rintro e w' ⟨rfl, rfl⟩
        go_wp2_with fail
        refine (within_f many 1 255 _ (by omega)).mono ?_
        rintro e w' ⟨rfl, rfl⟩
        go_wp2_with fail
        refine (when17' true 7 _ _ rfl).mono ?_
        rintro e w' ⟨rfl, rfl⟩
        go_wp2_with fail
        refine (first3 _ _ _ _ _).mono ?_
        rintro e w' ⟨rfl, rfl⟩
        rw [show firstI [whenI false 21, whenI false 8, whenI true 7] = 7 from rfl]
        go_wp2_with fail
        refine (seals13 _).mono ?_
        rintro e w5 ⟨rfl, b5⟩
        have HB5 := Lib.hid (((Below.refl w.heap.size w).alloc (Nat.le_refl _) _).trans (b5.mono (by simp)))
        clear b5
        go_wp2_with fail
        refine (seals13 _).mono ?_
        rintro e w6 ⟨rfl, b6⟩
        have HB6 := Lib.hid (below_step HB5.out (Nat.le_refl _) b6)
        clear b6
        go_wp2_with fail
        go_ret
        exact ⟨rfl, HB6.out⟩
end Go.Proofs.Ytnjmcppljbkhnaa
