import Derived.Test.YtobiacdeoeogaaaGreatDoorE
set_option linter.unusedVariables false
set_option linter.unusedSimpArgs false
namespace Go.Proofs.YtobiacdeoeogaaaGreatDoor
open Go.RowKit
/-- n words of 32 bits. -/
def URow (n : Nat) (X : Array Value) : Prop := X.size = n ∧ ∀ i, i < n → ∃ v : Int, X[i]? = some (.int .u32 v)
theorem URow.set {n : Nat} {X : Array Value} (h : URow n X) (k : Nat) (v : Int) : URow n (X.setIfInBounds k (.int .u32 v)) := by
  refine ⟨by simp [h.1], ?_⟩
  intro i hi
  obtain ⟨u, hu⟩ := h.2 i hi
  by_cases e : k = i
  · subst e
    exact ⟨v, by simp [Array.getElem?_setIfInBounds, h.1, hi]⟩
  · exact ⟨u, by simp [Array.getElem?_setIfInBounds, e, hu]⟩
theorem URow.all {n : Nat} {X : Array Value} (h : URow n X) : X.all (·.oneCell') = true := by
  rw [Array.all_eq_true]
  intro i hi
  obtain ⟨u, hu⟩ := h.2 i (by have := h.1; omega)
  rw [Array.getElem?_eq_getElem hi] at hu
  rw [Option.some.inj hu]
  rfl
theorem urow8 (a0 a1 a2 a3 a4 a5 a6 a7 : Int) : URow 8 #[.int .u32 a0, .int .u32 a1, .int .u32 a2, .int .u32 a3, .int .u32 a4, .int .u32 a5, .int .u32 a6, .int .u32 a7] := ⟨rfl, fun i hi => by
  match i, hi with
  | 0, _ => exact ⟨_, rfl⟩
  | 1, _ => exact ⟨_, rfl⟩
  | 2, _ => exact ⟨_, rfl⟩
  | 3, _ => exact ⟨_, rfl⟩
  | 4, _ => exact ⟨_, rfl⟩
  | 5, _ => exact ⟨_, rfl⟩
  | 6, _ => exact ⟨_, rfl⟩
  | 7, _ => exact ⟨_, rfl⟩⟩
theorem URow.zero (n : Nat) : URow n (Array.replicate n (.int .u32 0)) := ⟨by simp, fun i hi => ⟨0, by simp [hi]⟩⟩
set_option maxRecDepth 100000 in
set_option maxHeartbeats 1000000 in
theorem turn7 : ∃ f : Int → Int, ∀ (x : Int) (w : World), Calls Tryz.prog 269 #[.int .u32 x, .int .i64 7] w fun e w' => e = .returned (.int .u32 (f x)) ∧ w' = w := by
  apply Exists.intro
  intro x w
  have e1 : IntKind.u64.wrap (-7) = 18446744073709551609 := by decide
  have e2 : bits .and .u64 18446744073709551609 31 = 25 := by decide
  go_enter Tryz.func269, Tryz.ntmps269
  go_wp2_with go_in
  go_ret
  exact ⟨rfl, rfl⟩
set_option maxRecDepth 100000 in
set_option maxHeartbeats 1000000 in
theorem turn18 : ∃ f : Int → Int, ∀ (x : Int) (w : World), Calls Tryz.prog 269 #[.int .u32 x, .int .i64 18] w fun e w' => e = .returned (.int .u32 (f x)) ∧ w' = w := by
  apply Exists.intro
  intro x w
  have e1 : IntKind.u64.wrap (-18) = 18446744073709551598 := by decide
  have e2 : bits .and .u64 18446744073709551598 31 = 14 := by decide
  go_enter Tryz.func269, Tryz.ntmps269
  go_wp2_with go_in
  go_ret
  exact ⟨rfl, rfl⟩
set_option maxRecDepth 100000 in
set_option maxHeartbeats 1000000 in
theorem turn17 : ∃ f : Int → Int, ∀ (x : Int) (w : World), Calls Tryz.prog 269 #[.int .u32 x, .int .i64 17] w fun e w' => e = .returned (.int .u32 (f x)) ∧ w' = w := by
  apply Exists.intro
  intro x w
  have e1 : IntKind.u64.wrap (-17) = 18446744073709551599 := by decide
  have e2 : bits .and .u64 18446744073709551599 31 = 15 := by decide
  go_enter Tryz.func269, Tryz.ntmps269
  go_wp2_with go_in
  go_ret
  exact ⟨rfl, rfl⟩
set_option maxRecDepth 100000 in
set_option maxHeartbeats 1000000 in
theorem turn19 : ∃ f : Int → Int, ∀ (x : Int) (w : World), Calls Tryz.prog 269 #[.int .u32 x, .int .i64 19] w fun e w' => e = .returned (.int .u32 (f x)) ∧ w' = w := by
  apply Exists.intro
  intro x w
  have e1 : IntKind.u64.wrap (-19) = 18446744073709551597 := by decide
  have e2 : bits .and .u64 18446744073709551597 31 = 13 := by decide
  go_enter Tryz.func269, Tryz.ntmps269
  go_wp2_with go_in
  go_ret
  exact ⟨rfl, rfl⟩
set_option maxRecDepth 100000 in
set_option maxHeartbeats 1000000 in
theorem turn6 : ∃ f : Int → Int, ∀ (x : Int) (w : World), Calls Tryz.prog 269 #[.int .u32 x, .int .i64 6] w fun e w' => e = .returned (.int .u32 (f x)) ∧ w' = w := by
  apply Exists.intro
  intro x w
  have e1 : IntKind.u64.wrap (-6) = 18446744073709551610 := by decide
  have e2 : bits .and .u64 18446744073709551610 31 = 26 := by decide
  go_enter Tryz.func269, Tryz.ntmps269
  go_wp2_with go_in
  go_ret
  exact ⟨rfl, rfl⟩
set_option maxRecDepth 100000 in
set_option maxHeartbeats 1000000 in
theorem turn11 : ∃ f : Int → Int, ∀ (x : Int) (w : World), Calls Tryz.prog 269 #[.int .u32 x, .int .i64 11] w fun e w' => e = .returned (.int .u32 (f x)) ∧ w' = w := by
  apply Exists.intro
  intro x w
  have e1 : IntKind.u64.wrap (-11) = 18446744073709551605 := by decide
  have e2 : bits .and .u64 18446744073709551605 31 = 21 := by decide
  go_enter Tryz.func269, Tryz.ntmps269
  go_wp2_with go_in
  go_ret
  exact ⟨rfl, rfl⟩
set_option maxRecDepth 100000 in
set_option maxHeartbeats 1000000 in
theorem turn25 : ∃ f : Int → Int, ∀ (x : Int) (w : World), Calls Tryz.prog 269 #[.int .u32 x, .int .i64 25] w fun e w' => e = .returned (.int .u32 (f x)) ∧ w' = w := by
  apply Exists.intro
  intro x w
  have e1 : IntKind.u64.wrap (-25) = 18446744073709551591 := by decide
  have e2 : bits .and .u64 18446744073709551591 31 = 7 := by decide
  go_enter Tryz.func269, Tryz.ntmps269
  go_wp2_with go_in
  go_ret
  exact ⟨rfl, rfl⟩
set_option maxRecDepth 100000 in
set_option maxHeartbeats 1000000 in
theorem turn2 : ∃ f : Int → Int, ∀ (x : Int) (w : World), Calls Tryz.prog 269 #[.int .u32 x, .int .i64 2] w fun e w' => e = .returned (.int .u32 (f x)) ∧ w' = w := by
  apply Exists.intro
  intro x w
  have e1 : IntKind.u64.wrap (-2) = 18446744073709551614 := by decide
  have e2 : bits .and .u64 18446744073709551614 31 = 30 := by decide
  go_enter Tryz.func269, Tryz.ntmps269
  go_wp2_with go_in
  go_ret
  exact ⟨rfl, rfl⟩
set_option maxRecDepth 100000 in
set_option maxHeartbeats 1000000 in
theorem turn13 : ∃ f : Int → Int, ∀ (x : Int) (w : World), Calls Tryz.prog 269 #[.int .u32 x, .int .i64 13] w fun e w' => e = .returned (.int .u32 (f x)) ∧ w' = w := by
  apply Exists.intro
  intro x w
  have e1 : IntKind.u64.wrap (-13) = 18446744073709551603 := by decide
  have e2 : bits .and .u64 18446744073709551603 31 = 19 := by decide
  go_enter Tryz.func269, Tryz.ntmps269
  go_wp2_with go_in
  go_ret
  exact ⟨rfl, rfl⟩
set_option maxRecDepth 100000 in
set_option maxHeartbeats 1000000 in
theorem turn22 : ∃ f : Int → Int, ∀ (x : Int) (w : World), Calls Tryz.prog 269 #[.int .u32 x, .int .i64 22] w fun e w' => e = .returned (.int .u32 (f x)) ∧ w' = w := by
  apply Exists.intro
  intro x w
  have e1 : IntKind.u64.wrap (-22) = 18446744073709551594 := by decide
  have e2 : bits .and .u64 18446744073709551594 31 = 10 := by decide
  go_enter Tryz.func269, Tryz.ntmps269
  go_wp2_with go_in
  go_ret
  exact ⟨rfl, rfl⟩
def turnList : List Int := [7, 18, 17, 19, 6, 11, 25, 2, 13, 22]
theorem turn_each (n : Int) (h : n ∈ turnList) : ∃ f : Int → Int, ∀ (x : Int) (w : World), Calls Tryz.prog 269 #[.int .u32 x, .int .i64 n] w fun e w' => e = .returned (.int .u32 (f x)) ∧ w' = w := by
  simp only [turnList, List.mem_cons, List.not_mem_nil, or_false] at h
  rcases h with rfl | rfl | rfl | rfl | rfl | rfl | rfl | rfl | rfl | rfl
  · exact turn7
  · exact turn18
  · exact turn17
  · exact turn19
  · exact turn6
  · exact turn11
  · exact turn25
  · exact turn2
  · exact turn13
  · exact turn22
theorem turn_any : ∃ f : Int → Int → Int, ∀ (n : Int), n ∈ turnList → ∀ (x : Int) (w : World), Calls Tryz.prog 269 #[.int .u32 x, .int .i64 n] w fun e w' => e = .returned (.int .u32 (f n x)) ∧ w' = w :=
  ⟨fun n x => if h : n ∈ turnList then Classical.choose (turn_each n h) x else 0, fun n h x w => by
    have := Classical.choose_spec (turn_each n h) x w
    simp only [h, dite_true]
    exact this⟩
end Go.Proofs.YtobiacdeoeogaaaGreatDoor
