/-
  wrap.Keep: a keeper of crc32 and md5 over the law's store.
-/
import Derived.Test.YtfcnmdmbkoekcaaGreatDoorYd
import Derived.Test.YtfcnmdmbkoekcaaGreatDoorYe
set_option linter.unusedVariables false
set_option linter.unusedSimpArgs false
namespace Go.Proofs.YtfcnmdmbkoekcaaGreatDoor
open Go.RowKit Go.Proofs.Kl
/-- the names of the kinds lie as texts. -/
structure KN (w : World) : Prop where
  h1 : ∃ s, w.cell? ⟨0, 1, none⟩ = some (.string s)
  h2 : ∃ s, w.cell? ⟨0, 2, none⟩ = some (.string s)
theorem KN.below {w w' : World} (h : KN w) (hb : Below w.heap.size w w') : KN w' := by
  obtain ⟨s, h1⟩ := h.h1
  obtain ⟨t, h2⟩ := h.h2
  exact ⟨⟨s, (hb.cell (World.block_lt_of_cell? _ _ h1)).trans h1⟩, ⟨t, (hb.cell (World.block_lt_of_cell? _ _ h2)).trans h2⟩⟩
set_option maxRecDepth 100000 in
set_option maxHeartbeats 4000000 in
theorem known1_ok (w : World) : Calls Tryz.prog 51 #[.int .i64 1] w fun e w' => e = .returned (.bool true) ∧ w' = w := by
  go_enter Tryz.func51, Tryz.ntmps51
  go_wp2_with fail
  go_ret
  exact ⟨rfl, rfl⟩
set_option maxRecDepth 100000 in
set_option maxHeartbeats 4000000 in
theorem known2_ok (w : World) : Calls Tryz.prog 51 #[.int .i64 2] w fun e w' => e = .returned (.bool true) ∧ w' = w := by
  go_enter Tryz.func51, Tryz.ntmps51
  go_wp2_with fail
  go_ret
  exact ⟨rfl, rfl⟩
set_option maxRecDepth 100000 in
set_option maxHeartbeats 4000000 in
theorem name1_ok (w : World) (h : KN w) : Calls Tryz.prog 23 #[.int .i64 1] w fun e w' => ∃ s, e = .returned (.tuple #[.string s, .int .i64 0]) ∧ w' = w := by
  obtain ⟨s, h1⟩ := h.h1
  clear h
  go_enter Tryz.func23, Tryz.ntmps23
  go_wp2_with (refine (known1_ok _).mono ?_; rintro e w' ⟨rfl, rfl⟩)
  go_ret2
  exact ⟨s, rfl, rfl⟩
set_option maxRecDepth 100000 in
set_option maxHeartbeats 4000000 in
theorem name2_ok (w : World) (h : KN w) : Calls Tryz.prog 23 #[.int .i64 2] w fun e w' => ∃ s, e = .returned (.tuple #[.string s, .int .i64 0]) ∧ w' = w := by
  obtain ⟨s, h1⟩ := h.h2
  clear h
  go_enter Tryz.func23, Tryz.ntmps23
  go_wp2_with (refine (known2_ok _).mono ?_; rintro e w' ⟨rfl, rfl⟩)
  go_ret2
  exact ⟨s, rfl, rfl⟩
set_option maxRecDepth 100000 in
set_option maxHeartbeats 4000000 in
theorem index0_ok (a : Option Addr) (c : Nat) (k : Int) (w : World) : Calls Tryz.prog 52 #[.slice a 0 c, .int .i64 k] w fun e w' => e = .returned (.int .i64 (-1)) ∧ w' = w := by
  go_enter Tryz.func52, Tryz.ntmps52
  go_wp2_with fail
  go_rounds 2
  go_ret
  exact ⟨rfl, rfl⟩
set_option maxRecDepth 100000 in
set_option maxHeartbeats 4000000 in
theorem index1_ok (g : Nat) (c : Nat) (w : World) (h : w.cell? ⟨g, 0, none⟩ = some (.int .i64 2)) : Calls Tryz.prog 52 #[sl g 1 c, .int .i64 1] w fun e w' => e = .returned (.int .i64 (-1)) ∧ w' = w := by
  go_enter Tryz.func52, Tryz.ntmps52
  go_wp2_with fail
  go_rounds 3
  go_ret
  exact ⟨rfl, rfl⟩
set_option maxRecDepth 100000 in
set_option maxHeartbeats 4000000 in
theorem contains0_ok (a : Option Addr) (c : Nat) (k : Int) (w : World) : Calls Tryz.prog 24 #[.slice a 0 c, .int .i64 k] w fun e w' => e = .returned (.bool false) ∧ w' = w := by
  go_enter Tryz.func24, Tryz.ntmps24
  go_wp2_with (refine (index0_ok _ _ _ _).mono ?_; rintro e w' ⟨rfl, rfl⟩)
  go_ret
  exact ⟨rfl, rfl⟩
set_option maxRecDepth 100000 in
set_option maxHeartbeats 4000000 in
theorem contains1_ok (g : Nat) (c : Nat) (w : World) (h : w.cell? ⟨g, 0, none⟩ = some (.int .i64 2)) : Calls Tryz.prog 24 #[sl g 1 c, .int .i64 1] w fun e w' => e = .returned (.bool false) ∧ w' = w := by
  have H := Lib.hid (index1_ok g c w h)
  clear h
  go_enter Tryz.func24, Tryz.ntmps24
  go_wp2_with (refine H.out.mono ?_; rintro e w' ⟨rfl, rfl⟩)
  go_ret
  exact ⟨rfl, rfl⟩
end Go.Proofs.YtfcnmdmbkoekcaaGreatDoor
