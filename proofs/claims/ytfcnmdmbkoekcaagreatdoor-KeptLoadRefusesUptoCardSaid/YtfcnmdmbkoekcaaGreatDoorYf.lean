/-
  Keeper.Load: the parts: the key of a path, the clone of an entry's sums.
-/
import Derived.Test.YtfcnmdmbkoekcaaGreatDoorYd
import Derived.Maps.AppendAt
import Derived.Maps.OwnOps
set_option linter.unusedVariables false
set_option linter.unusedSimpArgs false
namespace Go.Proofs.YtfcnmdmbkoekcaaGreatDoor
open Go.RowKit Go.Proofs.Kl
theorem field0F (w : World) : (Instr.field 28 (.agg #[.int .i64 3071, .int .i64 16, .int .i64 1, .int .i64 255, .int .i64 1024, .int .i64 100000, .int .i64 3, .int .i64 1, .string ⟨#[]⟩]) 0).run Tryz.prog w = .ok (.int .i64 3071) w := by kernel_rfl
set_option maxRecDepth 100000 in
set_option maxHeartbeats 4000000 in
theorem keeperKey_ok (p : ByteArray) (m kb gb cap mb ub : Nat) (w : World) (hk : KpM m kb gb cap mb ub w) : Calls Tryz.prog 30 #[pt kb, .string p] w fun e w' => e = .returned (.string p) ∧ Below w.heap.size w w' := by
  have H := Lib.hid hk.hm
  have c0 := hk.hk.cell 0
  simp at c0
  have ha : bits .and .i64 3071 2 = 2 := by decide
  clear hk
  go_enter Tryz.func30, Tryz.ntmps30
  go_wp2_with fail
  refine H.out.call.mono ?_
  rintro e w1 ⟨rfl, hb⟩
  have hf := field0F w1
  have HB := Lib.hid hb
  clear hb H c0
  go_wp2_with fail
  go_ret
  exact ⟨rfl, HB.out⟩
end Go.Proofs.YtfcnmdmbkoekcaaGreatDoor
