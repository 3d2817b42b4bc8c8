import Derived.Test.YtnjmcppljbkhnaaQ
set_option linter.unusedVariables false
set_option linter.unusedSimpArgs false
namespace Go.Proofs.Ytnjmcppljbkhnaa
open Go.RowKit
def tagS (key text : ByteArray) : ByteArray := strB 16 (bytesN (tagN key text))
set_option maxRecDepth 100000 in
set_option maxHeartbeats 1000000 in
theorem tag23_ok (key text : ByteArray) (w : World) (hk : key.size = 32) (hs : text.size ≤ 2097152) :
    Calls Try.prog 23 #[.string key, .string text] w fun e w' => e = .returned (.tuple #[.string (tagS key text), .int .i64 0]) ∧ Below w.heap.size w w' := by
  have HK := Lib.hid hk
  have d1 : ((key.size : Int) != 32) = false := by rw [hk]; rfl
  clear hk
  go_enter Try.func23, Try.ntmps23
  go_wp2_with fail
  refine (tag54 key text _ HK.out (by unfold maxLen; omega)).mono ?_
  rintro e w2 ⟨rfl, b2⟩
  have HB2 := Lib.hid b2
  clear b2
  obtain ⟨F, hF⟩ : ∃ F, F = bytesN (tagN key text) := ⟨_, rfl⟩
  rw [← hF]
  have HE := Lib.hid (show strB 16 F = tagS key text from by unfold tagS; rw [hF])
  clear hF
  have hnew := Blk.new w2 86 (row8 16 fun _ => 0)
  rw [zero16L] at hnew
  have HN := Lib.hid hnew
  clear hnew
  have hb : Blk ((w2.alloc (.cells #[.int .u8 0, .int .u8 0, .int .u8 0, .int .u8 0, .int .u8 0, .int .u8 0, .int .u8 0, .int .u8 0, .int .u8 0, .int .u8 0, .int .u8 0, .int .u8 0, .int .u8 0, .int .u8 0, .int .u8 0, .int .u8 0] 86)).setRow w2.heap.size (row8 16 F)) w2.heap.size 86 (row8 16 F) := setRow_heap _ _ _ _ _ _ HN.out
  have HB := Lib.hid (below_step HB2.out (Nat.le_refl _) (below_setRow (g := w2.heap.size) (cs := row8 16 F) ((Below.refl w2.heap.size w2).alloc (Nat.le_refl _) (.cells #[.int .u8 0, .int .u8 0, .int .u8 0, .int .u8 0, .int .u8 0, .int .u8 0, .int .u8 0, .int .u8 0, .int .u8 0, .int .u8 0, .int .u8 0, .int .u8 0, .int .u8 0, .int .u8 0, .int .u8 0, .int .u8 0] 86)) (Nat.le_refl _)))
  clear HB2
  have hcv := fun cap => conv_row hb 0 16 (by omega) cap
  have e0 : (fun i => F (0 + i)) = F := by funext i; rw [Nat.zero_add]
  rw [e0] at hcv
  clear e0 hb
  have hl1 : (strB 16 F).size ≤ 16 := by rw [strB_size]; exact Nat.le_refl _
  go_wp2_with (refine wpList_store_row rfl 86 _ _ rfl w2.heap.size (row8 16 F) rfl rfl 86 _ HN.out (info86 _) (by rw [row8_size]; rfl) (row8_all _ _) ?_)
  go_ret2
  exact ⟨by rw [← HE.out]; rfl, HB.out⟩
set_option maxHeartbeats 1000000 in
theorem tag23_form (key text : ByteArray) (w : World) (h : key.size ≠ 32) (hk : key.size ≤ maxLen) :
    Calls Try.prog 23 #[.string key, .string text] w fun e w' => e = .returned (.tuple #[.string ByteArray.empty, .int .i64 6]) ∧ w = w' := by
  unfold maxLen at hk
  have d1 : ((key.size : Int) != 32) = true := by simp; omega
  clear h
  go_enter Try.func23, Try.ntmps23
  go_wp2_with fail
  go_ret2
  exact ⟨rfl, rfl⟩
set_option maxHeartbeats 1000000 in
theorem tag23_large (key text : ByteArray) (w : World) (hk : key.size = 32) (h : 2097152 < text.size) (hm : text.size ≤ maxLen) :
    Calls Try.prog 23 #[.string key, .string text] w fun e w' => e = .returned (.tuple #[.string ByteArray.empty, .int .i64 8]) ∧ w = w' := by
  unfold maxLen at hm
  have d1 : ((key.size : Int) != 32) = false := by rw [hk]; rfl
  clear hk
  go_enter Try.func23, Try.ntmps23
  go_wp2_with fail
  go_ret2
  exact ⟨rfl, rfl⟩
end Go.Proofs.Ytnjmcppljbkhnaa
