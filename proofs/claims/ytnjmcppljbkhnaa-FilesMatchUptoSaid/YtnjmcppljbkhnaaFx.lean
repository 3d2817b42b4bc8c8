import Derived.Test.YtnjmcppljbkhnaaFs
set_option linter.unusedVariables false
set_option linter.unusedSimpArgs false
namespace Go.Proofs.Ytnjmcppljbkhnaa
open Go.RowKit
theorem need_none (size f m : Nat) (W : World) (hs : size ≤ 1048576) (hf : f ≤ 9223372036854775807) (hm : m ≤ 9223372036854775807) (h : ndM (size : Nat) (f : Nat) (m : Nat) ≤ 0) :
    Calls Try.prog 42 #[.int .i64 (size : Nat), .int .i64 (f : Nat), .int .i64 (m : Nat)] W fun e w' => e = .returned (.tuple #[.int .i64 0, .int .i64 0, .int .i64 0]) ∧ W = w' := by
  refine (needed42 (size : Nat) (f : Nat) (m : Nat) W (by omega) (by omega) (by omega) (by omega) (by omega) (by omega)).mono fun e w' q => ?_
  obtain ⟨h1, h2 | h2⟩ := q
  · exact ⟨h2.2, h1⟩
  · omega
theorem needOf_none (size f m : Nat) (W : World) (hs : size ≤ 1048576) (hf : f ≤ 9223372036854775807) (hm : m ≤ 9223372036854775807) (h : ndM (size : Nat) (f : Nat) (m : Nat) ≤ 0) :
    Calls Try.prog 43 #[.int .i64 (size : Nat), .int .i64 (f : Nat), .int .i64 (m : Nat)] W fun e w' => e = .returned (.tuple #[.int .i64 0, .int .i64 0]) ∧ W = w' := by
  refine (neededOf43 (size : Nat) (f : Nat) (m : Nat) W (by omega) (by omega) (by omega) (by omega) (by omega) (by omega)).mono fun e w' q => ?_
  obtain ⟨h1, h2 | h2⟩ := q
  · exact ⟨h2.2, h1⟩
  · omega
theorem need_some (size f m : Nat) (a l : Nat) (W : World) (hs : size ≤ 1048576) (hf : f ≤ 9223372036854775807) (hm : m ≤ 9223372036854775807) (h : 0 < ndM (size : Nat) (f : Nat) (m : Nat)) (ha : ndA (f : Nat) = (a : Nat)) (hl : ndE (size : Nat) (f : Nat) (ndM (size : Nat) (f : Nat) (m : Nat)) - ndA (f : Nat) = (l : Nat)) :
    Calls Try.prog 42 #[.int .i64 (size : Nat), .int .i64 (f : Nat), .int .i64 (m : Nat)] W fun e w' => e = .returned (.tuple #[.int .i64 (a : Nat), .int .i64 (l : Nat), .int .i64 0]) ∧ W = w' := by
  refine (needed42 (size : Nat) (f : Nat) (m : Nat) W (by omega) (by omega) (by omega) (by omega) (by omega) (by omega)).mono fun e w' q => ?_
  obtain ⟨h1, h2 | h2⟩ := q
  · omega
  · rw [← ha, ← hl]; exact ⟨h2.2, h1⟩
theorem needOf_some (size f m : Nat) (a l : Nat) (W : World) (hs : size ≤ 1048576) (hf : f ≤ 9223372036854775807) (hm : m ≤ 9223372036854775807) (h : 0 < ndM (size : Nat) (f : Nat) (m : Nat)) (ha : ndA (f : Nat) = (a : Nat)) (hl : ndE (size : Nat) (f : Nat) (ndM (size : Nat) (f : Nat) (m : Nat)) - ndA (f : Nat) = (l : Nat)) :
    Calls Try.prog 43 #[.int .i64 (size : Nat), .int .i64 (f : Nat), .int .i64 (m : Nat)] W fun e w' => e = .returned (.tuple #[.int .i64 (a : Nat), .int .i64 (l : Nat)]) ∧ W = w' := by
  refine (neededOf43 (size : Nat) (f : Nat) (m : Nat) W (by omega) (by omega) (by omega) (by omega) (by omega) (by omega)).mono fun e w' q => ?_
  obtain ⟨h1, h2 | h2⟩ := q
  · omega
  · rw [← ha, ← hl]; exact ⟨h2.2, h1⟩
/-- the part of the file that is needed, and OpenPart of it. -/
theorem part_some (c n t nonce text : ByteArray) (f most : Nat) (hc : c.size = 32) (hn : n.size = 32) (ht : t.size = 16) (hnn : nonce.size = 12) (hs : text.size ≤ 10000) (hf : f ≤ 9223372036854775807) (hmo : most ≤ 9223372036854775807) (h : 0 < ndM (text.size : Nat) (f : Nat) (most : Nat)) :
    ∃ a l m : Nat, f + m ≤ text.size ∧ 0 < m ∧ min (most : Int) ((text.size : Nat) - (f : Nat)) = (m : Nat) ∧ (fileB c nonce text).extract 0 20 = markS ++ nonce ∧ 20 ≤ (fileB c nonce text).size ∧ a + l ≤ (fileB c nonce text).size ∧ ndA (f : Nat) = (a : Nat) ∧ ndE (text.size : Nat) (f : Nat) (ndM (text.size : Nat) (f : Nat) (most : Nat)) - ndA (f : Nat) = (l : Nat) ∧
      ∀ w, Calls Try.prog 44 #[.agg #[.string c, .string n, .string t], .string (markS ++ nonce), .string ((fileB c nonce text).extract a (a + l)), .int .i64 (text.size : Nat), .int .i64 (f : Nat), .int .i64 (most : Nat)] w fun e w' => e = .returned (.tuple #[.string (text.extract f (f + m)), .int .i64 0]) ∧ Below w.heap.size w w' := by
  obtain ⟨m, hm⟩ : ∃ m : Nat, m = min most (text.size - f) := ⟨_, rfl⟩
  have hndM : ndM (text.size : Nat) (f : Nat) (most : Nat) = (m : Nat) := by unfold ndM at *; omega
  have hm0 : 0 < m := by rw [hndM] at h; omega
  have hfm : f + m ≤ text.size := by omega
  obtain ⟨hnA, hnE, hnp, hnq⟩ := need_bounds text f m hm0 hfm
  have hcut := file_cut c nonce text hnn (f / 1024) ((f + m - 1) / 1024 + 1) hnq hnp
  have hmono : cutAt text 1024 (f / 1024) ≤ cutAt text 1024 ((f + m - 1) / 1024 + 1) := by unfold cutAt; omega
  have hsz := file_total c nonce text hnn
  have hce := cutAt_le text 1024 ((f + m - 1) / 1024 + 1)
  generalize cutAt text 1024 (f / 1024) = ca at *
  generalize cutAt text 1024 ((f + m - 1) / 1024 + 1) = cb at *
  have e2 : 20 + ca + 16 * (f / 1024) + (20 + cb + 16 * ((f + m - 1) / 1024 + 1) - (20 + ca + 16 * (f / 1024))) = 20 + cb + 16 * ((f + m - 1) / 1024 + 1) := by omega
  refine ⟨20 + ca + 16 * (f / 1024), 20 + cb + 16 * ((f + m - 1) / 1024 + 1) - (20 + ca + 16 * (f / 1024)), m, hfm, hm0, by omega, file_head c nonce text hnn, by omega, by omega, hnA, by rw [hndM, hnE, hnA]; omega, fun w => ?_⟩
  rw [e2, hcut]
  refine openPart44 c n t nonce text f most m _ w hc hn ht hnn (by omega) hm.symm hf hmo hm0 rfl ?_
  rw [← hcut, hnE, hnA]
  have : ((fileB c nonce text).extract (20 + ca + 16 * (f / 1024)) (20 + cb + 16 * ((f + m - 1) / 1024 + 1))).size = 20 + cb + 16 * ((f + m - 1) / 1024 + 1) - (20 + ca + 16 * (f / 1024)) := by simp; omega
  rw [this]; omega
end Go.Proofs.Ytnjmcppljbkhnaa
