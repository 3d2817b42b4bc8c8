import Derived.Test.YtnjmcppljbkhnaaYo
import Derived.Test.YtnjmcppljbkhnaaYn
set_option linter.unusedVariables false
set_option linter.unusedSimpArgs false
namespace Go.Proofs.Ytnjmcppljbkhnaa
open Go.RowKit
set_option maxHeartbeats 1000000 in
theorem openBlock20_ok (key nonce extra text : ByteArray) (w : World) (hk : key.size = 32) (hn : nonce.size = 12) (he : extra.size ≤ 100000) (hs : text.size ≤ 100000) :
    Calls Try.prog 20 #[.string key, .string nonce, .string extra, .string (sealB key nonce extra text)] w fun e w' => e = .returned (.tuple #[.string text, .int .i64 0]) ∧ Below w.heap.size w w' := by
  have HK := Lib.hid hk
  have HNn := Lib.hid hn
  clear hk hn
  have HC := Lib.hid (fun w => openBlock49_ok key nonce extra text w HK.out HNn.out he hs)
  have hSs : (sealB key nonce extra text).size ≤ 100016 := by rw [sealB_size]; omega
  generalize sealB key nonce extra text = S at *
  go_enter Try.func20, Try.ntmps20
  go_wp2_with fail
  refine (lengths47_ok key nonce _ HK.out HNn.out).mono ?_
  rintro e w' ⟨rfl, rfl⟩
  go_wp2_with fail
  refine (HC.out _).mono ?_
  rintro e w' ⟨rfl, hb⟩
  have HB := Lib.hid hb
  clear hb
  go_wp2_with fail
  go_ret2
  exact ⟨rfl, HB.out⟩
/-- the error of SealBlock. -/
def bE (key nonce extra text : ByteArray) : Int := if key.size ≠ 32 ∨ nonce.size ≠ 12 then 6 else if 1048576 < extra.size ∨ 1048576 < text.size then 8 else 0
def BlkPost (key nonce extra text : ByteArray) (w : World) (e : Ending) (w' : World) : Prop :=
  ∃ S, e = .returned (.tuple #[.string S, .int .i64 (bE key nonce extra text)]) ∧ (bE key nonce extra text ≠ 0 → S = ByteArray.empty) ∧ (bE key nonce extra text = 0 → S = sealB key nonce extra text) ∧ Below w.heap.size w w'
theorem sealBlock14 (key nonce extra text : ByteArray) (w : World) (hk : key.size ≤ maxLen) (hn : nonce.size ≤ maxLen) (he : extra.size ≤ maxLen) (ht : text.size ≤ maxLen) :
    Calls Try.prog 14 #[.string key, .string nonce, .string extra, .string text] w (BlkPost key nonce extra text w) := by
  unfold BlkPost
  by_cases h1 : key.size ≠ 32 ∨ nonce.size ≠ 12
  · have e : bE key nonce extra text = 6 := if_pos h1
    rw [e]
    exact (sealBlock14_form key nonce extra text w h1 hk hn).mono fun e w' h => ⟨_, h.1, fun _ => rfl, fun h => absurd h (by decide), by rw [← h.2]; exact Below.refl _ _⟩
  · have hk' : key.size = 32 := by omega
    have hn' : nonce.size = 12 := by omega
    by_cases h3 : 1048576 < extra.size ∨ 1048576 < text.size
    · have e : bE key nonce extra text = 8 := by unfold bE; rw [if_neg h1, if_pos h3]
      rw [e]
      exact (sealBlock14_large key nonce extra text w hk' hn' he ht h3).mono fun e w' h => ⟨_, h.1, fun _ => rfl, fun h => absurd h (by decide), by rw [← h.2]; exact Below.refl _ _⟩
    · have e : bE key nonce extra text = 0 := by unfold bE; rw [if_neg h1, if_neg h3]
      rw [e]
      exact (sealBlock14_ok key nonce extra text w hk' hn' (by omega) (by omega)).mono fun e w' h => ⟨_, h.1, fun h => absurd rfl h, fun _ => rfl, h.2⟩
theorem bE_first (key nonce extra text : ByteArray) (r : Bool) (h : decide (1048576 < extra.size ∨ 1048576 < text.size) = r) :
    firstI [kE key nonce, whenI r 8] = bE key nonce extra text := by
  unfold bE kE whenI
  subst h
  simp only [firstI]
  by_cases a : key.size ≠ 32 ∨ nonce.size ≠ 12
  · simp [a]
  · simp only [if_neg a]
    by_cases d : 1048576 < extra.size ∨ 1048576 < text.size
    · simp [d]
    · simp [d]
end Go.Proofs.Ytnjmcppljbkhnaa
