import Derived.Test.YtnjmcppljbkhnaaN
set_option linter.unusedVariables false
set_option linter.unusedSimpArgs false
namespace Go.Proofs.Ytnjmcppljbkhnaa
open Go.RowKit

set_option maxRecDepth 100000 in
set_option maxHeartbeats 1000000 in
theorem stream22_ok (key nonce text : ByteArray) (c : Nat) (w : World) (hk : key.size = 32) (hn : nonce.size = 12) (hc : c < 4294967296) (hs : text.size ≤ 1048576) (hsum : c + (text.size + 63) / 64 ≤ 4294967296) :
    Calls Try.prog 22 #[.string key, .string nonce, .int .i64 c, .string text] w fun e w' => e = .returned (.tuple #[.string (strmS key nonce c text), .int .i64 0]) ∧ Below w.heap.size w w' := by
  have HK := Lib.hid hk
  have HNn := Lib.hid hn
  clear hk hn
  have HC := Lib.hid (stream53 key nonce text c w HK.out HNn.out hc (by omega))
  generalize strmS key nonce c text = S at *
  have k1 : ¬ (c : Int) < 0 := by omega
  have k2 : ¬ (4294967295 : Int) < (c : Int) := by omega
  have k3 : ¬ (1048576 : Int) < (text.size : Int) := by omega
  have k4 : ¬ (4294967296 : Int) < (c : Int) + ((text.size : Int) + 63) / 64 := by omega
  go_enter Try.func22, Try.ntmps22
  go_wp2_with fail
  refine (lengths47_ok key nonce _ HK.out HNn.out).mono ?_
  rintro e w' ⟨rfl, rfl⟩
  go_wp2_with fail
  refine HC.out.mono ?_
  rintro e w' ⟨rfl, hb⟩
  have HB := Lib.hid hb
  clear hb
  go_wp2_with fail
  go_ret2
  exact ⟨rfl, HB.out⟩
set_option maxHeartbeats 1000000 in
theorem stream22_form (key nonce text : ByteArray) (c : Int) (w : World) (h : key.size ≠ 32 ∨ nonce.size ≠ 12) (hk : key.size ≤ maxLen) (hn : nonce.size ≤ maxLen) :
    Calls Try.prog 22 #[.string key, .string nonce, .int .i64 c, .string text] w fun e w' => e = .returned (.tuple #[.string ByteArray.empty, .int .i64 6]) ∧ w = w' := by
  have HC := Lib.hid (lengths47_no key nonce w h hk hn)
  clear h
  go_enter Try.func22, Try.ntmps22
  go_wp2_with fail
  refine HC.out.mono ?_
  rintro e w' ⟨rfl, rfl⟩
  go_wp2_with fail
  go_ret2
  exact ⟨rfl, rfl⟩
set_option maxHeartbeats 1000000 in
theorem stream22_range (key nonce text : ByteArray) (c : Int) (w : World) (hk : key.size = 32) (hn : nonce.size = 12) (h : c < 0 ∨ 4294967295 < c) :
    Calls Try.prog 22 #[.string key, .string nonce, .int .i64 c, .string text] w fun e w' => e = .returned (.tuple #[.string ByteArray.empty, .int .i64 7]) ∧ w = w' := by
  have HK := Lib.hid hk
  have HNn := Lib.hid hn
  clear hk hn
  rcases h with h | h
  · go_enter Try.func22, Try.ntmps22
    go_wp2_with fail
    refine (lengths47_ok key nonce _ HK.out HNn.out).mono ?_
    rintro e w' ⟨rfl, rfl⟩
    go_wp2_with fail
    go_ret2
    exact ⟨rfl, rfl⟩
  · have h2 : ¬ c < 0 := by omega
    go_enter Try.func22, Try.ntmps22
    go_wp2_with fail
    refine (lengths47_ok key nonce _ HK.out HNn.out).mono ?_
    rintro e w' ⟨rfl, rfl⟩
    go_wp2_with fail
    go_ret2
    exact ⟨rfl, rfl⟩
set_option maxHeartbeats 1000000 in
theorem stream22_large (key nonce text : ByteArray) (c : Nat) (w : World) (hk : key.size = 32) (hn : nonce.size = 12) (hc : c < 4294967296) (hm : text.size ≤ maxLen) (h : 1048576 < text.size) :
    Calls Try.prog 22 #[.string key, .string nonce, .int .i64 c, .string text] w fun e w' => e = .returned (.tuple #[.string ByteArray.empty, .int .i64 8]) ∧ w = w' := by
  have HK := Lib.hid hk
  have HNn := Lib.hid hn
  clear hk hn
  unfold maxLen at hm
  have k1 : ¬ (c : Int) < 0 := by omega
  have k2 : ¬ (4294967295 : Int) < (c : Int) := by omega
  have k3 : (1048576 : Int) < (text.size : Int) := by omega
  go_enter Try.func22, Try.ntmps22
  go_wp2_with fail
  refine (lengths47_ok key nonce _ HK.out HNn.out).mono ?_
  rintro e w' ⟨rfl, rfl⟩
  go_wp2_with fail
  go_ret2
  exact ⟨rfl, rfl⟩
set_option maxHeartbeats 1000000 in
theorem stream22_far (key nonce text : ByteArray) (c : Nat) (w : World) (hk : key.size = 32) (hn : nonce.size = 12) (hc : c < 4294967296) (hs : text.size ≤ 1048576) (hsum : 4294967296 < c + (text.size + 63) / 64) :
    Calls Try.prog 22 #[.string key, .string nonce, .int .i64 c, .string text] w fun e w' => e = .returned (.tuple #[.string ByteArray.empty, .int .i64 7]) ∧ w = w' := by
  have HK := Lib.hid hk
  have HNn := Lib.hid hn
  clear hk hn
  have k1 : ¬ (c : Int) < 0 := by omega
  have k2 : ¬ (4294967295 : Int) < (c : Int) := by omega
  have k3 : ¬ (1048576 : Int) < (text.size : Int) := by omega
  have k4 : (4294967296 : Int) < (c : Int) + ((text.size : Int) + 63) / 64 := by omega
  go_enter Try.func22, Try.ntmps22
  go_wp2_with fail
  refine (lengths47_ok key nonce _ HK.out HNn.out).mono ?_
  rintro e w' ⟨rfl, rfl⟩
  go_wp2_with fail
  go_ret2
  exact ⟨rfl, rfl⟩
end Go.Proofs.Ytnjmcppljbkhnaa
