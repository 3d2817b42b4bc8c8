import Derived.Test.YtnjmcppljbkhnaaO
set_option linter.unusedVariables false
set_option linter.unusedSimpArgs false
namespace Go.Proofs.Ytnjmcppljbkhnaa
open Go.RowKit

def tagB (key nonce extra sealed : ByteArray) : ByteArray := strB 16 (bytesN (btag key nonce extra sealed))
def sealB (key nonce extra text : ByteArray) : ByteArray := strmS key nonce 1 text ++ tagB key nonce extra (strmS key nonce 1 text)
theorem strmS_size (key nonce : ByteArray) (c : Nat) (text : ByteArray) : (strmS key nonce c text).size = text.size := strB_size _ _
theorem sealB_size (key nonce extra text : ByteArray) : (sealB key nonce extra text).size = text.size + 16 := by
  unfold sealB tagB
  rw [ByteArray.size_append, strmS_size, strB_size]
theorem zero16L : row8 16 (fun _ => 0) = #[.int .u8 0, .int .u8 0, .int .u8 0, .int .u8 0, .int .u8 0, .int .u8 0, .int .u8 0, .int .u8 0, .int .u8 0, .int .u8 0, .int .u8 0, .int .u8 0, .int .u8 0, .int .u8 0, .int .u8 0, .int .u8 0] := by simp [row8, List.range, List.range.loop]

set_option maxRecDepth 100000 in
set_option maxHeartbeats 1000000 in
theorem sealBlock48 (key nonce extra text : ByteArray) (w : World) (hk : key.size = 32) (hn : nonce.size = 12) (he : extra.size ≤ 1099511627776) (hs : text.size ≤ 1099511627776) :
    Calls Try.prog 48 #[.string key, .string nonce, .string extra, .string text] w fun e w' => e = .returned (.string (sealB key nonce extra text)) ∧ Below w.heap.size w w' := by
  have HK := Lib.hid hk
  have HNn := Lib.hid hn
  clear hk hn
  go_enter Try.func48, Try.ntmps48
  go_wp2_with fail
  refine (stream53 key nonce text 1 _ HK.out HNn.out (by decide) (by omega)).mono ?_
  rintro e w1 ⟨rfl, b1⟩
  have HB1 := Lib.hid b1
  clear b1
  obtain ⟨S, hS⟩ : ∃ S, S = strmS key nonce 1 text := ⟨_, rfl⟩
  rw [← hS]
  have HSS := Lib.hid (show S.size ≤ 1099511627776 from by rw [hS, strmS_size]; exact hs)
  have HS := Lib.hid hS
  clear hS
  go_wp2_with fail
  refine (blockTag80 key nonce extra S _ HK.out HNn.out he HSS.out).mono ?_
  rintro e w2 ⟨rfl, b2⟩
  have HB2 := Lib.hid b2
  clear b2
  obtain ⟨F, hF⟩ : ∃ F, F = bytesN (btag key nonce extra S) := ⟨_, rfl⟩
  rw [← hF]
  have HE := Lib.hid (show S ++ strB 16 F = sealB key nonce extra text from by unfold sealB tagB; rw [hF, ← HS.out])
  clear hF
  have hnew := Blk.new w2 86 (row8 16 fun _ => 0)
  rw [zero16L] at hnew
  have HN := Lib.hid hnew
  clear hnew
  have hb : Blk ((w2.alloc (.cells #[.int .u8 0, .int .u8 0, .int .u8 0, .int .u8 0, .int .u8 0, .int .u8 0, .int .u8 0, .int .u8 0, .int .u8 0, .int .u8 0, .int .u8 0, .int .u8 0, .int .u8 0, .int .u8 0, .int .u8 0, .int .u8 0] 86)).setRow w2.heap.size (row8 16 F)) w2.heap.size 86 (row8 16 F) := setRow_heap _ _ _ _ _ _ HN.out
  have HB := Lib.hid (below_step HB2.out (Nat.le_refl _) (below_setRow (g := w2.heap.size) (cs := row8 16 F) ((Below.refl w2.heap.size w2).alloc (Nat.le_refl _) (.cells #[.int .u8 0, .int .u8 0, .int .u8 0, .int .u8 0, .int .u8 0, .int .u8 0, .int .u8 0, .int .u8 0, .int .u8 0, .int .u8 0, .int .u8 0, .int .u8 0, .int .u8 0, .int .u8 0, .int .u8 0, .int .u8 0] 86)) (Nat.le_refl _)))
  clear HB2
  have hcv := fun cap => conv_row hb 0 16 (by omega) cap
  have e0 : (fun i => F (0 + i)) = F := by funext i; rw [Nat.zero_add]
  rw [e0] at hcv
  clear e0 hb
  have hl0 := HSS.out
  have hl1 : (strB 16 F).size ≤ 16 := by rw [strB_size]; exact Nat.le_refl _
  have hl2 : S.size + (strB 16 F).size ≤ 9223372036854775807 := by omega
  go_wp2_with (refine wpList_store_row rfl 86 _ _ rfl w2.heap.size (row8 16 F) rfl rfl 86 _ HN.out (info86 _) (by rw [row8_size]; rfl) (row8_all _ _) ?_)
  go_ret
  exact ⟨by rw [← HE.out]; rfl, below_step HB1.out (Nat.le_refl _) HB.out⟩

set_option maxRecDepth 100000 in
set_option maxHeartbeats 1000000 in
theorem sealBlock14_ok (key nonce extra text : ByteArray) (w : World) (hk : key.size = 32) (hn : nonce.size = 12) (he : extra.size ≤ 1048576) (hs : text.size ≤ 1048576) :
    Calls Try.prog 14 #[.string key, .string nonce, .string extra, .string text] w fun e w' => e = .returned (.tuple #[.string (sealB key nonce extra text), .int .i64 0]) ∧ Below w.heap.size w w' := by
  have HK := Lib.hid hk
  have HNn := Lib.hid hn
  clear hk hn
  have HC := Lib.hid (sealBlock48 key nonce extra text w HK.out HNn.out (by omega) (by omega))
  generalize sealB key nonce extra text = S at *
  go_enter Try.func14, Try.ntmps14
  go_wp2_with fail
  refine (lengths47_ok key nonce _ HK.out HNn.out).mono ?_
  rintro e w' ⟨rfl, rfl⟩
  go_wp2_with fail
  refine HC.out.mono ?_
  rintro e w' ⟨rfl, hb⟩
  have HB := Lib.hid hb
  clear hb
  go_wp2_with fail
  go_ret2
  exact ⟨rfl, HB.out⟩
set_option maxHeartbeats 1000000 in
theorem sealBlock14_form (key nonce extra text : ByteArray) (w : World) (h : key.size ≠ 32 ∨ nonce.size ≠ 12) (hk : key.size ≤ maxLen) (hn : nonce.size ≤ maxLen) :
    Calls Try.prog 14 #[.string key, .string nonce, .string extra, .string text] w fun e w' => e = .returned (.tuple #[.string ByteArray.empty, .int .i64 6]) ∧ w = w' := by
  have HC := Lib.hid (lengths47_no key nonce w h hk hn)
  clear h
  go_enter Try.func14, Try.ntmps14
  go_wp2_with fail
  refine HC.out.mono ?_
  rintro e w' ⟨rfl, rfl⟩
  go_wp2_with fail
  go_ret2
  exact ⟨rfl, rfl⟩
set_option maxHeartbeats 1000000 in
theorem sealBlock14_large (key nonce extra text : ByteArray) (w : World) (hk : key.size = 32) (hn : nonce.size = 12) (he : extra.size ≤ maxLen) (hs : text.size ≤ maxLen) (h : 1048576 < extra.size ∨ 1048576 < text.size) :
    Calls Try.prog 14 #[.string key, .string nonce, .string extra, .string text] w fun e w' => e = .returned (.tuple #[.string ByteArray.empty, .int .i64 8]) ∧ w = w' := by
  have HK := Lib.hid hk
  have HNn := Lib.hid hn
  clear hk hn
  unfold maxLen at he hs
  by_cases h1 : 1048576 < extra.size
  · clear h
    go_enter Try.func14, Try.ntmps14
    go_wp2_with fail
    refine (lengths47_ok key nonce _ HK.out HNn.out).mono ?_
    rintro e w' ⟨rfl, rfl⟩
    go_wp2_with fail
    go_ret2
    exact ⟨rfl, rfl⟩
  · have h2 : 1048576 < text.size := by omega
    clear h
    go_enter Try.func14, Try.ntmps14
    go_wp2_with fail
    refine (lengths47_ok key nonce _ HK.out HNn.out).mono ?_
    rintro e w' ⟨rfl, rfl⟩
    go_wp2_with fail
    go_ret2
    exact ⟨rfl, rfl⟩

def sealsKey : ByteArray := ⟨(List.replicate 32 107).toArray⟩
def sealsNonce : ByteArray := ⟨(List.replicate 12 110).toArray⟩
theorem repeat_one (x : UInt8) (n : Nat) : Lib.repeatL [x] n = List.replicate n x := by
  induction n with
  | zero => rfl
  | succ n ih => rw [Lib.repeatL, ih]; rfl
theorem rep46 (x : UInt8) (n : Nat) (I : Int) (hI : I = n) (hn : n ≤ 1000) (w : World) : Calls Try.prog 46 #[.string ⟨#[x]⟩, .int .i64 I] w fun e w' => e = .returned (.string ⟨(List.replicate n x).toArray⟩) ∧ Below w.heap.size w w' := by
  subst hI
  have h := Try.strings_Repeat ⟨#[x]⟩ n w (by omega) (by show 1 * n ≤ _; omega)
  have e : Lib.repeatL (⟨#[x]⟩ : ByteArray).data.toList n = List.replicate n x := repeat_one x n
  rw [e] at h
  exact h
set_option maxHeartbeats 1000000 in
theorem seals13 (w : World) : Calls Try.prog 13 #[] w fun e w' => e = .returned (.bool true) ∧ Below w.heap.size w w' := by
  go_enter Try.func13, Try.ntmps13
  go_wp2_with fail
  refine (rep46 107 32 32 rfl (by decide) _).mono ?_
  rintro e w1 ⟨rfl, b1⟩
  have HB1 := Lib.hid b1
  clear b1
  obtain ⟨K, hK⟩ : ∃ K : ByteArray, K = ⟨(List.replicate 32 107).toArray⟩ := ⟨_, rfl⟩
  rw [← hK]
  have HK := Lib.hid (show K.size = 32 from by rw [hK]; rfl)
  clear hK
  go_wp2_with fail
  refine (rep46 110 12 12 rfl (by decide) _).mono ?_
  rintro e w2 ⟨rfl, b2⟩
  have HB2 := Lib.hid b2
  clear b2
  obtain ⟨N, hN⟩ : ∃ N : ByteArray, N = ⟨(List.replicate 12 110).toArray⟩ := ⟨_, rfl⟩
  rw [← hN]
  have HN := Lib.hid (show N.size = 12 from by rw [hN]; rfl)
  clear hN
  go_wp2_with fail
  refine (sealBlock14_ok K N _ _ _ HK.out HN.out (by decide) (by decide)).mono ?_
  rintro e w3 ⟨rfl, b3⟩
  have HB3 := Lib.hid b3
  clear b3
  have hsz := sealB_size K N ⟨#[]⟩ ⟨#[116, 101, 120, 116]⟩
  generalize sealB K N ⟨#[]⟩ ⟨#[116, 101, 120, 116]⟩ = S at *
  have hs2 : ((S.size : Int) == 20) = true := by rw [hsz]; rfl
  clear hsz
  go_wp2_with fail
  go_ret
  exact ⟨rfl, below_step (below_step HB1.out (Nat.le_refl _) HB2.out) (Nat.le_refl _) HB3.out⟩
end Go.Proofs.Ytnjmcppljbkhnaa
