import Derived.Test.YtnjmcppljbkhnaaYm
import Derived.Test.YtnjmcppljbkhnaaW
import Derived.Test.YtnjmcppljbkhnaaGk
set_option linter.unusedVariables false
set_option linter.unusedSimpArgs false
namespace Go.Proofs.Ytnjmcppljbkhnaa
open Go.RowKit
/-- the error of a key and a nonce. -/
def kE (key nonce : ByteArray) : Int := if key.size ≠ 32 ∨ nonce.size ≠ 12 then 6 else 0
set_option maxHeartbeats 1000000 in
theorem keyError16 (key nonce : ByteArray) (w : World) (hk : key.size ≤ maxLen) (hn : nonce.size ≤ maxLen) :
    Calls Try.prog 16 #[.string key, .string nonce] w fun e w' => e = .returned (.int .i64 (kE key nonce)) ∧ w = w' := by
  unfold maxLen at hk hn
  by_cases h1 : key.size = 32
  · have d1 : ((key.size : Int) != 32) = false := by simp; omega
    by_cases h2 : nonce.size = 12
    · have d2 : ((nonce.size : Int) != 12) = false := by simp; omega
      have HE := Lib.hid (show kE key nonce = 0 from if_neg (by omega))
      have HK1 := Lib.hid h1
      have HK2 := Lib.hid h2
      clear h1 h2
      go_enter Try.func16, Try.ntmps16
      go_wp2_with fail
      refine (when17 false 6 _).mono ?_
      rintro e w' ⟨rfl, rfl⟩
      go_wp2_with fail
      go_ret
      exact ⟨by rw [HE.out]; rfl, rfl⟩
    · have d2 : ((nonce.size : Int) != 12) = true := by simp; omega
      have HE := Lib.hid (show kE key nonce = 6 from if_pos (by omega))
      have HK1 := Lib.hid h1
      have HK2 := Lib.hid h2
      clear h1 h2
      go_enter Try.func16, Try.ntmps16
      go_wp2_with fail
      refine (when17 true 6 _).mono ?_
      rintro e w' ⟨rfl, rfl⟩
      go_wp2_with fail
      go_ret
      exact ⟨by rw [HE.out]; rfl, rfl⟩
  · have d1 : ((key.size : Int) != 32) = true := by simp; omega
    have HE := Lib.hid (show kE key nonce = 6 from if_pos (by omega))
    have HK1 := Lib.hid h1
    clear h1
    go_enter Try.func16, Try.ntmps16
    go_wp2_with fail
    refine (when17 true 6 _).mono ?_
    rintro e w' ⟨rfl, rfl⟩
    go_wp2_with fail
    go_ret
    exact ⟨by rw [HE.out]; rfl, rfl⟩
set_option maxHeartbeats 400000 in
theorem brief18 (s : ByteArray) (w : World) (hs : s.size ≤ maxLen) : Calls Try.prog 18 #[.string s] w fun e w' => e = .returned (.bool (decide (s.size ≤ 10000))) ∧ w = w' := by
  unfold maxLen at hs
  by_cases h : s.size ≤ 10000
  · have HE := Lib.hid (decide_eq_true h)
    have d1 : decide ((s.size : Int) ≤ 10000) = true := decide_eq_true (by omega)
    go_enter Try.func18, Try.ntmps18
    go_wp2_with fail
    go_ret
    exact ⟨by rw [HE.out]; rfl, rfl⟩
  · have HE := Lib.hid (decide_eq_false h)
    have d1 : decide ((s.size : Int) ≤ 10000) = false := decide_eq_false (by omega)
    go_enter Try.func18, Try.ntmps18
    go_wp2_with fail
    go_ret
    exact ⟨by rw [HE.out]; rfl, rfl⟩
theorem first2 (p q : Int) (t : TypeId) (W : World) : Calls Try.prog 15 #[.slice (some ⟨W.heap.size, 0, none⟩) 2 2] (W.alloc (.cells #[.int .i64 p, .int .i64 q] t)) fun e w' => e = .returned (.int .i64 (firstI [p, q])) ∧ Below (W.alloc (.cells #[.int .i64 p, .int .i64 q] t)).heap.size (W.alloc (.cells #[.int .i64 p, .int .i64 q] t)) w' := by
  refine (first15 (some ⟨W.heap.size, 0, none⟩) 2 [p, q] _ (W.heap.size + 1) ?_ (by unfold maxLen; simp)).mono fun e w' h => ⟨h.1, by rw [← h.2]; exact Below.refl _ _⟩
  intro i hi
  have hi' : i = 0 ∨ i = 1 := by simp at hi; omega
  refine ⟨W.heap.size, 0, rfl, by omega, ?_⟩
  rw [Nat.zero_add, (Blk.new W t #[.int .i64 p, .int .i64 q]).cell i]
  rcases hi' with rfl | rfl <;> rfl
/-- the error of Stream, and of Tag. -/
def sE (key nonce : ByteArray) (c : Int) (text : ByteArray) : Int :=
  if key.size ≠ 32 ∨ nonce.size ≠ 12 then 6 else if c < 0 ∨ 4294967295 < c then 7 else if 1048576 < text.size then 8 else if 4294967296 < c + ((text.size : Int) + 63) / 64 then 7 else 0
def tE (key text : ByteArray) : Int := if key.size ≠ 32 then 6 else if 2097152 < text.size then 8 else 0
def StrPost (key nonce : ByteArray) (c : Int) (text : ByteArray) (w : World) (e : Ending) (w' : World) : Prop :=
  ∃ S, e = .returned (.tuple #[.string S, .int .i64 (sE key nonce c text)]) ∧ (sE key nonce c text ≠ 0 → S = ByteArray.empty) ∧ (sE key nonce c text = 0 → S = strmS key nonce c.toNat text) ∧ Below w.heap.size w w'
def TagPost (key text : ByteArray) (w : World) (e : Ending) (w' : World) : Prop :=
  ∃ S, e = .returned (.tuple #[.string S, .int .i64 (tE key text)]) ∧ (tE key text ≠ 0 → S = ByteArray.empty) ∧ (tE key text = 0 → S = tagS key text) ∧ Below w.heap.size w w'
theorem stream22 (key nonce text : ByteArray) (c : Int) (w : World) (hk : key.size ≤ maxLen) (hn : nonce.size ≤ maxLen) (ht : text.size ≤ maxLen) :
    Calls Try.prog 22 #[.string key, .string nonce, .int .i64 c, .string text] w (StrPost key nonce c text w) := by
  unfold StrPost
  by_cases h1 : key.size ≠ 32 ∨ nonce.size ≠ 12
  · have e : sE key nonce c text = 6 := if_pos h1
    rw [e]
    exact (stream22_form key nonce text c w h1 hk hn).mono fun e w' h => ⟨_, h.1, fun _ => rfl, fun h => absurd h (by decide), by rw [← h.2]; exact Below.refl _ _⟩
  · have hk' : key.size = 32 := by omega
    have hn' : nonce.size = 12 := by omega
    by_cases h2 : c < 0 ∨ 4294967295 < c
    · have e : sE key nonce c text = 7 := by unfold sE; rw [if_neg h1, if_pos h2]
      rw [e]
      exact (stream22_range key nonce text c w hk' hn' h2).mono fun e w' h => ⟨_, h.1, fun _ => rfl, fun h => absurd h (by decide), by rw [← h.2]; exact Below.refl _ _⟩
    · obtain ⟨n, rfl⟩ : ∃ n : Nat, c = n := ⟨c.toNat, by omega⟩
      by_cases h3 : 1048576 < text.size
      · have e : sE key nonce n text = 8 := by unfold sE; rw [if_neg h1, if_neg h2, if_pos h3]
        rw [e]
        exact (stream22_large key nonce text n w hk' hn' (by omega) ht h3).mono fun e w' h => ⟨_, h.1, fun _ => rfl, fun h => absurd h (by decide), by rw [← h.2]; exact Below.refl _ _⟩
      · by_cases h4 : 4294967296 < (n : Int) + ((text.size : Int) + 63) / 64
        · have e : sE key nonce n text = 7 := by unfold sE; rw [if_neg h1, if_neg h2, if_neg h3, if_pos h4]
          rw [e]
          exact (stream22_far key nonce text n w hk' hn' (by omega) (by omega) (by omega)).mono fun e w' h => ⟨_, h.1, fun _ => rfl, fun h => absurd h (by decide), by rw [← h.2]; exact Below.refl _ _⟩
        · have e : sE key nonce n text = 0 := by unfold sE; rw [if_neg h1, if_neg h2, if_neg h3, if_neg h4]
          rw [e]
          exact (stream22_ok key nonce text n w hk' hn' (by omega) (by omega) (by omega)).mono fun e w' h => ⟨_, h.1, fun h => absurd rfl h, fun _ => rfl, h.2⟩
theorem tag23 (key text : ByteArray) (w : World) (hk : key.size ≤ maxLen) (ht : text.size ≤ maxLen) :
    Calls Try.prog 23 #[.string key, .string text] w (TagPost key text w) := by
  unfold TagPost
  by_cases h1 : key.size ≠ 32
  · have e : tE key text = 6 := if_pos h1
    rw [e]
    exact (tag23_form key text w h1 hk).mono fun e w' h => ⟨_, h.1, fun _ => rfl, fun h => absurd h (by decide), by rw [← h.2]; exact Below.refl _ _⟩
  · have hk' : key.size = 32 := by omega
    by_cases h3 : 2097152 < text.size
    · have e : tE key text = 8 := by unfold tE; rw [if_neg h1, if_pos h3]
      rw [e]
      exact (tag23_large key text w hk' h3 ht).mono fun e w' h => ⟨_, h.1, fun _ => rfl, fun h => absurd h (by decide), by rw [← h.2]; exact Below.refl _ _⟩
    · have e : tE key text = 0 := by unfold tE; rw [if_neg h1, if_neg h3]
      rw [e]
      exact (tag23_ok key text w hk' (by omega)).mono fun e w' h => ⟨_, h.1, fun h => absurd rfl h, fun _ => rfl, h.2⟩
/-- the errors that the law takes together. -/
theorem sE_first (key nonce : ByteArray) (c : Int) (text : ByteArray) (r1 r2 r3 : Bool) (h1 : (decide (0 ≤ c) && decide (c ≤ 4294967295)) = r1) (h2 : decide ((1048576 : Int) < (text.size : Int)) = r2) (h3 : (0 ≤ c ∧ c ≤ 4294967295) ∧ text.size ≤ 1048576 → decide ((4294967296 : Int) < c + ((text.size : Int) + 63) / 64) = r3) :
    firstI [kE key nonce, whenI (!r1) 7, whenI r2 8, whenI r3 7] = sE key nonce c text := by
  rw [firstI4, firstI3]
  unfold sE kE whenI
  subst h1 h2
  by_cases a : key.size ≠ 32 ∨ nonce.size ≠ 12
  · simp [a]
  · simp only [if_neg a]
    by_cases b : 0 ≤ c ∧ c ≤ 4294967295
    · have b' : ¬ (c < 0 ∨ 4294967295 < c) := by omega
      rw [if_neg b']
      by_cases d : 1048576 < text.size
      · have d' : (1048576 : Int) < (text.size : Int) := by omega
        simp [b, d, d']
      · have d' : ¬ (1048576 : Int) < (text.size : Int) := by omega
        rw [← h3 ⟨b, by omega⟩]
        simp [b, d, d']
    · have b' : c < 0 ∨ 4294967295 < c := by omega
      rw [if_pos b']
      have b2 : (decide (0 ≤ c) && decide (c ≤ 4294967295)) = false := by
        simp; omega
      rw [b2]
      simp
theorem tE_first (key text : ByteArray) (r1 r2 : Bool) (h1 : ((key.size : Int) != 32) = r1) (h2 : decide ((2097152 : Int) < (text.size : Int)) = r2) :
    firstI [whenI r1 6, whenI r2 8] = tE key text := by
  unfold tE whenI
  subst h1 h2
  simp only [firstI]
  by_cases a : key.size = 32
  · have a' : ((key.size : Int) != 32) = false := by simp; omega
    rw [a']
    by_cases d : 2097152 < text.size
    · have d' : (2097152 : Int) < (text.size : Int) := by omega
      simp [a, d, d']
    · have d' : ¬ (2097152 : Int) < (text.size : Int) := by omega
      simp [a, d, d']
  · have a' : ((key.size : Int) != 32) = true := by simp; omega
    rw [a']
    simp [a]
end Go.Proofs.Ytnjmcppljbkhnaa
