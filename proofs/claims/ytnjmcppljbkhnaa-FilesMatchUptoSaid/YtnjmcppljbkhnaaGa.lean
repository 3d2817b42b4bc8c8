import Derived.Test.YtnjmcppljbkhnaaA
import Derived.Test.YtnjmcppljbkhnaaGf
import Derived.LoopTactic
set_option linter.unusedVariables false
set_option linter.unusedSimpArgs false
namespace Go.Proofs.Ytnjmcppljbkhnaa
open Go.RowKit

theorem xt_hi : ∀ a, a < 256 → 128 ≤ a → (2 * a % 256) ^^^ 27 = xt a := by decide +kernel
theorem xt_lo : ∀ a, a < 256 → a < 128 → 2 * a = xt a := by decide +kernel
theorem tmN_zero (n a : Nat) : tmN n a 0 = 0 := by
  induction n generalizing a with
  | zero => rfl
  | succ n ih => simp [tmN, ih]
theorem and128 : ∀ a, a < 256 → a &&& 128 = if 128 ≤ a then 128 else 0 := by decide +kernel
theorem wraps_i64 (n : Int) (h₀ : 0 ≤ n) (h₁ : n < 2 ^ 63) : IntKind.i64.wrap n = n := by rw [IntKind.wrap_i64]; omega
theorem i64_and_nat (a b : Nat) (ha : a < 9223372036854775808) (hb : b < 9223372036854775808) : bits .and .i64 (a : Int) (b : Int) = ((a &&& b : Nat) : Int) :=
  (bits_nat .i64 63 (by decide) wraps_i64 a b ha hb).1
theorem i64_xor_nat (a b : Nat) (ha : a < 9223372036854775808) (hb : b < 9223372036854775808) : bits .xor .i64 (a : Int) (b : Int) = ((a ^^^ b : Nat) : Int) := by
  have hx : a ^^^ b < 2 ^ 63 := Nat.xor_lt_two_pow ha hb
  show IntKind.i64.wrap ((BitVec.ofInt 64 (a : Int) ^^^ BitVec.ofInt 64 (b : Int)).toNat : Nat) = _
  rw [BitVec.toNat_xor, BitVec.ofInt_natCast, BitVec.ofInt_natCast, BitVec.toNat_ofNat, BitVec.toNat_ofNat, Nat.mod_eq_of_lt (by omega), Nat.mod_eq_of_lt (by omega)]
  exact wraps_i64 _ (Int.natCast_nonneg _) (by omega)
def TmRel (a b : Nat) (o x y : Value) : Prop := ∃ m o' a' b' : Nat, m ≤ 8 ∧ b' < 2 ^ m ∧ a' < 256 ∧ o' < 256 ∧ b' < 256 ∧ o = .int .u8 o' ∧ x = .int .u8 a' ∧ y = .int .u8 b' ∧ o' ^^^ tmN m a' b' = tm a b
theorem TmRel.step {a b m o' a' b' : Nat} (hm : m ≤ 8) (hb' : b' < 2 ^ m) (ha' : a' < 256) (ho' : o' < 256) (h8 : b' < 256) (h0 : 0 < b') (hv : o' ^^^ tmN m a' b' = tm a b) (O X : Nat) (hO : O = o' ^^^ (b' % 2) * a') (hX : X = xt a') {o x y : Value} (eo : o = .int .u8 O) (ex : x = .int .u8 X) (ey : y = .int .u8 ((b' : Int) / 2)) : TmRel a b o x y := by
  obtain ⟨n, rfl⟩ : ∃ n, m = n + 1 := by
    cases m with
    | zero => simp at hb'; omega
    | succ n => exact ⟨n, rfl⟩
  subst hO hX eo ex ey
  have hp : (b' % 2) * a' < 256 := by
    have : b' % 2 = 0 ∨ b' % 2 = 1 := by omega
    rcases this with h | h <;> rw [h] <;> omega
  refine ⟨n, _, _, b' / 2, by omega, ?_, xt_lt ha', xor_lt ho' hp, by omega, rfl, rfl, by simp, ?_⟩
  · rw [Nat.pow_succ] at hb'; omega
  · rw [← hv, Nat.xor_assoc]; rfl
set_option maxHeartbeats 1000000 in
theorem times64 (a b : Nat) (w : World) (ha : a < 256) (hb : b < 256) : Calls Try.prog 64 #[.int .u8 a, .int .u8 b] w fun e w' => e = .returned (.int .u8 (tm a b : Nat)) ∧ w = w' := by
  go_enter Try.func64, Try.ntmps64
  go_wp2
  go_loop [0, 1, 5] (fun x y o => TmRel a b o x y) (fun _ y _ => (intOf y).toNat)
  case atStart => exact ⟨8, 0, a, b, Nat.le_refl _, hb, ha, by decide, hb, rfl, rfl, rfl, by simp [tm]⟩
  case round =>
    obtain ⟨m, o', a', b', hm, hb', ha', ho', h8, rfl, rfl, rfl, hv⟩ := hrel
    have HV := Lib.hid hv
    have HB := Lib.hid hb'
    clear hv hb'
    by_cases h0 : 0 < b'
    · have x1 := u8_xor_nat o' a' ho' ha'
      have e4 : bits BinOp.and IntKind.u8 (b' : Int) 1 = ((b' % 2 : Nat) : Int) := by
        have := u8_and_nat b' 1 (by omega) (by decide)
        rw [Nat.and_one_is_mod] at this
        exact this
      have e5 : bits BinOp.and IntKind.u8 (a' : Int) 128 = (((if 128 ≤ a' then 128 else 0) : Nat) : Int) := by
        rw [← and128 a' ha']; exact u8_and_nat a' 128 ha' (by decide)
      have hp : b' % 2 = 1 ∨ b' % 2 = 0 := by omega
      by_cases hh : 128 ≤ a'
      · rw [if_pos hh] at e5
        have x2 : bits BinOp.xor IntKind.u8 ((a' : Int) * 2 % 256) 27 = ((xt a' : Nat) : Int) := by
          rw [← xt_hi a' ha' hh]
          have := u8_xor_nat (2 * a' % 256) 27 (by omega) (by decide)
          rw [← this]
          congr 1
          omega
        have HX := Lib.hid (show xt a' = xt a' from rfl)
        rcases hp with hp | hp
        · have HP := Lib.hid hp
          rw [hp] at e4
          clear hp
          go_wp2
          go_round
          case rel => exact TmRel.step hm HB.out ha' ho' h8 h0 HV.out _ _ (by rw [HP.out, Nat.one_mul]) rfl rfl rfl rfl
          case measure => simp [intOf]; omega
        · have HP := Lib.hid hp
          rw [hp] at e4
          clear hp
          go_wp2
          go_round
          case rel => exact TmRel.step hm HB.out ha' ho' h8 h0 HV.out _ _ (by rw [HP.out, Nat.zero_mul, Nat.xor_zero]) rfl rfl rfl rfl
          case measure => simp [intOf]; omega
      · rw [if_neg hh] at e5
        have x2 : (a' : Int) * 2 = ((xt a' : Nat) : Int) := by
          rw [← xt_lo a' ha' (by omega)]; omega
        rcases hp with hp | hp
        · have HP := Lib.hid hp
          rw [hp] at e4
          clear hp
          go_wp2
          go_round
          case rel => exact TmRel.step hm HB.out ha' ho' h8 h0 HV.out _ _ (by rw [HP.out, Nat.one_mul]) rfl rfl rfl rfl
          case measure => simp [intOf]; omega
        · have HP := Lib.hid hp
          rw [hp] at e4
          clear hp
          go_wp2
          go_round
          case rel => exact TmRel.step hm HB.out ha' ho' h8 h0 HV.out _ _ (by rw [HP.out, Nat.zero_mul, Nat.xor_zero]) rfl rfl rfl rfl
          case measure => simp [intOf]; omega
    · obtain rfl : b' = 0 := by omega
      have HO := Lib.hid (show o' = tm a b from by rw [← HV.out, tmN_zero, Nat.xor_zero])
      go_wp2
      go_ret
      exact ⟨by rw [← HO.out]; rfl, rfl⟩

set_option maxHeartbeats 1000000 in
theorem inverse107 (a : Nat) (w : World) (ha : a < 256) : Calls Try.prog 107 #[.int .u8 a] w fun e w' => e = .returned (.int .u8 (inv a : Nat)) ∧ w = w' := by
  go_enter Try.func107, Try.ntmps107
  go_wp2
  go_loop [0, 3, 4] (fun x o n => ∃ k a' o' n' : Nat, k ≤ 8 ∧ n' < 2 ^ k ∧ a' < 256 ∧ o' < 256 ∧ n' < 256 ∧ x = .int .u8 a' ∧ o = .int .u8 o' ∧ n = .int .i64 n' ∧ invN k n' o' a' = inv a) (fun _ _ n => (intOf n).toNat)
  case atStart => exact ⟨8, a, 1, 254, by omega, by decide, ha, by decide, by decide, rfl, rfl, rfl, rfl⟩
  case round =>
    obtain ⟨k, a', o', n', hk, hn2, ha', ho', hn, rfl, rfl, rfl, hv⟩ := hrel
    by_cases h0 : 0 < n'
    · obtain ⟨k, rfl⟩ : ∃ q, k = q + 1 := by
        cases k with
        | zero => simp at hn2; omega
        | succ q => exact ⟨q, rfl⟩
      have HN := Lib.hid (show n' / 2 < 2 ^ k from by rw [Nat.pow_succ] at hn2; omega)
      have hv2 : invN k (n' / 2) (if n' % 2 = 1 then tm o' a' else o') (tm a' a') = inv a := by
        rw [← hv]; simp [invN, h0]
      have HV := Lib.hid hv2
      have HL1 := Lib.hid (tm_lt (b := a') ha')
      have HL2 := Lib.hid (tm_lt (b := a') ho')
      clear hn2 hv hv2
      have e4 : bits BinOp.and IntKind.i64 (n' : Int) 1 = ((n' % 2 : Nat) : Int) := by
        have := i64_and_nat n' 1 (by omega) (by decide)
        rw [Nat.and_one_is_mod] at this
        exact this
      have C1 := Lib.hid (fun w => times64 o' a' w ho' ha')
      have C2 := Lib.hid (fun w => times64 a' a' w ha' ha')
      generalize tm a' a' = S at *
      generalize tm o' a' = M at *
      have hp : n' % 2 = 1 ∨ n' % 2 = 0 := by omega
      rcases hp with hp | hp
      · have HV2 := Lib.hid (show invN k (n' / 2) M S = inv a from by have h := HV.out; rw [if_pos hp] at h; exact h)
        rw [hp] at e4
        clear hp
        go_wp2_with fail
        refine (C1.out _).mono ?_
        rintro e w' ⟨rfl, rfl⟩
        go_wp2_with fail
        refine (C2.out _).mono ?_
        rintro e w' ⟨rfl, rfl⟩
        go_wp2_with fail
        go_round
        case rel => exact ⟨k, S, M, n' / 2, by omega, HN.out, HL1.out, HL2.out, by omega, rfl, rfl, by simp, HV2.out⟩
        case measure => simp [intOf]; omega
      · have HV2 := Lib.hid (show invN k (n' / 2) o' S = inv a from by have h := HV.out; rw [if_neg (by omega)] at h; exact h)
        rw [hp] at e4
        clear hp
        go_wp2_with fail
        refine (C2.out _).mono ?_
        rintro e w' ⟨rfl, rfl⟩
        go_wp2_with fail
        go_round
        case rel => exact ⟨k, S, o', n' / 2, by omega, HN.out, HL1.out, ho', by omega, rfl, rfl, by simp, HV2.out⟩
        case measure => simp [intOf]; omega
    · obtain rfl : n' = 0 := by omega
      have HO := Lib.hid (show o' = inv a from by rw [← hv]; cases k <;> simp [invN])
      clear hv hn2
      go_wp2
      go_ret
      exact ⟨by rw [← HO.out]; rfl, rfl⟩

/-- the product without reduction. -/
def clN (a b : Nat) : Nat → Nat
  | 0 => 0
  | i + 1 => clN a b i ^^^ (b / 2 ^ i % 2) * (a * 2 ^ i)
/-- the reduction, from bit i on downwards. -/
def rd1 (i x : Nat) : Nat := x ^^^ (x / 2 ^ i % 2) * (283 * 2 ^ (i - 8))
def rdN (x : Nat) : Nat → Nat
  | 0 => x
  | k + 1 => rd1 (14 - k) (rdN x k)
theorem xor_div_pow (a b n : Nat) : (a ^^^ b) / 2 ^ n = (a / 2 ^ n) ^^^ (b / 2 ^ n) := by
  have := Nat.shiftRight_xor_distrib (a := a) (b := b) (i := n)
  simpa only [Nat.shiftRight_eq_div_pow] using this
theorem xor_mul_pow (a b n : Nat) : (a ^^^ b) * 2 ^ n = (a * 2 ^ n) ^^^ (b * 2 ^ n) := by
  have := Nat.shiftLeft_xor_distrib (a := a) (b := b) (i := n)
  simpa only [Nat.shiftLeft_eq] using this
theorem bit_mul_xor (x m n : Nat) (hx : x < 2) : x * (m ^^^ n) = (x * m) ^^^ (x * n) := by
  have hx' : x = 0 ∨ x = 1 := by omega
  rcases hx' with rfl | rfl <;> simp
theorem clN_left (a a' b k : Nat) : clN (a ^^^ a') b k = clN a b k ^^^ clN a' b k := by
  induction k with
  | zero => simp [clN]
  | succ k ih => simp only [clN]; rw [ih, xor_mul_pow, bit_mul_xor _ _ _ (Nat.mod_lt _ (by decide)), xor4]
theorem clN_right (a b b' k : Nat) : clN a (b ^^^ b') k = clN a b k ^^^ clN a b' k := by
  induction k with
  | zero => simp [clN]
  | succ k ih => simp only [clN]; rw [ih, xor_div_pow, xor_mod_two', bit_xor _ _ _ (Nat.mod_lt _ (by decide)) (Nat.mod_lt _ (by decide)), xor4]
theorem rd1_xor (i x y : Nat) : rd1 i (x ^^^ y) = rd1 i x ^^^ rd1 i y := by
  unfold rd1
  rw [xor_div_pow, xor_mod_two', bit_xor _ _ _ (Nat.mod_lt _ (by decide)) (Nat.mod_lt _ (by decide)), xor4]
theorem rdN_xor (x y k : Nat) : rdN (x ^^^ y) k = rdN x k ^^^ rdN y k := by
  induction k with
  | zero => rfl
  | succ k ih => simp only [rdN]; rw [ih, rd1_xor]
theorem field_eq (a b : Nat) (ha : a < 256) (hb : b < 256) : rdN (clN a b 8) 7 = tm a b := by
  have hd : ∀ i, i < 8 → ∀ j, j < 8 → rdN (clN (2 ^ i) (2 ^ j) 8) 7 = tm (2 ^ i) (2 ^ j) := by decide +kernel
  refine add_ext (fun x => rdN (clN x b 8) 7) (fun x => tm x b) (fun x y => by simp only [clN_left, rdN_xor]) (fun x y => tm_xor_left x y b) (fun i hi => ?_) a ha
  exact add_ext (fun y => rdN (clN (2 ^ i) y 8) 7) (fun y => tm (2 ^ i) y) (fun x y => by simp only [clN_right, rdN_xor]) (fun x y => tm_xor_right _ x y) (fun j hj => hd i hi j hj) b hb
theorem clN_lt (a b k : Nat) (ha : a < 256) (hk : k ≤ 8) : clN a b k < 65536 := by
  induction k with
  | zero => simp [clN]
  | succ k ih =>
    simp only [clN]
    refine Nat.xor_lt_two_pow (n := 16) (ih (by omega)) ?_
    have h2 : 2 ^ k ≤ 2 ^ 7 := Nat.pow_le_pow_right (by decide) (by omega)
    have h3 : a * 2 ^ k ≤ 255 * 2 ^ 7 := Nat.mul_le_mul (by omega) h2
    have h4 : b / 2 ^ k % 2 = 0 ∨ b / 2 ^ k % 2 = 1 := by omega
    rcases h4 with h | h <;> rw [h] <;> omega
theorem rdN_lt (x k : Nat) (hx : x < 65536) (hk : k ≤ 7) : rdN x k < 65536 := by
  induction k with
  | zero => exact hx
  | succ k ih =>
    simp only [rdN, rd1]
    refine Nat.xor_lt_two_pow (n := 16) (ih (by omega)) ?_
    have h2 : 2 ^ (14 - k - 8) ≤ 2 ^ 6 := Nat.pow_le_pow_right (by decide) (by omega)
    have h3 : 283 * 2 ^ (14 - k - 8) ≤ 283 * 2 ^ 6 := Nat.mul_le_mul (Nat.le_refl _) h2
    have h4 : rdN x k / 2 ^ (14 - k) % 2 = 0 ∨ rdN x k / 2 ^ (14 - k) % 2 = 1 := by omega
    rcases h4 with h | h <;> rw [h] <;> omega
theorem bit_and (x k : Nat) (hx : x < 9223372036854775808) : bits BinOp.and IntKind.i64 ((x : Int) / 2 ^ k) 1 = ((x / 2 ^ k % 2 : Nat) : Int) := by
  have h := i64_and_nat (x / 2 ^ k) 1 (Nat.lt_of_le_of_lt (Nat.div_le_self _ _) hx) (by decide)
  rw [Nat.and_one_is_mod] at h
  rw [← h]
  congr 1
set_option maxHeartbeats 1000000 in
theorem timesField65 (a b : Nat) (w : World) (ha : a < 256) (hb : b < 256) : Calls Try.prog 65 #[.int .i64 a, .int .i64 b] w fun e w' => e = .returned (.int .i64 (tm a b : Nat)) ∧ w = w' := by
  go_enter Try.func65, Try.ntmps65
  go_wp2
  go_loop [5, 8] (fun o iv => ∃ k : Nat, k ≤ 8 ∧ iv = .int .i64 k ∧ o = .int .i64 (clN a b k : Nat)) (fun _ iv => 8 - (intOf iv).toNat)
  case atStart => exact ⟨0, by omega, rfl, rfl⟩
  case round =>
    obtain ⟨k, hk, rfl, rfl⟩ := hrel
    by_cases h0 : k < 8
    · have hbit := bit_and b k (by omega)
      have h2 : 2 ^ k ≤ 2 ^ 7 := Nat.pow_le_pow_right (by decide) (by omega)
      have h3 : a * 2 ^ k ≤ 255 * 2 ^ 7 := Nat.mul_le_mul (by omega) h2
      have hc := clN_lt a b k ha (by omega)
      have hs : clN a b (k + 1) = clN a b k ^^^ (b / 2 ^ k % 2) * (a * 2 ^ k) := rfl
      have hx := i64_xor_nat (clN a b k) (a * 2 ^ k) (by omega) (by omega)
      have ew : IntKind.i64.wrap ((a : Int) * 2 ^ k) = ((a * 2 ^ k : Nat) : Int) := by
        rw [IntWalk.i64_in]
        · simp
        · have : ((a : Int) * 2 ^ k) = ((a * 2 ^ k : Nat) : Int) := by simp
          rw [this]; omega
      have h4 : b / 2 ^ k % 2 = 1 ∨ b / 2 ^ k % 2 = 0 := by omega
      clear h2 h3
      generalize a * 2 ^ k = A at *
      rcases h4 with h | h
      · have HS := Lib.hid (show clN a b (k + 1) = clN a b k ^^^ A from by rw [hs, h, Nat.one_mul])
        rw [h] at hbit
        clear hs h
        generalize clN a b k = c at *
        go_wp2
        go_round
        case rel => exact ⟨k + 1, by omega, by go_num, by rw [HS.out]⟩
        case measure => simp [intOf]; omega
      · have HS := Lib.hid (show clN a b (k + 1) = clN a b k from by rw [hs, h, Nat.zero_mul, Nat.xor_zero])
        rw [h] at hbit
        clear hs h
        generalize clN a b k = c at *
        go_wp2
        go_round
        case rel => exact ⟨k + 1, by omega, by go_num, by rw [HS.out]⟩
        case measure => simp [intOf]; omega
    · obtain rfl : k = 8 := by omega
      have HF := Lib.hid (field_eq a b ha hb)
      have hl := clN_lt a b 8 ha (Nat.le_refl _)
      generalize clN a b 8 = C at *
      go_wp2
      go_loop [5, 7] (fun o iv => ∃ k : Nat, k ≤ 7 ∧ iv = .int .i64 (14 - k : Int) ∧ o = .int .i64 (rdN C k : Nat)) (fun _ iv => (intOf iv).toNat)
      case atStart => exact ⟨0, by omega, rfl, rfl⟩
      case round =>
        obtain ⟨k, hk, rfl, rfl⟩ := hrel
        by_cases h1 : k < 7
        · have hbit := bit_and (rdN C k) (14 - k) (by have := rdN_lt C k hl (by omega); omega)
          have h2 : 2 ^ (14 - k - 8) ≤ 2 ^ 6 := Nat.pow_le_pow_right (by decide) (by omega)
          have h3 : 283 * 2 ^ (14 - k - 8) ≤ 283 * 2 ^ 6 := Nat.mul_le_mul (Nat.le_refl _) h2
          have hc := rdN_lt C k hl (by omega)
          have hs : rdN C (k + 1) = rdN C k ^^^ (rdN C k / 2 ^ (14 - k) % 2) * (283 * 2 ^ (14 - k - 8)) := rfl
          have hx := i64_xor_nat (rdN C k) (283 * 2 ^ (14 - k - 8)) (by omega) (by omega)
          have ew : IntKind.i64.wrap ((283 : Int) * 2 ^ (14 - k - 8)) = ((283 * 2 ^ (14 - k - 8) : Nat) : Int) := by
            have e : ((283 : Int) * 2 ^ (14 - k - 8)) = ((283 * 2 ^ (14 - k - 8) : Nat) : Int) := by simp
            rw [e]
            exact IntWalk.i64_in _ (by omega)
          have ew2 : Go.RowKit.wrap64 ((283 : Int) * 2 ^ (14 - k - 8)) = ((283 * 2 ^ (14 - k - 8) : Nat) : Int) := by rw [← IntWalk.i64_left]; exact ew
          have h4 : rdN C k / 2 ^ (14 - k) % 2 = 1 ∨ rdN C k / 2 ^ (14 - k) % 2 = 0 := by omega
          clear h2 h3
          generalize 283 * 2 ^ (14 - k - 8) = A at *
          rcases h4 with h | h
          · have HS := Lib.hid (show rdN C (k + 1) = rdN C k ^^^ A from by rw [hs, h, Nat.one_mul])
            rw [h] at hbit
            clear hs h
            generalize rdN C k = c at *
            go_wp2
            go_round
            case rel => exact ⟨k + 1, by omega, by rw [show (14 : Int) - (k : Int) - 1 = 14 - ((k + 1 : Nat) : Int) by omega], by rw [HS.out]⟩
            case measure => simp [intOf]; omega
          · have HS := Lib.hid (show rdN C (k + 1) = rdN C k from by rw [hs, h, Nat.zero_mul, Nat.xor_zero])
            rw [h] at hbit
            clear hs h
            generalize rdN C k = c at *
            go_wp2
            go_round
            case rel => exact ⟨k + 1, by omega, by rw [show (14 : Int) - (k : Int) - 1 = 14 - ((k + 1 : Nat) : Int) by omega], by rw [HS.out]⟩
            case measure => simp [intOf]; omega
        · obtain rfl : k = 7 := by omega
          go_wp2
          go_ret
          exact ⟨by rw [← HF.out]; rfl, rfl⟩
set_option maxRecDepth 100000 in
set_option maxHeartbeats 1000000 in
theorem refInverse91 (a : Nat) (w : World) (ha : a < 256) (h0 : 0 < a) : Calls Try.prog 91 #[.int .i64 a] w fun e w' => e = .returned (.int .i64 (inv a : Nat)) ∧ w = w' := by
  have hi := inv_lt a ha
  have HU := Lib.hid (fun k hk2 h1 => inv_unique a k ha hk2 h0 h1)
  have HT := Lib.hid (tm_inv a ha h0)
  generalize inv a = V at *
  go_enter Try.func91, Try.ntmps91
  go_wp2
  go_loop [4] (fun iv => ∃ k : Nat, k ≤ V ∧ iv = .int .i64 k) (fun iv => 256 - (intOf iv).toNat)
  case atStart => exact ⟨0, by omega, rfl⟩
  case round =>
    obtain ⟨k, hk, rfl⟩ := hrel
    have hk2 : k < 256 := by omega
    have C := Lib.hid (fun w => timesField65 a k w ha hk2)
    by_cases h1 : tm a k = 1
    · have HE := Lib.hid (HU.out k hk2 h1)
      generalize tm a k = T at *
      subst h1
      go_wp2_with (go_at_call 65; refine (C.out _).mono ?_; rintro e w' ⟨rfl, rfl⟩)
      go_ret
      exact ⟨by rw [← HE.out]; rfl, rfl⟩
    · have hne : k ≠ V := fun e => h1 (by rw [e]; exact HT.out)
      have he1 : (((tm a k : Nat) : Int) == 1) = false := by simp; omega
      have HL := Lib.hid (show k < V by omega)
      clear h1 hne
      generalize tm a k = T at *
      go_wp2_with (go_at_call 65; refine (C.out _).mono ?_; rintro e w' ⟨rfl, rfl⟩)
      go_round
      case rel => exact ⟨k + 1, HL.out, by go_num⟩
      case measure => simp [intOf]; omega
end Go.Proofs.Ytnjmcppljbkhnaa
