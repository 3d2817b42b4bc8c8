import Derived.Test.YtnjmcppljbkhnaaGc
set_option linter.unusedVariables false
set_option linter.unusedSimpArgs false
namespace Go.Proofs.Ytnjmcppljbkhnaa
open Go.RowKit

theorem to_quiet {P : Program} {f : FuncId} {args : Array Value} {w : World} {v : Value} (h : Calls P f args w fun e w' => e = .returned v ∧ w = w') : Calls P f args w fun e w' => e = .returned v ∧ ∃ n, w' = w.drewN n :=
  h.mono fun e w' ⟨h1, h2⟩ => ⟨h1, 0, by rw [← h2]; rfl⟩
theorem quiet_left {P : Program} {f : FuncId} {args : Array Value} {w : World} {n : Nat} {v : Value}
    (h : Calls P f args (w.drewN n) fun e w' => e = .returned v ∧ w.drewN n = w') : Calls P f args (w.drewN n) fun e w'' => e = .returned v ∧ ∃ m, w'' = w.drewN m :=
  h.mono fun _ _ ⟨he, hm⟩ => ⟨he, n, hm.symm⟩
def tT (X : Nat → Nat) (D : Nat → ByteArray) (i at' j k : Nat) : Nat := tK X (fun t => at8 (D t) j) i at' k
theorem tT_succ (X : Nat → Nat) (D : Nat → ByteArray) (i at' j k : Nat) : tT X D i at' j (k + 1) = if k = i then tT X D i at' j k else tm (tT X D i at' j k) (tm (at' ^^^ X k) (inv (X i ^^^ X k))) := rfl
theorem tT_end (X : Nat → Nat) (D : Nat → ByteArray) (i at' j k : Nat) (hX : ∀ i, X i < 256) (ha : at' < 256) : tT X D i at' j k = tm (wK X i at' k) (at8 (D i) j) :=
  tK_eq X _ i at' k hX (fun t => at8_lt _ _) ha
theorem tT_lt (X : Nat → Nat) (D : Nat → ByteArray) (i at' j k : Nat) (hX : ∀ i, X i < 256) (ha : at' < 256) : tT X D i at' j k < 256 := by
  rw [tT_end X D i at' j k hX ha]; exact tm_lt (wK_lt X i at' k hX ha)
theorem SRow.drewN {w : World} {B : Nat} {a : Option Addr} {n : Nat} {X : Nat → Nat} {D : Nat → ByteArray} (h : SRow w B a n X D) (q : Nat) : SRow (w.drewN q) B a n X D := h

set_option maxRecDepth 100000 in
set_option maxHeartbeats 2000000 in
theorem refValueAt63 (a : Option Addr) (ca len n m : Nat) (X : Nat → Nat) (D : Nat → ByteArray) (at' j : Nat) (w : World) (B : Nat) (hx : SRow w B a len X D) (hX : ∀ i, X i < 256) (ha : at' < 256) (hn : n ≤ 255) (hln : n ≤ len) (hlen : len ≤ maxLen) (hm : j < m) (hm2 : m ≤ 1099511627776) (hD : ∀ i, i < n → (D i).size = m) (hI : ∀ i k, i < n → k < n → X i = X k → i = k) :
    Calls Try.prog 63 #[.slice a len ca, .int .i64 n, .int .i64 j, .int .i64 at'] w fun e w' => e = .returned (.int .i64 (vB X D n at' n j : Nat)) ∧ ∃ q, w' = w.drewN q := by
  have HX := Lib.hid hx
  have HL := Lib.hid hX
  have HD := Lib.hid hD
  have HI := Lib.hid hI
  unfold maxLen at hlen
  clear hx hX hD hI
  go_enter Try.func63, Try.ntmps63
  go_wp2_with fail
  go_loopw [9, 14] (fun sv iv wr => ∃ i : Nat, i ≤ n ∧ iv = .int .i64 i ∧ sv = .int .i64 (vB X D n at' i j : Nat) ∧ ∃ q, wr = w.drewN q) (fun _ iv _ => n - (intOf iv).toNat)
  case atStart => exact ⟨0, by omega, rfl, rfl, 0, rfl⟩
  case round =>
    obtain ⟨i, hi, rfl, rfl, q, hq⟩ := hrel
    have HQ := Lib.hid hq
    have HXR := Lib.hid (show SRow wr B a len X D from by rw [hq]; exact HX.out.drewN q)
    clear hq
    by_cases hlt : i < n
    · have hd : decide ((i : Int) < (n : Int)) = true := decide_eq_true (by omega)
      obtain ⟨b, off, rfl, hbB, c0, c1⟩ := HXR.out i (by omega)
      have hi1 : (i : Int) < (len : Int) := by omega
      have hj2 : j < (D i).size := by rw [HD.out i hlt]; exact hm
      have hj3 : (j : Int) < ((D i).size : Int) := by omega
      have e8 := at8_get (D i) j hj2
      have HAL := Lib.hid (at8_lt (D i) j)
      have HA := Lib.hid (show tT X D i at' j 0 = at8 (D i) j from rfl)
      generalize at8 (D i) j = A at *
      have HAL2 := HAL.out
      go_wp2_with fail
      clear c0 c1 hd e8
      go_loopw [11, 26] (fun tv kv wr => ∃ k : Nat, k ≤ n ∧ kv = .int .i64 k ∧ tv = .int .i64 (tT X D i at' j k : Nat) ∧ ∃ q, wr = w.drewN q) (fun _ kv _ => n - (intOf kv).toNat)
      case atStart => exact ⟨0, by omega, rfl, by rw [HA.out], q, HQ.out⟩
      case round =>
        clear HQ HXR
        obtain ⟨k, hk, rfl, rfl, q, hq⟩ := hrel
        have HQ := Lib.hid hq
        have HXR := Lib.hid (show SRow wr B (some ⟨b, off, none⟩) len X D from by rw [hq]; exact HX.out.drewN q)
        clear hq
        by_cases hlk : k < n
        · have hd : decide ((k : Int) < (n : Int)) = true := decide_eq_true (by omega)
          have hs := tT_succ X D i at' j k
          by_cases hne : k = i
          · have hq : (((k : Nat) : Int) == (i : Int)) = true := by rw [hne]; simp
            have hq2 : (((k : Nat) : Int) != (i : Int)) = false := by rw [hne]; simp
            have HE := Lib.hid (hs.trans (if_pos hne))
            clear hne hs
            go_wp2_with fail
            go_roundw
            case rel => exact ⟨k + 1, by omega, by go_num, by rw [HE.out], _, HQ.out⟩
            case measure => simp [intOf]; omega
          · have hq : (((k : Nat) : Int) == (i : Int)) = false := by simp; omega
            have hq2 : (((k : Nat) : Int) != (i : Int)) = true := by simp; omega
            have HE := Lib.hid (hs.trans (if_neg hne))
            have hxp := xor_pos (fun e => hne (HI.out i k hlt hlk e).symm)
            obtain ⟨b', off', e', hbB', c0, c1⟩ := HXR.out k (by omega)
            cases e'
            obtain ⟨b', off', e', hbB'', d0, d1⟩ := HXR.out i (by omega)
            cases e'
            have hk1 : (k : Int) < (len : Int) := by omega
            have hi2 : (i : Int) < (len : Int) := by omega
            have hk256 := HL.out k
            have hi256 := HL.out i
            have x1 := i64_xor_nat at' (X k) (by omega) (by omega)
            have x2 := i64_xor_nat (X i) (X k) (by omega) (by omega)
            have HB1 := Lib.hid (xor_lt ha hk256)
            have HB2 := Lib.hid (xor_lt hi256 hk256)
            have HB3 := Lib.hid (tT_lt X D i at' j k HL.out ha)
            have CI := Lib.hid (fun w => refInverse91 (X i ^^^ X k) w HB2.out hxp)
            have HVL := Lib.hid (inv_lt (X i ^^^ X k) HB2.out)
            generalize inv (X i ^^^ X k) = V at *
            have C1 := Lib.hid (fun w => timesField65 (at' ^^^ X k) V w HB1.out HVL.out)
            have HTL := Lib.hid (tm_lt (b := V) HB1.out)
            generalize tm (at' ^^^ X k) V = T at *
            have C2 := Lib.hid (fun w => timesField65 (tT X D i at' j k) T w HB3.out HTL.out)
            generalize tm (tT X D i at' j k) T = R2 at *
            generalize tT X D i at' j k = U at *
            clear hs hne hxp
            go_wp2_with fail
            go_quiet ((first | (go_at_call 91; exact quiet_left (CI.out _)) | (go_at_call_of 65 (Value.int IntKind.i64 ((at' ^^^ X k : Nat) : Int)); exact quiet_left (C1.out _)) | (go_at_call 65; exact quiet_left (C2.out _))))
            go_wp2_with fail
            go_roundw
            case rel => exact ⟨k + 1, by omega, by go_num, by rw [HE.out], _, by rw [HQ.out, World.drewN_drewN]⟩
            case measure => simp [intOf]; omega
        · have hd : decide ((k : Int) < (n : Int)) = false := decide_eq_false (by omega)
          obtain rfl : k = n := by omega
          have HE := Lib.hid (show vB X D k at' (i + 1) j = vB X D k at' i j ^^^ tT X D i at' j k from by rw [vB_succ, tT_end X D i at' j k HL.out ha])
          have HTL := tT_lt X D i at' j k HL.out ha
          have HVL := vB_lt X D k at' i j HL.out ha
          have x1 := i64_xor_nat (vB X D k at' i j) (tT X D i at' j k) (by omega) (by omega)
          generalize tT X D i at' j k = U at *
          generalize vB X D k at' i j = V at *
          go_wp2_with fail
          go_roundw
          case rel => exact ⟨i + 1, by omega, by go_num, by rw [HE.out], _, HQ.out⟩
          case measure => simp [intOf]; omega
    · have hd : decide ((i : Int) < (n : Int)) = false := decide_eq_false (by omega)
      obtain rfl : i = n := by omega
      go_wp2_with fail
      go_ret
      exact ⟨rfl, _, HQ.out⟩
end Go.Proofs.Ytnjmcppljbkhnaa
