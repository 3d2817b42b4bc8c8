import Derived.Test.YtoomhlbebifklaaGreatDoorM
import Derived.BigQuiet
set_option linter.unusedVariables false
set_option linter.unusedSimpArgs false
namespace Go.Proofs.YtoomhlbebifklaaGreatDoor
open Go.RowKit
/-- g is the greatest number up to L for which p holds, if p falls once. -/
def GrOut (L : Int) (p : Nat → Bool) (g : Int) : Prop := -1 ≤ g ∧ g ≤ L ∧ (g = -1 ∨ p g.toNat = true) ∧ (g = L ∨ p (g + 1).toNat = false)
theorem GrOut.neg {L : Int} {p : Nat → Bool} {g : Int} (h : GrOut L p g) (hL : 0 ≤ L) (hp : ∀ m n, m ≤ n → p n = true → p m = true) : (g < 0) ↔ p 0 = false := by
  obtain ⟨h1, h2, h3, h4⟩ := h
  constructor
  · intro hg
    obtain rfl : g = -1 := by omega
    rcases h4 with h4 | h4
    · omega
    · exact h4
  · intro h0
    rcases h3 with h3 | h3
    · omega
    · rw [hp 0 _ (Nat.zero_le _) h3] at h0; cases h0
set_option maxRecDepth 100000 in
set_option maxHeartbeats 4000000 in
theorem greatestS_ok (b1 b2 : Nat) (L : Int) (hL0 : 0 ≤ L) (hL1 : L ≤ 1048576) (p : Nat → Bool) (w : World)
    (H : ∀ wx, Below w.heap.size w wx → ∀ n : Nat, (n : Int) ≤ L → Calls Tryz.prog 41 #[.int .i64 (n : Int), pt b1, pt b2] wx fun e w' => e = .returned (.bool (p n)) ∧ Below wx.heap.size wx w') :
    Calls Tryz.prog 40 #[.int .i64 L, .func (.func 41) #[] #[pt b1, pt b2]] w fun e w' => ∃ g : Int, e = .returned (.int .i64 g) ∧ GrOut L p g ∧ Below w.heap.size w w' := by
  have H := Lib.hid H
  go_enter Tryz.func40, Tryz.ntmps40
  go_wp2_with fail
  go_loopw [5, 6] (fun x y wr => ∃ l h : Int, x = .int .i64 l ∧ y = .int .i64 h ∧ -1 ≤ l ∧ l ≤ h ∧ h ≤ L ∧ (l = -1 ∨ p l.toNat = true) ∧ (h = L ∨ p (h + 1).toNat = false) ∧ Below w.heap.size w wr) (fun x y _ => (intOf y - intOf x).toNat)
  case atStart => exact ⟨-1, L, rfl, rfl, by omega, by omega, by omega, Or.inl rfl, Or.inl rfl, Below.refl _ _⟩
  case round =>
    obtain ⟨l, h, rfl, rfl, hl, hlh, hh, hlp, hp, hb⟩ := hrel
    have HB := Lib.hid hb
    have HP := Lib.hid hp
    have HLP := Lib.hid hlp
    clear hb hp hlp
    by_cases hlt : l < h
    · have hd : decide (l < h) = true := decide_eq_true hlt
      obtain ⟨n, hn⟩ : ∃ n : Nat, l + (h - l + 1) / 2 = (n : Int) := ⟨(l + (h - l + 1) / 2).toNat, by omega⟩
      have hn1 : l < (n : Int) := by omega
      have hn2 : (n : Int) ≤ h := by omega
      have C := Lib.hid (H.out _ HB.out n (by omega))
      have hpos : (0 : Int) ≤ h - l + 1 := by omega
      go_wp2_with fail
      refine C.out.mono ?_
      rintro e w1 ⟨rfl, hb1⟩
      have HB1 := Lib.hid (HB.out.trans (hb1.mono HB.out.size))
      clear hb1 HB
      cases hq : p n
      · have HQ := Lib.hid hq
        clear hq C hn
        go_wp2_with fail
        go_roundw
        case rel => exact ⟨l, n - 1, rfl, rfl, by omega, by omega, by omega, HLP.out, Or.inr (by rw [show ((n : Int) - 1 + 1).toNat = n by omega]; exact HQ.out), HB1.out⟩
        case measure => simp [intOf]; omega
      · have HQ := Lib.hid hq
        clear hq C hn
        go_wp2_with fail
        go_roundw
        case rel => exact ⟨n, h, rfl, rfl, by omega, hn2, hh, Or.inr (by rw [show ((n : Int)).toNat = n by omega]; exact HQ.out), HP.out, HB1.out⟩
        case measure => simp [intOf]; omega
    · have hd : decide (l < h) = false := decide_eq_false hlt
      go_wp2_with fail
      go_ret
      obtain rfl : l = h := by omega
      exact ⟨l, rfl, ⟨hl, hh, HLP.out, HP.out⟩, HB.out⟩
set_option maxRecDepth 100000 in
set_option maxHeartbeats 4000000 in
theorem greatestC_ok (b1 : Nat) (L : Int) (hL0 : 0 ≤ L) (hL1 : L ≤ 1048576) (p : Nat → Bool) (w : World)
    (H : ∀ wx, Below w.heap.size w wx → ∀ n : Nat, (n : Int) ≤ L → Calls Tryz.prog 59 #[.int .i64 (n : Int), pt b1] wx fun e w' => e = .returned (.bool (p n)) ∧ Below wx.heap.size wx w') :
    Calls Tryz.prog 40 #[.int .i64 L, .func (.func 59) #[] #[pt b1]] w fun e w' => ∃ g : Int, e = .returned (.int .i64 g) ∧ GrOut L p g ∧ Below w.heap.size w w' := by
  have H := Lib.hid H
  go_enter Tryz.func40, Tryz.ntmps40
  go_wp2_with fail
  go_loopw [5, 6] (fun x y wr => ∃ l h : Int, x = .int .i64 l ∧ y = .int .i64 h ∧ -1 ≤ l ∧ l ≤ h ∧ h ≤ L ∧ (l = -1 ∨ p l.toNat = true) ∧ (h = L ∨ p (h + 1).toNat = false) ∧ Below w.heap.size w wr) (fun x y _ => (intOf y - intOf x).toNat)
  case atStart => exact ⟨-1, L, rfl, rfl, by omega, by omega, by omega, Or.inl rfl, Or.inl rfl, Below.refl _ _⟩
  case round =>
    obtain ⟨l, h, rfl, rfl, hl, hlh, hh, hlp, hp, hb⟩ := hrel
    have HB := Lib.hid hb
    have HP := Lib.hid hp
    have HLP := Lib.hid hlp
    clear hb hp hlp
    by_cases hlt : l < h
    · have hd : decide (l < h) = true := decide_eq_true hlt
      obtain ⟨n, hn⟩ : ∃ n : Nat, l + (h - l + 1) / 2 = (n : Int) := ⟨(l + (h - l + 1) / 2).toNat, by omega⟩
      have hn1 : l < (n : Int) := by omega
      have hn2 : (n : Int) ≤ h := by omega
      have C := Lib.hid (H.out _ HB.out n (by omega))
      have hpos : (0 : Int) ≤ h - l + 1 := by omega
      go_wp2_with fail
      refine C.out.mono ?_
      rintro e w1 ⟨rfl, hb1⟩
      have HB1 := Lib.hid (HB.out.trans (hb1.mono HB.out.size))
      clear hb1 HB
      cases hq : p n
      · have HQ := Lib.hid hq
        clear hq C hn
        go_wp2_with fail
        go_roundw
        case rel => exact ⟨l, n - 1, rfl, rfl, by omega, by omega, by omega, HLP.out, Or.inr (by rw [show ((n : Int) - 1 + 1).toNat = n by omega]; exact HQ.out), HB1.out⟩
        case measure => simp [intOf]; omega
      · have HQ := Lib.hid hq
        clear hq C hn
        go_wp2_with fail
        go_roundw
        case rel => exact ⟨n, h, rfl, rfl, by omega, hn2, hh, Or.inr (by rw [show ((n : Int)).toNat = n by omega]; exact HQ.out), HP.out, HB1.out⟩
        case measure => simp [intOf]; omega
    · have hd : decide (l < h) = false := decide_eq_false hlt
      go_wp2_with fail
      go_ret
      obtain rfl : l = h := by omega
      exact ⟨l, rfl, ⟨hl, hh, HLP.out, HP.out⟩, HB.out⟩
set_option maxRecDepth 100000 in
set_option maxHeartbeats 4000000 in
theorem greatestN_ok (b1 : Nat) (L : Int) (hL0 : 0 ≤ L) (hL1 : L ≤ 1048576) (p : Nat → Bool) (w : World)
    (H : ∀ wx, Below w.heap.size w wx → ∀ n : Nat, (n : Int) ≤ L → Calls Tryz.prog 61 #[.int .i64 (n : Int), pt b1] wx fun e w' => e = .returned (.bool (p n)) ∧ Below wx.heap.size wx w') :
    Calls Tryz.prog 40 #[.int .i64 L, .func (.func 61) #[] #[pt b1]] w fun e w' => ∃ g : Int, e = .returned (.int .i64 g) ∧ GrOut L p g ∧ Below w.heap.size w w' := by
  have H := Lib.hid H
  go_enter Tryz.func40, Tryz.ntmps40
  go_wp2_with fail
  go_loopw [5, 6] (fun x y wr => ∃ l h : Int, x = .int .i64 l ∧ y = .int .i64 h ∧ -1 ≤ l ∧ l ≤ h ∧ h ≤ L ∧ (l = -1 ∨ p l.toNat = true) ∧ (h = L ∨ p (h + 1).toNat = false) ∧ Below w.heap.size w wr) (fun x y _ => (intOf y - intOf x).toNat)
  case atStart => exact ⟨-1, L, rfl, rfl, by omega, by omega, by omega, Or.inl rfl, Or.inl rfl, Below.refl _ _⟩
  case round =>
    obtain ⟨l, h, rfl, rfl, hl, hlh, hh, hlp, hp, hb⟩ := hrel
    have HB := Lib.hid hb
    have HP := Lib.hid hp
    have HLP := Lib.hid hlp
    clear hb hp hlp
    by_cases hlt : l < h
    · have hd : decide (l < h) = true := decide_eq_true hlt
      obtain ⟨n, hn⟩ : ∃ n : Nat, l + (h - l + 1) / 2 = (n : Int) := ⟨(l + (h - l + 1) / 2).toNat, by omega⟩
      have hn1 : l < (n : Int) := by omega
      have hn2 : (n : Int) ≤ h := by omega
      have C := Lib.hid (H.out _ HB.out n (by omega))
      have hpos : (0 : Int) ≤ h - l + 1 := by omega
      go_wp2_with fail
      refine C.out.mono ?_
      rintro e w1 ⟨rfl, hb1⟩
      have HB1 := Lib.hid (HB.out.trans (hb1.mono HB.out.size))
      clear hb1 HB
      cases hq : p n
      · have HQ := Lib.hid hq
        clear hq C hn
        go_wp2_with fail
        go_roundw
        case rel => exact ⟨l, n - 1, rfl, rfl, by omega, by omega, by omega, HLP.out, Or.inr (by rw [show ((n : Int) - 1 + 1).toNat = n by omega]; exact HQ.out), HB1.out⟩
        case measure => simp [intOf]; omega
      · have HQ := Lib.hid hq
        clear hq C hn
        go_wp2_with fail
        go_roundw
        case rel => exact ⟨n, h, rfl, rfl, by omega, hn2, hh, Or.inr (by rw [show ((n : Int)).toNat = n by omega]; exact HQ.out), HP.out, HB1.out⟩
        case measure => simp [intOf]; omega
    · have hd : decide (l < h) = false := decide_eq_false hlt
      go_wp2_with fail
      go_ret
      obtain rfl : l = h := by omega
      exact ⟨l, rfl, ⟨hl, hh, HLP.out, HP.out⟩, HB.out⟩
set_option maxRecDepth 100000 in
set_option maxHeartbeats 4000000 in
theorem blocksOfG_ok (n b : Nat) (w : World) (h : n ≤ 1048576) (h1 : 16 ≤ b) (h2 : b ≤ 16384) : Calls Tryz.prog 42 #[.int .i64 (n : Int), .int .i64 (b : Int)] w fun e w' => e = .returned (.int .i64 (((n + b - 1) / b : Nat) : Int)) ∧ w' = w := by
  have hb0 : (b : Int) ≠ 0 := by omega
  have hb1 : (0 : Int) < (b : Int) := by omega
  go_enter Tryz.func42, Tryz.ntmps42
  go_wp2_with fail
  go_ret
  have e : ((n : Int) + b - 1) / b = (((n + b - 1) / b : Nat) : Int) := by
    rw [Int.natCast_ediv]
    congr 1
    omega
  exact ⟨by rw [← e]; rfl, rfl⟩
/-- whether a text of n bytes can be kept in blocks of b bytes. -/
def sqP (b : Nat) (ms : Int) (n : Nat) : Bool := decide ((n : Int) + 16 + 4 * (((n + b - 1) / b : Nat) : Int) ≤ ms)
theorem sqP_mono (b : Nat) (ms : Int) (m n : Nat) (h : m ≤ n) (hn : sqP b ms n = true) : sqP b ms m = true := by
  unfold sqP at *
  have h1 := of_decide_eq_true hn
  have h2 : (m + b - 1) / b ≤ (n + b - 1) / b := Nat.div_le_div_right (by omega)
  exact decide_eq_true (by omega)
theorem sqP_zero (b : Nat) (ms : Int) (hb : 16 ≤ b) : sqP b ms 0 = decide (16 ≤ ms) := by
  unfold sqP
  rw [show (0 + b - 1) / b = 0 from Nat.div_eq_of_lt (by omega)]
  simp
set_option maxRecDepth 100000 in
set_option maxHeartbeats 4000000 in
theorem holdsS_ok (n b b1 b2 : Nat) (ms : Int) (w : World) (h : n ≤ 1048576) (hb1 : 16 ≤ b) (hb2 : b ≤ 16384) (h1 : w.cell? ⟨b1, 0, none⟩ = some (.int .i64 (b : Int))) (h2 : w.cell? ⟨b2, 0, none⟩ = some (.int .i64 ms)) :
    Calls Tryz.prog 41 #[.int .i64 (n : Int), pt b1, pt b2] w fun e w' => e = .returned (.bool (sqP b ms n)) ∧ Below w.heap.size w w' := by
  have C := Lib.hid (fun wx => blocksOfG_ok n b wx h hb1 hb2)
  have hy : (n + b - 1) / b ≤ 1064960 := Nat.le_trans (Nat.div_le_self _ _) (by omega)
  have E : RowKit.Hid (sqP b ms n = decide ((n : Int) + 16 + 4 * (((n + b - 1) / b : Nat) : Int) ≤ ms)) := Lib.hid rfl
  generalize (n + b - 1) / b = y at *
  go_enter Tryz.func41, Tryz.ntmps41
  go_wp2_with fail
  go_quiet ((go_at_call 42; exact Calls.quiet_of_same (C.out _)))
  go_wp2_with fail
  go_ret
  exact ⟨by rw [E.out]; rfl, ((Kp.refl [] w).drewN nq).below (Nat.le_refl _) (by simp)⟩
end Go.Proofs.YtoomhlbebifklaaGreatDoor
