import Derived.Test.YtpjnjhklkgefcaaGreatDoorM
import Derived.Test.YtpjnjhklkgefcaaGreatDoorShelf
import Derived.BigQuiet
set_option linter.unusedVariables false
set_option linter.unusedSimpArgs false
namespace Go.Proofs.YtpjnjhklkgefcaaGreatDoor
open Go.RowKit
abbrev clo (f b : Nat) : Value := .func (.func f) #[] #[pt b]
set_option maxRecDepth 100000 in
set_option maxHeartbeats 4000000 in
theorem suffixed_ok (s : ByteArray) (w : World) : Calls Tryz.prog 75 #[.string s] w fun e w' => e = .returned (.tuple #[clo 123 w.heap.size, clo 124 w.heap.size]) ∧ Blk w' w.heap.size 9 #[.string s] ∧ Below w.heap.size w w' := by
  go_enter Tryz.func75, Tryz.ntmps75
  go_wp2_with fail
  go_ret2
  exact ⟨rfl, Blk.new _ _ _, by go_grown⟩
set_option maxRecDepth 100000 in
set_option maxHeartbeats 4000000 in
theorem suffixed1_ok (s t : ByteArray) (b : Nat) (w : World) (h : w.cell? ⟨b, 0, none⟩ = some (.string t)) (hl : s.size + t.size ≤ 1000000) : Calls Tryz.prog 123 #[.string s, pt b] w fun e w' => e = .returned (.string (s ++ t)) ∧ w' = w := by
  go_enter Tryz.func123, Tryz.ntmps123
  go_wp2_with fail
  go_ret
  exact ⟨rfl, rfl⟩
set_option maxRecDepth 100000 in
set_option maxHeartbeats 4000000 in
theorem suffixed2_ok (b : Nat) (w : World) (h : w.cell? ⟨b, 0, none⟩ = some (.string ⟨#[46, 119, 122]⟩)) : Calls Tryz.prog 124 #[.string ⟨#[97, 46, 119, 122]⟩, pt b] w fun e w' => e = .returned (.tuple #[.string ⟨#[97]⟩, .bool true]) ∧ w' = w := by
  have HC := Lib.hid (Tryz.strings_CutSuffix ⟨#[97, 46, 119, 122]⟩ ⟨#[46, 119, 122]⟩ w (by decide))
  go_enter Tryz.func124, Tryz.ntmps124
  go_wp2_with fail
  refine HC.out.mono ?_
  rintro e w1 ⟨rfl, rfl⟩
  have e1 : (Lib.trimSuffix (⟨#[97, 46, 119, 122]⟩ : ByteArray).data.toList (⟨#[46, 119, 122]⟩ : ByteArray).data.toList).toArray = #[97] := by decide
  have e2 : Lib.hasSuffix (⟨#[97, 46, 119, 122]⟩ : ByteArray).data.toList (⟨#[46, 119, 122]⟩ : ByteArray).data.toList = true := by decide
  rw [e1, e2]
  clear e1 e2 HC
  go_wp2_with fail
  go_ret2
  exact ⟨rfl, rfl⟩
set_option maxRecDepth 100000 in
set_option maxHeartbeats 4000000 in
theorem blocksOf_ok (n : Nat) (w : World) (h : n ≤ 1048576) : Calls Tryz.prog 73 #[.int .i64 (n : Int), .int .i64 64] w fun e w' => e = .returned (.int .i64 (((n + 63) / 64 : Nat) : Int)) ∧ w' = w := by
  go_enter Tryz.func73, Tryz.ntmps73
  go_wp2_with fail
  go_ret
  have e : ((n : Int) + 64 - 1) / 64 = (((n + 63) / 64 : Nat) : Int) := by omega
  exact ⟨by rw [← e]; rfl, rfl⟩
set_option maxRecDepth 100000 in
set_option maxHeartbeats 4000000 in
theorem holds_ok (n b1 b2 : Nat) (w : World) (h : n ≤ 1048576) (h1 : w.cell? ⟨b1, 0, none⟩ = some (.int .i64 64)) (h2 : w.cell? ⟨b2, 0, none⟩ = some (.int .i64 100000)) :
    Calls Tryz.prog 72 #[.int .i64 (n : Int), pt b1, pt b2] w fun e w' => e = .returned (.bool (decide ((n : Int) + 16 + 4 * (((n + 63) / 64 : Nat) : Int) ≤ 100000))) ∧ Below w.heap.size w w' := by
  have C := Lib.hid (fun wx => blocksOf_ok n wx h)
  have hy : (n + 63) / 64 ≤ 20000 := by omega
  generalize (n + 63) / 64 = y at *
  go_enter Tryz.func72, Tryz.ntmps72
  go_wp2_with fail
  go_quiet ((go_at_call 73; exact Calls.quiet_of_same (C.out _)))
  go_wp2_with fail
  go_ret
  exact ⟨rfl, ((Kp.refl [] w).drewN nq).below (Nat.le_refl _) (by simp)⟩
/-- whether a text of n bytes can be kept. -/
def holdsP (n : Int) : Prop := n + 16 + 4 * ((n + 63) / 64) ≤ 100000
set_option maxRecDepth 100000 in
set_option maxHeartbeats 4000000 in
theorem greatest_ok (b1 b2 : Nat) (w : World) (h1 : w.cell? ⟨b1, 0, none⟩ = some (.int .i64 64)) (h2 : w.cell? ⟨b2, 0, none⟩ = some (.int .i64 100000)) :
    Calls Tryz.prog 71 #[.int .i64 1048576, .func (.func 72) #[] #[pt b1, pt b2]] w fun e w' => ∃ g : Nat, e = .returned (.int .i64 (g : Int)) ∧ 4 ≤ g ∧ g ≤ 1048576 ∧ Below w.heap.size w w' := by
  have H := Lib.hid (fun wx (hb : Below w.heap.size w wx) n (hn : n ≤ 1048576) => holds_ok n b1 b2 wx hn ((hb.cell (World.block_lt_of_cell? _ _ h1)).trans h1) ((hb.cell (World.block_lt_of_cell? _ _ h2)).trans h2))
  clear h1 h2
  go_enter Tryz.func71, Tryz.ntmps71
  go_wp2_with fail
  go_loopw [5, 6] (fun x y wr => ∃ l h : Int, x = .int .i64 l ∧ y = .int .i64 h ∧ -1 ≤ l ∧ l ≤ h ∧ h ≤ 1048576 ∧ (h = 1048576 ∨ ¬ holdsP (h + 1)) ∧ Below w.heap.size w wr) (fun x y _ => (intOf y - intOf x).toNat)
  case atStart => exact ⟨-1, 1048576, rfl, rfl, by omega, by omega, by omega, Or.inl rfl, Below.refl _ _⟩
  case round =>
    obtain ⟨l, h, rfl, rfl, hl, hlh, hh, hp, hb⟩ := hrel
    have HB := Lib.hid hb
    have HP := Lib.hid hp
    clear hb hp
    by_cases hlt : l < h
    · have hd : decide (l < h) = true := decide_eq_true hlt
      obtain ⟨n, hn⟩ : ∃ n : Nat, l + (h - l + 1) / 2 = (n : Int) := ⟨(l + (h - l + 1) / 2).toNat, by omega⟩
      have hn1 : l < (n : Int) := by omega
      have hn2 : (n : Int) ≤ h := by omega
      have C := Lib.hid (H.out _ HB.out n (by omega))
      have hpos : (0 : Int) ≤ h - l + 1 := by omega
      go_wp2_with fail
      refine C.out.mono ?_
      rintro e w1 ⟨rfl, hb1⟩
      have HB1 := Lib.hid (HB.out.trans (hb1.mono HB.out.size))
      clear hb1 HB
      by_cases hq : holdsP n
      · have hq1 : decide ((n : Int) + 16 + 4 * (((n + 63) / 64 : Nat) : Int) ≤ 100000) = true := decide_eq_true (by unfold holdsP at hq; omega)
        rw [hq1]
        clear hq1 hn
        have HQ := Lib.hid hq
        clear hq C
        go_wp2_with fail
        go_roundw
        case rel => exact ⟨n, h, rfl, rfl, by omega, hn2, hh, HP.out, HB1.out⟩
        case measure => simp [intOf]; omega
      · have hq1 : decide ((n : Int) + 16 + 4 * (((n + 63) / 64 : Nat) : Int) ≤ 100000) = false := decide_eq_false (by unfold holdsP at hq; omega)
        rw [hq1]
        clear hq1 hn
        have HQ := Lib.hid hq
        clear hq C
        go_wp2_with fail
        go_roundw
        case rel => exact ⟨l, n - 1, rfl, rfl, by omega, by omega, by omega, Or.inr (by rw [show (n : Int) - 1 + 1 = n by omega]; exact HQ.out), HB1.out⟩
        case measure => simp [intOf]; omega
    · have hd : decide (l < h) = false := decide_eq_false hlt
      go_wp2_with fail
      go_ret
      have hp := HP.out
      have h4 : 4 ≤ l := by
        rcases hp with hp | hp
        · omega
        · unfold holdsP at hp; omega
      refine ⟨l.toNat, ?_, by omega, by omega, HB.out⟩
      rw [show ((l.toNat : Nat) : Int) = l by omega]; rfl
end Go.Proofs.YtpjnjhklkgefcaaGreatDoor
