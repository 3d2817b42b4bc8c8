import Derived.Test.YtobiacdeoeogaaaGreatDoorX
set_option linter.unusedVariables false
set_option linter.unusedSimpArgs false
namespace Go.Proofs.YtobiacdeoeogaaaGreatDoor
open Go.RowKit
set_option maxRecDepth 100000 in
set_option maxHeartbeats 4000000 in
theorem baseBits_ok (w : World) : Calls Tryz.prog 74 #[.int .i64 16] w fun e w' => e = .returned (.int .i64 4) ∧ w' = w := by
  go_enter Tryz.func74, Tryz.ntmps74
  go_wp2_with fail
  go_ret
  exact ⟨rfl, rfl⟩
set_option maxRecDepth 100000 in
set_option maxHeartbeats 4000000 in
theorem baseDigits_ok (w : World) : Calls Tryz.prog 105 #[.int .i64 16] w fun e w' => e = .returned (.string ⟨#[48, 49, 50, 51, 52, 53, 54, 55, 56, 57, 97, 98, 99, 100, 101, 102]⟩) ∧ w' = w := by
  go_enter Tryz.func105, Tryz.ntmps105
  go_wp2_with fail
  go_ret
  exact ⟨rfl, rfl⟩
theorem hexIxI (n : Nat) (h : n < 16) (w : World) : (Instr.index 9 (.string ⟨#[48, 49, 50, 51, 52, 53, 54, 55, 56, 57, 97, 98, 99, 100, 101, 102]⟩) (.int .i64 (n : Int))).run Tryz.prog w = .ok (.int .u8 ((hdig n).toNat : Int)) w := by
  have : n = 0 ∨ n = 1 ∨ n = 2 ∨ n = 3 ∨ n = 4 ∨ n = 5 ∨ n = 6 ∨ n = 7 ∨ n = 8 ∨ n = 9 ∨ n = 10 ∨ n = 11 ∨ n = 12 ∨ n = 13 ∨ n = 14 ∨ n = 15 := by omega
  rcases this with rfl | rfl | rfl | rfl | rfl | rfl | rfl | rfl | rfl | rfl | rfl | rfl | rfl | rfl | rfl | rfl
  all_goals (refine (?_ : _ = _); kernel_rfl)
theorem hdig_ne : ∀ d k : Fin 16, d ≠ k → (hdig d).toNat ≠ (hdig k).toNat := by decide
theorem hdig_low : ∀ d k : Fin 16, 97 ≤ (hdig k).toNat → (hdig d).toNat ≠ (hdig k).toNat - 32 := by decide
theorem hdig_lt : ∀ k : Fin 16, (hdig k).toNat < 103 := by decide
/-- a table in which the first k digits of 16 stand. -/
structure DigT (k : Nat) (cs : Array Value) : Prop where
  size : cs.size = 256
  at_ : ∀ d, d < k → cs[(hdig d).toNat]? = some (.int .i64 (d : Nat))
theorem DigT.step {k : Nat} {cs : Array Value} (h : DigT k cs) (hk : k < 16) : DigT (k + 1) (cs.setIfInBounds (hdig k).toNat (.int .i64 (k : Nat))) := by
  have hl := hdig_lt ⟨k, hk⟩
  simp only at hl
  have hs := h.size
  refine ⟨by simp [h.size], fun d hd => ?_⟩
  by_cases e : d = k
  · subst e
    rw [Array.getElem?_setIfInBounds_self_of_lt (by omega)]
  · have hne := hdig_ne ⟨k, hk⟩ ⟨d, by omega⟩ (by intro hh; exact e (Fin.mk.inj hh).symm)
    simp only at hne
    rw [Array.getElem?_setIfInBounds_ne hne]
    exact h.at_ d (by omega)
theorem DigT.low {k n : Nat} {cs : Array Value} (h : DigT n cs) (hn : n ≤ 16) (hk : k < 16) (h97 : 97 ≤ (hdig k).toNat) (u : Value) : DigT n (cs.setIfInBounds ((hdig k).toNat - 32) u) := by
  refine ⟨by simp [h.size], fun d hd => ?_⟩
  have hne := hdig_low ⟨d, by omega⟩ ⟨k, hk⟩ h97
  simp only at hne
  rw [Array.getElem?_setIfInBounds_ne (fun e => hne e.symm)]
  exact h.at_ d hd
theorem get_some {cs : Array Value} {n i : Nat} (h : cs.size = n) (hi : i < n) : ∃ u, cs[i]? = some u := ⟨cs[i]'(by omega), Array.getElem?_eq_getElem (by omega)⟩
set_option maxRecDepth 100000 in
set_option maxHeartbeats 4000000 in
theorem values_ok (w : World) : Calls Tryz.prog 75 #[.int .i64 16] w fun e w' => e = .returned (pt w.heap.size) ∧ (∃ cs, Blk w' w.heap.size 179 cs ∧ DigT 16 cs) ∧ Below w.heap.size w w' := by
  go_enter Tryz.func75, Tryz.ntmps75
  have hz : (Tryz.zeroCells179 : Array Value).size = 256 := by kernel_rfl
  have HZ := Lib.hid (Blk.new w 179 Tryz.zeroCells179)
  have HSZ := Lib.hid hz
  have HB := Lib.hid ((Below.refl w.heap.size w).alloc (Nat.le_refl _) (.cells Tryz.zeroCells179 179))
  clear hz
  go_wp2_with fail
  generalize (w.alloc (.cells Tryz.zeroCells179 179)) = w1 at *
  generalize hvb : w.heap.size = vb at *
  have HVB := Lib.hid hvb
  clear hvb
  go_loopw [8] (fun k wr => ∃ i, ∃ cs, k = .int .i64 (i : Nat) ∧ i ≤ 256 ∧ Blk wr vb 179 cs ∧ cs.size = 256 ∧ Below vb w wr) (fun k _ => 256 - (intOf k).toNat)
  case atStart => exact ⟨0, _, rfl, Nat.zero_le _, HZ.out, HSZ.out, HB.out⟩
  case round =>
    clear HZ HSZ HB
    obtain ⟨i, cs, rfl, hi, hV, hs, hB⟩ := hrel
    have HV := Lib.hid hV
    have HB := Lib.hid hB
    have HS := Lib.hid hs
    by_cases hlt : i < 256
    · have hd : decide ((i : Int) < 256) = true := decide_eq_true (by omega)
      have hd2 : (i : Int) < 256 := by omega
      obtain ⟨u, hu⟩ := get_some hs hlt
      have cv := (hV.cell i).trans hu
      have fv := hV.frozen i
      clear hV hB hs hu
      go_wp2_with fail
      go_roundw
      case rel => exact ⟨i + 1, _, by go_num, by omega, HV.out.set i _, by simp [HS.out], HB.out.setCell (p := ⟨vb, i, none⟩) (Nat.le_refl _) _⟩
      case measure => simp [intOf]; omega
    · have hd : decide ((i : Int) < 256) = false := decide_eq_false (by omega)
      clear hV hB hs
      go_wp2_with fail
      refine (baseDigits_ok _).mono ?_
      rintro e w2 ⟨rfl, rfl⟩
      go_wp2_with fail
      go_loopw [18] (fun k wr => ∃ i, ∃ cs, k = .int .i64 (i : Nat) ∧ i ≤ 16 ∧ Blk wr vb 179 cs ∧ DigT i cs ∧ Below vb w wr) (fun k _ => 16 - (intOf k).toNat)
      case atStart => exact ⟨0, cs, rfl, Nat.zero_le _, HV.out, ⟨HS.out, fun d h => by omega⟩, HB.out⟩
      case round =>
        clear HV HB HS
        obtain ⟨i, cs, rfl, hi, hV, hD, hB⟩ := hrel
        have HV := Lib.hid hV
        have HB := Lib.hid hB
        have HD := Lib.hid hD
        by_cases hlt : i < 16
        · have hd : decide ((i : Int) < 16) = true := decide_eq_true (by omega)
          have hix := hexIxI i hlt
          have hl := hdig_lt ⟨i, hlt⟩
          have HST := Lib.hid (hD.step hlt)
          have HLO := Lib.hid (fun h97 u => (hD.step hlt).low (by omega) hlt h97 u)
          obtain ⟨u, hu⟩ := get_some hD.size (show (hdig i).toNat < 256 by simp only at hl; omega)
          have cv := (hV.cell (hdig i).toNat).trans hu
          have fv := hV.frozen (hdig i).toNat
          simp only at hl
          generalize hc : (hdig i).toNat = c at *
          have HC := Lib.hid hc
          have hc2 : (c : Int) < 256 := by omega
          clear hV hB hD hu hc
          by_cases h97 : 97 ≤ c
          · have h97' : decide ((97 : Int) ≤ (c : Int)) = true := decide_eq_true (by omega)
            obtain ⟨x, hx⟩ : ∃ x, x + 32 = c := ⟨c - 32, by omega⟩
            have HX := Lib.hid hx
            have hx2 : (c : Int) - 97 + 65 = (x : Int) := by omega
            have hx3 : (x : Int) < 256 := by omega
            obtain ⟨u2, hu2⟩ := get_some HST.out.size (show x < 256 by omega)
            have cv2 := ((HV.out.set c (.int .i64 (i : Nat))).cell x).trans hu2
            have fv2 := (HV.out.set c (.int .i64 (i : Nat))).frozen x
            clear hx hu2
            go_wp2_with fail
            go_roundw
            case rel => exact ⟨i + 1, _, by go_num, by omega, (HV.out.set c _).set x _, by rw [show x = c - 32 by have := HX.out; omega]; exact HLO.out h97 _, (HB.out.setCell (p := ⟨vb, c, none⟩) (Nat.le_refl _) _).setCell (p := ⟨vb, x, none⟩) (Nat.le_refl _) _⟩
            case measure => simp [intOf]; omega
          · have h97' : decide ((97 : Int) ≤ (c : Int)) = false := decide_eq_false (by omega)
            go_wp2_with fail
            go_roundw
            case rel => exact ⟨i + 1, _, by go_num, by omega, HV.out.set c _, HST.out, HB.out.setCell (p := ⟨vb, c, none⟩) (Nat.le_refl _) _⟩
            case measure => simp [intOf]; omega
        · have hd : decide ((i : Int) < 16) = false := decide_eq_false (by omega)
          have h16 := Lib.hid (show i = 16 by omega)
          clear hV hB hD
          go_wp2_with fail
          go_ret
          obtain rfl := HVB.out
          exact ⟨rfl, ⟨cs, HV.out, by have := HD.out; rw [h16.out] at this; exact this⟩, HB.out⟩
end Go.Proofs.YtobiacdeoeogaaaGreatDoor
