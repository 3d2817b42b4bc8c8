import Derived.Test.YtdfloglicjocbaaRa
import Derived.IntWalk
namespace Go.Proofs.Ytdfloglicjocbaa
open Go.RowKit

def rateBadsZero (xs : List (Int × Int)) (k : Nat) : Prop := ∀ i, i < k → rateBad xs i = 0
theorem rateBads_succ {xs : List (Int × Int)} {k : Nat} (h : rateBadsZero xs k) (h' : rateBad xs k = 0) : rateBadsZero xs (k + 1) := by
  intro i hi
  by_cases hik : i = k
  · subst hik; exact h'
  · exact h i (by omega)
theorem ratesE_at (xs : List (Int × Int)) (k : Nat) (h0 : ¬ xs.length = 0) (h1 : ¬ 24 < xs.length) (hk : k < xs.length) (h : rateBadsZero xs k) (hb : ¬ rateBad xs k = 0) : ratesE xs = rateBad xs k := by
  unfold ratesE
  rw [if_neg h0, if_neg h1]
  rw [firstI_take_succ ((List.range xs.length).map (rateBad xs)) k (by simpa using hk) (fun i hi => ?_) (by simpa using hb)]
  · simp
  · have : i < xs.length := by omega
    simpa [this] using h i hi
theorem ratesE_none (xs : List (Int × Int)) (h0 : ¬ xs.length = 0) (h1 : ¬ 24 < xs.length) (h : rateBadsZero xs xs.length) : ratesE xs = 0 := by
  unfold ratesE
  rw [if_neg h0, if_neg h1]
  refine firstI_zero _ fun i hi => ?_
  have hi' : i < xs.length := by simpa using hi
  simpa [hi'] using h i hi'

set_option maxHeartbeats 1000000 in
set_option maxRecDepth 100000 in
theorem checkRates24 (a : Option Addr) (ca : Nat) (xs : List (Int × Int)) (w : World) (B : Nat) (hB : B ≤ w.heap.size) (hx : Row2 w B a xs) (lx : xs.length ≤ maxLen) :
    Calls Try.prog 24 #[.slice a xs.length ca] w fun e w' => e = .returned (.int .i64 (ratesE xs)) ∧ Below w.heap.size w w' := by
  unfold maxLen at lx
  have HX := Lib.hid hx
  clear hx
  by_cases h0 : xs.length = 0
  · have hE : ratesE xs = 21 := by simp [ratesE, h0]
    have h0' : ((xs.length : Int) == 0) = true := beq_iff_eq.2 (by omega)
    rw [hE]
    clear h0 hE
    go_enter Try.func24, Try.ntmps24
    go_wp2
    go_ret
    exact ⟨rfl, Below.refl _ _⟩
  · have h0' : ((xs.length : Int) == 0) = false := beq_eq_false_iff_ne.2 (by omega)
    by_cases h1 : 24 < xs.length
    · have hE : ratesE xs = 8 := by simp [ratesE, h0, h1]
      rw [hE]
      clear h0 hE
      go_enter Try.func24, Try.ntmps24
      go_wp2
      go_ret
      exact ⟨rfl, Below.refl _ _⟩
    · go_enter Try.func24, Try.ntmps24
      go_wp2
      go_loopw [13] (fun i wr => ∃ k : Nat, k ≤ xs.length ∧ i = .int .i64 k ∧ Below w.heap.size w wr ∧ rateBadsZero xs k) (fun i _ => xs.length - (intOf i).toNat)
      case atStart => exact ⟨0, by omega, rfl, Below.refl _ _, fun i hi => by omega⟩
      case round =>
        obtain ⟨k, hk, rfl, hbel, hz⟩ := hrel
        by_cases hlt : k < xs.length
        · obtain ⟨bx, ox, rfl, hb, c0, c1⟩ := (HX.out.below (hbel.mono hB)) k hlt
          have hbad : rateBad xs k = if fromAt xs k < 0 ∨ 86399 < fromAt xs k ∨ byteAt xs k < -1 ∨ 1000000000 < byteAt xs k then 7 else if (k = 0 ∧ fromAt xs k ≠ 0) ∨ (0 < k ∧ fromAt xs k ≤ fromAt xs (k - 1)) then 10 else 0 := rfl
          change wr.cell? _ = some (.int .i64 (fromAt xs k)) at c0
          change wr.cell? _ = some (.int .i64 (byteAt xs k)) at c1
          generalize fromAt xs k = F at *
          generalize byteAt xs k = Y at *
          have HBD := Lib.hid hbad
          have HZ := Lib.hid hz
          have HBel := Lib.hid hbel
          have hsz := hbel.size
          clear hbad hz hbel
          by_cases b7 : F < 0 ∨ 86399 < F ∨ Y < -1 ∨ 1000000000 < Y
          · have h7 : rateBad xs k = 7 := by rw [HBD.out, if_pos b7]
            have HE := Lib.hid ((ratesE_at xs k h0 h1 hlt HZ.out (by rw [h7]; decide)).trans h7)
            clear h7
            by_cases q1 : F < 0
            · clear b7
              go_wp2
              go_ret
              exact ⟨ret_int HE.out.symm, HBel.out.alloc hsz _⟩
            · by_cases q2 : 86399 < F
              · clear b7
                go_wp2
                go_ret
                exact ⟨ret_int HE.out.symm, HBel.out.alloc hsz _⟩
              · by_cases q3 : Y < -1
                · clear b7
                  go_wp2
                  go_ret
                  exact ⟨ret_int HE.out.symm, HBel.out.alloc hsz _⟩
                · have q4 : 1000000000 < Y := by omega
                  clear b7
                  go_wp2
                  go_ret
                  exact ⟨ret_int HE.out.symm, HBel.out.alloc hsz _⟩
          · obtain ⟨q1, q2, q3, q4⟩ : 0 ≤ F ∧ F ≤ 86399 ∧ -1 ≤ Y ∧ Y ≤ 1000000000 := by omega
            have hR : rateBad xs k = if (k = 0 ∧ F ≠ 0) ∨ (0 < k ∧ F ≤ fromAt xs (k - 1)) then 10 else 0 := by rw [HBD.out, if_neg b7]
            clear HBD b7
            by_cases hk0 : k = 0
            · have hkb : ((k : Int) == 0) = true := beq_iff_eq.2 (by omega)
              have hkd : decide ((0 : Int) < (k : Int)) = false := decide_eq_false (by omega)
              have hkd2 : decide (0 < k) = false := decide_eq_false (by omega)
              by_cases hF : F = 0
              · have H7 := Lib.hid (show rateBad xs k = 0 by rw [hR, if_neg (by omega)])
                have hFb : (F != 0) = false := by simp [hF]
                subst hF
                clear hR hk0
                go_wp2
                go_quiet (fail)
                go_wp2
                go_roundw
                case rel => exact ⟨k + 1, by omega, by go_num, below_drewN (HBel.out.alloc hsz _) _, rateBads_succ HZ.out H7.out⟩
                case measure => simp [intOf]; omega
              · have h7 : rateBad xs k = 10 := by rw [hR, if_pos (.inl ⟨hk0, hF⟩)]
                have HE := Lib.hid ((ratesE_at xs k h0 h1 hlt HZ.out (by rw [h7]; decide)).trans h7)
                have hFb : (F != 0) = true := by simp [hF]
                clear hR h7 hF hk0
                go_wp2
                go_quiet (fail)
                go_wp2
                go_ret
                exact ⟨ret_int HE.out.symm, below_drewN (HBel.out.alloc hsz _) _⟩
            · obtain ⟨n, rfl⟩ : ∃ n : Nat, k = n + 1 := ⟨k - 1, by omega⟩
              clear hk0
              have hkb : (((n + 1 : Nat) : Int) == 0) = false := beq_eq_false_iff_ne.2 (by omega)
              have hkb2 : ((n : Int) + 1 == 0) = false := beq_eq_false_iff_ne.2 (by omega)
              have hkp : (0 : Int) < (n : Int) + 1 := by omega
              have hnl : n < xs.length := by omega
              obtain ⟨bx', ox', e', hb', d0, _⟩ := (HX.out.below (HBel.out.mono hB)) n (by omega)
              cases e'
              change wr.cell? _ = some (.int .i64 (fromAt xs n)) at d0
              rw [show n + 1 - 1 = n from rfl] at hR
              generalize fromAt xs n = G at *
              have hw1 : IntKind.i64.wrap (n : Int) = (n : Int) := IntWalk.i64_in _ (by omega)
              have hbl : bx < wr.heap.size := by omega
              by_cases hF : F ≤ G
              · have h7 : rateBad xs (n + 1) = 10 := by rw [hR, if_pos (.inr ⟨by omega, hF⟩)]
                have HE := Lib.hid ((ratesE_at xs (n + 1) h0 h1 hlt HZ.out (by rw [h7]; decide)).trans h7)
                clear hR h7
                go_wp2
                go_quiet (fail)
                go_wp2
                go_ret
                exact ⟨ret_int HE.out.symm, below_drewN (HBel.out.alloc hsz _) _⟩
              · have H7 := Lib.hid (show rateBad xs (n + 1) = 0 by rw [hR, if_neg (by omega)])
                clear hR
                go_wp2
                go_quiet (fail)
                go_wp2
                go_roundw
                case rel => exact ⟨n + 1 + 1, by omega, by go_num, below_drewN (HBel.out.alloc hsz _) _, rateBads_succ HZ.out H7.out⟩
                case measure => simp [intOf]; omega
        · go_wp2
          go_ret
          obtain rfl : k = xs.length := by omega
          exact ⟨ret_int (ratesE_none xs h0 h1 hz).symm, hbel⟩

end Go.Proofs.Ytdfloglicjocbaa
