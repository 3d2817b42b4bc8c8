/-
  The comparison of the kinds of sums with the keeper's.
-/
import Derived.Test.YtfcnmdmbkoekcaaGreatDoorAa
import Derived.Test.YtfcnmdmbkoekcaaGreatDoorKb
import Derived.Test.YtfcnmdmbkoekcaaGreatDoorKc
set_option linter.unusedVariables false
set_option linter.unusedSimpArgs false
namespace Go.Proofs.YtfcnmdmbkoekcaaGreatDoor
open Go.RowKit Go.Proofs.Kl
set_option maxRecDepth 100000 in
set_option maxHeartbeats 4000000 in
theorem kindFn_ok (k : Int) (t : ByteArray) (n : Int) (w : World) : Calls Tryz.prog 59 #[.agg #[.int .i64 k, .string t], .int .i64 n] w fun e w' => e = .returned (.bool (k == n)) ∧ Below w.heap.size w w' := by
  obtain ⟨r, hr⟩ : ∃ r, (k == n) = r := ⟨_, rfl⟩
  rw [hr]
  have HR := Lib.hid hr
  go_enter Tryz.func59, Tryz.ntmps59
  go_wp2_with fail
  go_ret
  exact ⟨rfl, by go_grown⟩
set_option maxRecDepth 100000 in
set_option maxHeartbeats 4000000 in
theorem eqKinds_ok (l : List (Int × ByteArray)) (sv : Value) (gb cap : Nat) (w : World) (hs : SumVal w sv l) (k1 : w.cell? ⟨gb, 0, none⟩ = some (.int .i64 1)) (k2 : w.cell? ⟨gb, 1, none⟩ = some (.int .i64 2)) :
    Calls Tryz.prog 58 #[sv, .slice (some ⟨gb, 0, none⟩) 2 cap, (.func (.func 59) #[] #[])] w fun e w' => e = .returned (.bool (kindsB l)) ∧ Below w.heap.size w w' := by
  obtain ⟨a, cp, rfl, hc⟩ := hs
  by_cases hl : l.length = 2
  · obtain ⟨x, y, rfl⟩ : ∃ x y, l = [x, y] := by
      match l, hl with
      | [x, y], _ => exact ⟨x, y, rfl⟩
    obtain ⟨b, off, rfl, hb, c0, c1, c2, c3⟩ := hc x y rfl
    have C0 := Lib.hid c0
    have C1 := Lib.hid c1
    have C2 := Lib.hid c2
    have C3 := Lib.hid c3
    have K1 := Lib.hid k1
    have K2 := Lib.hid k2
    have hgb := World.block_lt_of_cell? _ _ k1
    have CK := Lib.hid (fun (k : Int) (t : ByteArray) (n : Int) (w : World) => kindFn_ok k t n w)
    obtain ⟨xk, xt⟩ := x
    obtain ⟨yk, yt⟩ := y
    simp only at C0 C1 C2 C3
    clear c0 c1 c2 c3 k1 k2 hc hl
    obtain ⟨r, hr⟩ : ∃ r, kindsB [(xk, xt), (yk, yt)] = r := ⟨_, rfl⟩
    rw [hr]
    have HR := Lib.hid (show (decide (xk = 1) && decide (yk = 2)) = r by rw [← hr]; unfold kindsB; simp)
    clear hr
    go_enter Tryz.func58, Tryz.ntmps58
    go_wp2_with fail
    go_loopw [17] (fun i wr => ∃ k : Nat, i = .int .i64 (k : Int) ∧ k ≤ 2 ∧ (1 ≤ k → xk = 1) ∧ (2 ≤ k → yk = 2) ∧ Below w.heap.size w wr) (fun i _ => 2 - (intOf i).toNat)
    case atStart => exact ⟨0, rfl, by omega, by omega, by omega, Below.refl _ _⟩
    case round =>
      obtain ⟨k, rfl, hk, h1, h2, hbe⟩ := hrel
      have HB := Lib.hid hbe
      have H1 := Lib.hid h1
      have H2 := Lib.hid h2
      clear hbe h1 h2
      have d0 := (HB.out.cell (p := ⟨b, off, none⟩) hb).trans C0.out
      have d1 := (HB.out.cell (p := ⟨b, off + 1, none⟩) hb).trans C1.out
      have d2 := (HB.out.cell (p := ⟨b, off + 2, none⟩) hb).trans C2.out
      have d3 := (HB.out.cell (p := ⟨b, off + 3, none⟩) hb).trans C3.out
      have e1 := (HB.out.cell (p := ⟨gb, 0, none⟩) hgb).trans K1.out
      have e2 := (HB.out.cell (p := ⟨gb, 1, none⟩) hgb).trans K2.out
      have hsz := HB.out.size
      have hbr : b < wr.heap.size := by omega
      have hgr : gb < wr.heap.size := by omega
      rcases (show k = 0 ∨ k = 1 ∨ k = 2 by omega) with rfl | rfl | rfl
      · cases hx : (xk == 1)
        · go_wp2_with fail
          refine (CK.out xk xt 1 _).mono ?_
          rintro e w1 ⟨rfl, hb1⟩
          rw [hx]
          have HB1 := Lib.hid (((HB.out.alloc HB.out.size _).trans (hb1.mono (by simp; omega))))
          clear hb1
          go_wp2_with fail
          go_ret
          refine ⟨?_, HB1.out⟩
          rw [← HR.out, decide_eq_false (by simpa using hx)]; rfl
        · go_wp2_with fail
          refine (CK.out xk xt 1 _).mono ?_
          rintro e w1 ⟨rfl, hb1⟩
          rw [hx]
          have HB1 := Lib.hid (((HB.out.alloc HB.out.size _).trans (hb1.mono (by simp; omega))))
          have HX := Lib.hid (show xk = 1 by simpa using hx)
          clear hb1 hx
          go_wp2_with fail
          go_roundw
          case rel => exact ⟨1, by go_num, by omega, fun _ => HX.out, fun h => by omega, HB1.out⟩
          case measure => simp [intOf]
      · cases hy : (yk == 2)
        · go_wp2_with fail
          refine (CK.out yk yt 2 _).mono ?_
          rintro e w1 ⟨rfl, hb1⟩
          rw [hy]
          have HB1 := Lib.hid (((HB.out.alloc HB.out.size _).trans (hb1.mono (by simp; omega))))
          clear hb1
          go_wp2_with fail
          go_ret
          refine ⟨?_, HB1.out⟩
          rw [← HR.out, decide_eq_false (show ¬ yk = 2 by simpa using hy)]; simp
        · go_wp2_with fail
          refine (CK.out yk yt 2 _).mono ?_
          rintro e w1 ⟨rfl, hb1⟩
          rw [hy]
          have HB1 := Lib.hid (((HB.out.alloc HB.out.size _).trans (hb1.mono (by simp; omega))))
          have HY := Lib.hid (show yk = 2 by simpa using hy)
          clear hb1 hy
          go_wp2_with fail
          go_roundw
          case rel => exact ⟨2, by go_num, by omega, fun _ => H1.out (by omega), fun _ => HY.out, HB1.out⟩
          case measure => simp [intOf]
      · go_wp2_with fail
        go_ret
        refine ⟨?_, HB.out⟩
        rw [← HR.out, decide_eq_true (H1.out (by omega)), decide_eq_true (H2.out (by omega))]; rfl
  · have e : kindsB l = false := by
      unfold kindsB
      refine decide_eq_false fun h => hl ?_
      have := congrArg List.length h
      simpa using this
    rw [e]
    have hn : ((l.length : Int) != 2) = true := by simp; omega
    have hn2 : ¬ ((l.length : Int) = 2) := by omega
    generalize l.length = n at *
    clear hc e
    go_enter Tryz.func58, Tryz.ntmps58
    go_wp2_with fail
    go_ret
    exact ⟨rfl, Below.refl _ _⟩
end Go.Proofs.YtfcnmdmbkoekcaaGreatDoor
