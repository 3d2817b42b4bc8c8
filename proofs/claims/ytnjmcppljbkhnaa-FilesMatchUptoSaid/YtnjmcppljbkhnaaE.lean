import Derived.Test.YtnjmcppljbkhnaaD
set_option linter.unusedVariables false
set_option linter.unusedSimpArgs false
namespace Go.Proofs.Ytnjmcppljbkhnaa
open Go.RowKit

def pterm (h r : Nat → Nat) (i k : Nat) : Nat := if i + k < 5 then h i * r k % 18446744073709551616 else h i * r k % 18446744073709551616 * 5 % 18446744073709551616
def pstep (h r d : Nat → Nat) (i k : Nat) : Nat → Nat := upd d ((i + k) % 5) ((d ((i + k) % 5) + pterm h r i k) % 18446744073709551616)
def prow (h r d : Nat → Nat) (i : Nat) : Nat → (Nat → Nat)
  | 0 => d
  | k + 1 => pstep h r (prow h r d i k) i k
def pall (h r : Nat → Nat) : Nat → (Nat → Nat)
  | 0 => fun _ => 0
  | i + 1 => prow h r (pall h r i) i 5
/-- the product of two numbers of five limbs. -/
def prod (h r : Nat → Nat) : Nat → Nat := car (car (pall h r 5) 5) 5
theorem W64.pstep {h r d : Nat → Nat} (hd : W64 d) (i k : Nat) : W64 (pstep h r d i k) := hd.upd (Nat.mod_lt _ (by decide))
theorem W64.prow {h r d : Nat → Nat} (hd : W64 d) (i k : Nat) : W64 (prow h r d i k) := by
  induction k with
  | zero => exact hd
  | succ k ih => exact ih.pstep i k
theorem W64.pall {h r : Nat → Nat} (i : Nat) : W64 (pall h r i) := by
  induction i with
  | zero => intro j; exact Nat.zero_lt_succ _
  | succ k ih => exact ih.prow k 5
theorem W64.prod (h r : Nat → Nat) : W64 (prod h r) := ((W64.pall 5).car 5).car 5
theorem wrap_c (x a b : Nat) : IntKind.u64.wrap ((x : Int) + IntKind.u64.wrap ((a : Int) * (b : Int))) = (((x + a * b % 18446744073709551616) % 18446744073709551616 : Nat) : Int) := by
  rw [wrap64, wrap64, ← Int.natCast_mul]; generalize a * b = q; omega
theorem wrap_d (x a b : Nat) : IntKind.u64.wrap ((x : Int) + IntKind.u64.wrap (IntKind.u64.wrap ((a : Int) * (b : Int)) * 5)) = (((x + a * b % 18446744073709551616 * 5 % 18446744073709551616) % 18446744073709551616 : Nat) : Int) := by
  rw [wrap64, wrap64, wrap64, ← Int.natCast_mul]; generalize a * b = q; omega
def PS (w : World) (h r f : Nat → Nat) (wr : World) : Prop := Below w.heap.size w wr ∧ wr.heap.size = w.heap.size + 4 ∧ Blk wr w.heap.size 128 (row64 h) ∧ Blk wr (w.heap.size + 1) 128 (row64 r) ∧ Blk wr (w.heap.size + 2) 128 (row64 fun _ => 0) ∧ Blk wr (w.heap.size + 3) 128 (row64 f)
theorem PS.store {w wr : World} {h r f : Nat → Nat} (H : PS w h r f wr) (n i v : Nat) : PS w h r (upd f i v) ((wr.drewN n).setCell ⟨w.heap.size + 3, i, none⟩ (.int .u64 (v : Nat))) := by
  obtain ⟨h1, h2, h3, h4, h5, h6⟩ := H
  have ho := only_set (only_drewN (only_refl wr (w.heap.size + 3)) n) i (.int .u64 (v : Nat))
  refine ⟨(below_drewN h1 n).setCell (by simp) _, by simpa [World.setCell] using h2, h3.only ho (by omega), h4.only ho (by omega), h5.only ho (by omega), ?_⟩
  rw [← row64_set]; exact Blk.set (w := wr.drewN n) h6 i _

set_option maxRecDepth 100000 in
set_option maxHeartbeats 4000000 in
theorem product88 (h r : Nat → Nat) (w : World) :
    Calls Try.prog 88 #[.agg (row64 h), .agg (row64 r)] w fun e w' => e = .returned (.agg (row64 (prod h r))) ∧ Below w.heap.size w w' := by
  have hst : PS w h r (pall h r 0) ((((w.alloc (.cells (row64 h) 128)).alloc (.cells (row64 r) 128)).alloc (.cells (row64 fun _ => 0) 128)).alloc (.cells (row64 fun _ => 0) 128)) := by
    have b1 := (Below.refl (w.alloc (.cells (row64 h) 128)).heap.size (w.alloc (.cells (row64 h) 128))).alloc (Nat.le_refl _) (.cells (row64 r) 128)
    have k1 := Blk.new w 128 (row64 h)
    have k2 := Blk.new (w.alloc (.cells (row64 h) 128)) 128 (row64 r)
    have k3 := Blk.new ((w.alloc (.cells (row64 h) 128)).alloc (.cells (row64 r) 128)) 128 (row64 fun _ => 0)
    have k4 := Blk.new (((w.alloc (.cells (row64 h) 128)).alloc (.cells (row64 r) 128)).alloc (.cells (row64 fun _ => 0) 128)) 128 (row64 fun _ => 0)
    refine ⟨((((Below.refl _ _).alloc (Nat.le_refl _) _).alloc (by simp) _).alloc (by simp; omega) _).alloc (by simp; omega) _, by simp, ?_, ?_, ?_, ?_⟩
    · exact ((k1.below ((Below.refl _ _).alloc (Nat.le_refl _) _) (by simp)).below ((Below.refl _ _).alloc (Nat.le_refl _) _) (by simp; omega)).below ((Below.refl _ _).alloc (Nat.le_refl _) _) (by simp; omega)
    · have := (k2.below ((Below.refl _ _).alloc (Nat.le_refl _) (.cells (row64 fun _ => 0) 128)) (by simp)).below ((Below.refl _ _).alloc (Nat.le_refl _) (.cells (row64 fun _ => 0) 128)) (by simp)
      simpa using this
    · have := (k3.below ((Below.refl _ _).alloc (Nat.le_refl _) (.cells (row64 fun _ => 0) 128)) (by simp))
      simpa using this
    · simpa [pall] using k4
  rw [row64_zero] at hst
  have HST := Lib.hid hst
  clear hst
  go_enter Try.func88, Try.ntmps88
  go_wp2
  go_loopw [9] (fun i wr => ∃ k : Nat, k ≤ 5 ∧ i = .int .i64 k ∧ PS w h r (pall h r k) wr) (fun i _ => 5 - (intOf i).toNat)
  case atStart => exact ⟨0, by omega, rfl, HST.out⟩
  case round =>
    clear HST
    obtain ⟨i, hi5, rfl, hsb⟩ := hrel
    have HS := Lib.hid hsb
    clear hsb
    by_cases hlt : i < 5
    · have hdd : decide ((i : Int) < 5) = true := decide_eq_true (by omega)
      have HP := Lib.hid (show pall h r (i + 1) = prow h r (pall h r i) i 5 from rfl)
      generalize pall h r i = D at *
      obtain ⟨wo, hwo⟩ : ∃ wo : World, wo = wr := ⟨_, rfl⟩
      subst hwo
      go_wp2_with fail
      go_loopw [12] (fun i' wr => ∃ k : Nat, k ≤ 5 ∧ i' = .int .i64 k ∧ PS w h r (prow h r D i k) wr) (fun i _ => 5 - (intOf i).toNat)
      case atStart => exact ⟨0, by omega, rfl, HS.out⟩
      case round =>
        clear HS
        obtain ⟨k, hk5, rfl, hsb⟩ := hrel
        have HS := Lib.hid hsb
        clear hsb
        by_cases hlk : k < 5
        · have hdk : decide ((k : Int) < 5) = true := decide_eq_true (by omega)
          have HP1 := Lib.hid (show prow h r D i (k + 1) = pstep h r (prow h r D i k) i k from rfl)
          generalize prow h r D i k = E at *
          have c0 := (HS.out.2.2.1.cell i).trans (row64_at _ i hlt)
          have c1 := (HS.out.2.2.2.1.cell k).trans (row64_at _ k hlk)
          have c2 := (HS.out.2.2.2.2.2.cell ((i + k) % 5)).trans (row64_at _ ((i + k) % 5) (Nat.mod_lt _ (by decide)))
          have z2 := HS.out.2.2.2.2.2.frozen ((i + k) % 5)
          have t2 : (((i : Int) + (k : Int)) % 5).toNat = (i + k) % 5 := by omega
          have t2' : (((i : Int) + (k : Int)).tmod 5).toNat = (i + k) % 5 := by rw [Int.tmod_eq_emod_of_nonneg (by omega)]; omega
          by_cases h5 : i + k < 5
          · have hd5 : decide (5 ≤ (i : Int) + (k : Int)) = false := decide_eq_false (by omega)
            go_wp2_with fail
            go_quiet (fail)
            go_wp2_with fail
            refine ⟨⟨k + 1, by omega, by go_num, ?_⟩, by simp [intOf]; omega⟩
            have h2 := HS.out.store nq ((i + k) % 5) ((E ((i + k) % 5) + pterm h r i k) % 18446744073709551616)
            rw [HP1.out, wrap_c]
            unfold pterm at h2
            rw [if_pos h5] at h2
            unfold pstep pterm
            rw [if_pos h5]
            exact h2
          · have hd5 : decide (5 ≤ (i : Int) + (k : Int)) = true := decide_eq_true (by omega)
            go_wp2_with fail
            go_quiet (fail)
            go_wp2_with fail
            refine ⟨⟨k + 1, by omega, by go_num, ?_⟩, by simp [intOf]; omega⟩
            have h2 := HS.out.store nq ((i + k) % 5) ((E ((i + k) % 5) + pterm h r i k) % 18446744073709551616)
            rw [HP1.out, wrap_d]
            unfold pterm at h2
            rw [if_neg h5] at h2
            unfold pstep pterm
            rw [if_neg h5]
            exact h2
        · have hdk : decide ((k : Int) < 5) = false := decide_eq_false (by omega)
          have HSe := Lib.hid (show PS w h r (pall h r (i + 1)) wr from by
            obtain rfl : k = 5 := by omega
            rw [HP.out]
            exact HS.out)
          clear HS
          go_wp2_with fail
          go_roundw
          case rel => exact ⟨i + 1, by omega, by go_num, HSe.out⟩
          case measure => simp [intOf]; omega
    · have hdd : decide ((i : Int) < 5) = false := decide_eq_false (by omega)
      have HT := Lib.hid (show PS w h r (pall h r 5) wr from by
        obtain rfl : i = 5 := by omega
        exact HS.out)
      clear HS
      have HPP := Lib.hid (show prod h r = car (car (pall h r 5) 5) 5 from rfl)
      have HW := Lib.hid (show W64 (pall h r 5) from W64.pall 5)
      generalize pall h r 5 = F at *
      go_wp2_with (refine wpList_load_row rfl 128 _ rfl (w.heap.size + 3) rfl 128 (row64 F) (0, 0) _ HT.out.2.2.2.2.2 Try.underlying128 rfl (info128 _) ?_)
      refine (carried105 F _ HW.out).mono ?_
      rintro e w1 ⟨rfl, b1⟩
      have B1 := Lib.hid b1
      clear b1
      have HW1 := Lib.hid (HW.out.car 5)
      generalize car F 5 = G at *
      go_wp2_with fail
      refine (carried105 G _ HW1.out).mono ?_
      rintro e w2 ⟨rfl, b2⟩
      have B2 := Lib.hid b2
      clear b2
      have HZ := Lib.hid (show Blk w2 (w.heap.size + 2) 128 (row64 fun _ => 0) from by
        have := HT.out.2.1
        have := B1.out.size
        exact (HT.out.2.2.2.2.1.below B1.out (by omega)).below B2.out (by omega))
      generalize car G 5 = K at *
      go_wp2_with (refine wpList_store_row rfl 128 _ _ rfl (w.heap.size + 2) (row64 K) rfl rfl 128 _ HZ.out (info128 _) (by rw [row64_size, row64_size]) (row64_all _) ?_)
      refine bodyPost_ret (v := .agg (row64 K)) (results_cell_row (p := 4) Try.results88 _ _ (w.heap.size + 2) 128 _ (0, 0) _ rfl ?_ Try.underlying128 rfl (info128 _)) rfl ⟨by rw [HPP.out], ?_⟩
      · exact setRow_heap _ _ _ _ _ _ HZ.out
      · exact below_setRow (below_step (below_step HT.out.1 (Nat.le_refl _) B1.out) (Nat.le_refl _) B2.out) (by omega)
end Go.Proofs.Ytnjmcppljbkhnaa
