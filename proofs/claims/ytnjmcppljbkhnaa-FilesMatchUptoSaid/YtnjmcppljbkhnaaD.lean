import Derived.Test.YtnjmcppljbkhnaaC
set_option linter.unusedVariables false
set_option linter.unusedSimpArgs false
namespace Go.Proofs.Ytnjmcppljbkhnaa
open Go.RowKit

/-- five words of 64 bits in memory. -/
def row64 (f : Nat → Nat) : Array Value := ((List.range 5).map fun i => Value.int .u64 (f i : Nat)).toArray
theorem row64_at (f : Nat → Nat) (i : Nat) (h : i < 5) : (row64 f)[i]? = some (.int .u64 (f i : Nat)) := by
  simp [row64, h]
theorem row64_set (f : Nat → Nat) (i v : Nat) : (row64 f).setIfInBounds i (.int .u64 (v : Nat)) = row64 (upd f i v) := by
  unfold row64
  apply Array.ext'
  simp only [List.setIfInBounds_toArray]
  apply List.ext_getElem (by simp)
  intro j h1 h2
  by_cases h : i = j
  · simp [List.getElem_set, upd, h]
  · have h' : ¬ j = i := fun e => h e.symm
    simp [List.getElem_set, upd, h, h']
theorem row64_size (f : Nat → Nat) : (row64 f).size = 5 := by simp [row64]
theorem row64_all (f : Nat → Nat) : (row64 f).all (·.oneCell') = true := by
  rw [Array.all_eq_true_iff_forall_mem]
  intro v hv
  obtain ⟨i, _, rfl⟩ : ∃ i, i < 5 ∧ Value.int .u64 (f i : Nat) = v := by simpa [row64] using hv
  rfl
theorem row64_zero : row64 (fun _ => 0) = #[.int .u64 0, .int .u64 0, .int .u64 0, .int .u64 0, .int .u64 0] := by
  simp [row64, List.range, List.range.loop]
theorem info128 (f : Nat → Nat) : (Try.prog.info? 128).map (·.size) = some (row64 f).size := by rw [row64_size]; kernel_rfl
def W64 (f : Nat → Nat) : Prop := ∀ i, f i < 18446744073709551616
theorem W64.upd {f : Nat → Nat} (h : W64 f) {i v : Nat} (hv : v < 18446744073709551616) : W64 (upd f i v) := by
  intro j; unfold Ytnjmcppljbkhnaa.upd; split
  · exact hv
  · exact h j
/-- one step of carrying. -/
def car1 (d : Nat → Nat) (i : Nat) : Nat → Nat :=
  if i < 4 then upd (upd d i (d i % 67108864)) (i + 1) ((upd d i (d i % 67108864) (i + 1) + d i / 67108864) % 18446744073709551616)
  else upd (upd d i (d i % 67108864)) 0 ((upd d i (d i % 67108864) 0 + 5 * (d i / 67108864)) % 18446744073709551616)
def car (d : Nat → Nat) : Nat → (Nat → Nat)
  | 0 => d
  | k + 1 => car1 (car d k) k
theorem W64.car1 {d : Nat → Nat} (h : W64 d) (i : Nat) : W64 (car1 d i) := by
  have h1 : W64 (Ytnjmcppljbkhnaa.upd d i (d i % 67108864)) := h.upd (Nat.lt_of_lt_of_le (Nat.mod_lt _ (by decide)) (by decide))
  unfold Ytnjmcppljbkhnaa.car1
  split
  · exact h1.upd (Nat.mod_lt _ (by decide))
  · exact h1.upd (Nat.mod_lt _ (by decide))
theorem W64.car {d : Nat → Nat} (h : W64 d) (k : Nat) : W64 (car d k) := by
  induction k with
  | zero => exact h
  | succ k ih => exact ih.car1 k
theorem low26 (x : Nat) (h : x < 18446744073709551616) : bits BinOp.and IntKind.u64 (x : Int) 67108863 = ((x % 67108864 : Nat) : Int) := by
  have := u64_and_nat x 67108863 h (by decide)
  rw [show x &&& 67108863 = x % 67108864 from Nat.and_two_pow_sub_one_eq_mod x 26] at this
  exact this
theorem wrap64 (n : Int) : IntKind.u64.wrap n = n % 18446744073709551616 := by simp [IntKind.wrap, IntKind.bits, IntKind.signed]
theorem wrap_a (x y : Nat) : IntKind.u64.wrap ((x : Int) + (y : Int) / 67108864) = (((x + y / 67108864) % 18446744073709551616 : Nat) : Int) := by rw [wrap64]; omega
theorem wrap_b (x y : Nat) : IntKind.u64.wrap ((x : Int) + IntKind.u64.wrap (5 * ((y : Int) / 67108864))) = (((x + 5 * (y / 67108864)) % 18446744073709551616 : Nat) : Int) := by rw [wrap64, wrap64]; omega
theorem car_lt (d : Nat → Nat) (k : Nat) (h : k < 4) : car d (k + 1) = upd (upd (car d k) k (car d k k % 67108864)) (k + 1) ((upd (car d k) k (car d k k % 67108864) (k + 1) + car d k k / 67108864) % 18446744073709551616) := by
  show car1 (car d k) k = _
  unfold car1; rw [if_pos h]
theorem car_ge (d : Nat → Nat) (k : Nat) (h : ¬ k < 4) : car d (k + 1) = upd (upd (car d k) k (car d k k % 67108864)) 0 ((upd (car d k) k (car d k k % 67108864) 0 + 5 * (car d k k / 67108864)) % 18446744073709551616) := by
  show car1 (car d k) k = _
  unfold car1; rw [if_neg h]
def CS (w : World) (f : Nat → Nat) (wr : World) : Prop := Below w.heap.size w wr ∧ wr.heap.size = w.heap.size + 2 ∧ Blk wr w.heap.size 128 (row64 f) ∧ Blk wr (w.heap.size + 1) 128 (row64 fun _ => 0)
theorem CS.store {w wr : World} {f : Nat → Nat} (h : CS w f wr) (i v : Nat) : CS w (upd f i v) (wr.setCell ⟨w.heap.size, i, none⟩ (.int .u64 (v : Nat))) := by
  obtain ⟨h1, h2, h3, h4⟩ := h
  refine ⟨h1.setCell (by simp) _, by simpa [World.setCell] using h2, ?_, ?_⟩
  · rw [← row64_set]; exact Blk.set h3 i _
  · exact Blk.only (w := wr) h4 (only_set (only_refl wr _) i _) (by omega)

set_option maxRecDepth 100000 in
set_option maxHeartbeats 4000000 in
theorem carried105 (d : Nat → Nat) (w : World) (hd : W64 d) :
    Calls Try.prog 105 #[.agg (row64 d)] w fun e w' => e = .returned (.agg (row64 (car d 5))) ∧ Below w.heap.size w w' := by
  have HD := Lib.hid hd
  clear hd
  have hst : CS w (car d 0) ((w.alloc (.cells (row64 d) 128)).alloc (.cells (row64 fun _ => 0) 128)) := by
    refine ⟨((Below.refl _ _).alloc (Nat.le_refl _) _).alloc (by simp) _, by simp, ?_, ?_⟩
    · exact Blk.below (Blk.new w 128 _) ((Below.refl _ _).alloc (Nat.le_refl _) _) (by simp)
    · have := Blk.new (w.alloc (.cells (row64 d) 128)) 128 (row64 fun _ => 0)
      simpa using this
  rw [row64_zero] at hst
  have HST := Lib.hid hst
  clear hst
  go_enter Try.func105, Try.ntmps105
  go_wp2
  go_loopw [5] (fun i wr => ∃ k : Nat, k ≤ 5 ∧ i = .int .i64 k ∧ CS w (car d k) wr) (fun i _ => 5 - (intOf i).toNat)
  case atStart => exact ⟨0, by omega, rfl, HST.out⟩
  case round =>
    clear HST
    obtain ⟨k, hk5, rfl, hsb⟩ := hrel
    have HS := Lib.hid hsb
    have HW := Lib.hid (HD.out.car k)
    clear hsb
    by_cases hlt : k < 5
    · have hdd : decide ((k : Int) < 5) = true := decide_eq_true (by omega)
      have c0 := (HS.out.2.2.1.cell k).trans (row64_at _ k hlt)
      have z0 := HS.out.2.2.1.frozen k
      have e0 := low26 (car d k k) (HW.out k)
      have HS1 := Lib.hid (HS.out.store k (car d k k % 67108864))
      generalize hF : car d k = F at *
      have HF := Lib.hid hF
      clear hF
      by_cases h4 : k < 4
      · have hd4 : decide ((k : Int) < 4) = true := decide_eq_true (by omega)
        have c1 := (HS1.out.2.2.1.cell (k + 1)).trans (row64_at _ (k + 1) (by omega))
        have z1 := HS1.out.2.2.1.frozen (k + 1)
        rw [show ((F k % 67108864 : Nat) : Int) = (F k : Int) % 67108864 by omega] at c1 z1
        go_wp2
        refine ⟨⟨k + 1, by omega, by go_num, ?_⟩, by simp [intOf]; omega⟩
        have h2 := HS1.out.store (k + 1) ((upd F k (F k % 67108864) (k + 1) + F k / 67108864) % 18446744073709551616)
        rw [car_lt d k h4, HF.out, wrap_a]
        rw [show ((F k % 67108864 : Nat) : Int) = (F k : Int) % 67108864 by omega] at h2
        exact h2
      · have hd4 : decide ((k : Int) < 4) = false := decide_eq_false (by omega)
        have c1 := (HS1.out.2.2.1.cell 0).trans (row64_at _ 0 (by omega))
        have z1 := HS1.out.2.2.1.frozen 0
        rw [show ((F k % 67108864 : Nat) : Int) = (F k : Int) % 67108864 by omega] at c1 z1
        go_wp2
        refine ⟨⟨k + 1, by omega, by go_num, ?_⟩, by simp [intOf]; omega⟩
        have h2 := HS1.out.store 0 ((upd F k (F k % 67108864) 0 + 5 * (F k / 67108864)) % 18446744073709551616)
        rw [car_ge d k h4, HF.out, wrap_b]
        rw [show ((F k % 67108864 : Nat) : Int) = (F k : Int) % 67108864 by omega] at h2
        exact h2
    · have hdd : decide ((k : Int) < 5) = false := decide_eq_false (by omega)
      have HT := Lib.hid (show CS w (car d 5) wr from by
        obtain rfl : k = 5 := by omega
        exact HS.out)
      clear HS
      generalize hF5 : car d 5 = F at *
      have H5 := Lib.hid hF5
      clear hF5
      go_wp2_with (first | (refine wpList_load_row rfl 128 _ rfl w.heap.size rfl 128 (row64 F) (0, 0) _ HT.out.2.2.1 Try.underlying128 rfl (info128 _) ?_) | (refine wpList_store_row rfl 128 _ _ rfl (w.heap.size + 1) (row64 F) rfl rfl 128 _ HT.out.2.2.2 (info128 _) (by rw [row64_size, row64_size]) (row64_all _) ?_))
      refine bodyPost_ret (v := .agg (row64 F)) (results_cell_row (p := 2) Try.results105 _ _ (w.heap.size + 1) 128 _ (0, 0) _ rfl ?_ Try.underlying128 rfl (info128 _)) rfl ⟨by rw [H5.out], ?_⟩
      · exact setRow_heap _ _ _ _ _ _ HT.out.2.2.2
      · exact below_setRow HT.out.1 (by omega)
end Go.Proofs.Ytnjmcppljbkhnaa
