import Derived.Test.YtobiacdeoeogaaaGreatDoorAa
import Derived.Test.YtobiacdeoeogaaaGreatDoorO
set_option linter.unusedVariables false
set_option linter.unusedSimpArgs false
namespace Go.Proofs.YtobiacdeoeogaaaGreatDoor
open Go.RowKit
theorem div2_xor (u v : Nat) : (u ^^^ v) / 2 = (u / 2) ^^^ (v / 2) := by
  have := Nat.shiftRight_xor_distrib (a := u) (b := v) (i := 1)
  simpa [Nat.shiftRight_eq_div_pow] using this
theorem mod2_xor (u v : Nat) : (u ^^^ v) % 2 = (u + v) % 2 := by
  have h := Nat.xor_mod_two_pow (a := u) (b := v) (n := 1)
  have h1 : u % 2 = 0 ∨ u % 2 = 1 := by omega
  have h2 : v % 2 = 0 ∨ v % 2 = 1 := by omega
  rw [show (2 : Nat) ^ 1 = 2 from rfl] at h
  rcases h1 with h1 | h1 <;> rcases h2 with h2 | h2 <;> rw [h1, h2] at h <;> (first | rw [show (0 ^^^ 0 : Nat) = 0 from rfl] at h | rw [show (0 ^^^ 1 : Nat) = 1 from rfl] at h | rw [show (1 ^^^ 0 : Nat) = 1 from rfl] at h | rw [show (1 ^^^ 1 : Nat) = 0 from rfl] at h) <;> omega
theorem crcStep_xor (u v : Nat) : crcStep (u ^^^ v) = crcStep u ^^^ crcStep v := by
  unfold crcStep
  rw [mod2_xor, div2_xor]
  have h1 : u % 2 = 0 ∨ u % 2 = 1 := by omega
  have h2 : v % 2 = 0 ∨ v % 2 = 1 := by omega
  rcases h1 with h1 | h1 <;> rcases h2 with h2 | h2
  · rw [if_neg (by omega), if_neg (by omega), if_neg (by omega)]
  · rw [if_pos (by omega), if_neg (by omega), if_pos (by omega), Nat.xor_assoc]
  · rw [if_pos (by omega), if_pos (by omega), if_neg (by omega), Nat.xor_assoc, Nat.xor_assoc, Nat.xor_comm (v / 2)]
  · rw [if_neg (by omega), if_pos (by omega), if_pos (by omega)]
    generalize u / 2 = a
    generalize v / 2 = b
    rw [Nat.xor_assoc, ← Nat.xor_assoc 3988292384 b, Nat.xor_comm 3988292384 b, Nat.xor_assoc b, Nat.xor_self, Nat.xor_zero]
theorem crcN_xor : ∀ (k u v : Nat), crcN k (u ^^^ v) = crcN k u ^^^ crcN k v
  | 0, _, _ => rfl
  | k + 1, u, v => by
    show crcN k (crcStep (u ^^^ v)) = crcN k (crcStep u) ^^^ crcN k (crcStep v)
    rw [crcStep_xor, crcN_xor k]
theorem crcN_even : ∀ (k h : Nat), crcN k (2 ^ k * h) = h
  | 0, h => by simp [crcN]
  | k + 1, h => by
    show crcN k (crcStep (2 ^ (k + 1) * h)) = h
    have e : 2 ^ (k + 1) * h = 2 * (2 ^ k * h) := by rw [Nat.pow_succ, Nat.mul_comm (2 ^ k) 2, Nat.mul_assoc]
    have e2 : crcStep (2 ^ (k + 1) * h) = 2 ^ k * h := by
      unfold crcStep
      rw [e, if_neg (by omega)]
      omega
    rw [e2, crcN_even k]
theorem split_256 (x : Nat) : x = (2 ^ 8 * (x / 256)) ^^^ (x % 256) := by
  apply Nat.eq_of_testBit_eq
  intro i
  rw [Nat.testBit_xor, show 2 ^ 8 * (x / 256) = (x >>> 8) <<< 8 by rw [Nat.shiftRight_eq_div_pow, Nat.shiftLeft_eq, Nat.mul_comm], show x % 256 = x % 2 ^ 8 from rfl, Nat.testBit_mod_two_pow, Nat.testBit_shiftLeft, Nat.testBit_shiftRight]
  by_cases h : i < 8
  · have h2 : ¬ i ≥ 8 := by omega
    simp [h, h2]
  · have h2 : i ≥ 8 := by omega
    simp [h, h2]
/-- a byte's step by the table. -/
theorem crcB_tab (s b : Nat) (hb : b < 256) : crcB s b = (s / 256) ^^^ crcB 0 ((s % 256) ^^^ b) := by
  unfold crcB
  have h1 : (s ^^^ b) / 256 = s / 256 := by
    have := Nat.shiftRight_xor_distrib (a := s) (b := b) (i := 8)
    simp only [Nat.shiftRight_eq_div_pow] at this
    rw [show (256 : Nat) = 2 ^ 8 from rfl, this, Nat.div_eq_of_lt (show b < 2 ^ 8 from hb), Nat.xor_zero]
  have h2 : (s ^^^ b) % 256 = (s % 256) ^^^ b := by
    have := Nat.xor_mod_two_pow (a := s) (b := b) (n := 8)
    rw [show (256 : Nat) = 2 ^ 8 from rfl, this, Nat.mod_eq_of_lt (show b < 2 ^ 8 from hb)]
  rw [split_256 (s ^^^ b), crcN_xor, crcN_even, h1, h2, Nat.zero_xor]
/-- the table, its first n places filled. -/
structure TabC (tb n : Nat) (w : World) : Prop where
  h : ∃ X, Blk w tb 293 X ∧ X.size = 256 ∧ (∀ j, j < n → X[j]? = some (.int .u32 (crcB 0 j : Nat))) ∧ ∀ j, j < 256 → ∃ v : Int, X[j]? = some (.int .u32 v)
theorem TabC.set {tb i : Nat} {w : World} (h : TabC tb i w) (hi : i < 256) : TabC tb (i + 1) (w.setCell ⟨tb, i, none⟩ (.int .u32 (crcB 0 i : Nat))) := by
  obtain ⟨X, hX, hs, hf, ha⟩ := h.h
  refine ⟨_, hX.set i _, by simp [hs], fun j hj => ?_, fun j hj => ?_⟩
  · by_cases hji : i = j
    · subst hji; simp [hs, hi]
    · rw [Array.getElem?_setIfInBounds, if_neg hji]; exact hf j (by omega)
  · by_cases hji : i = j
    · subst hji; exact ⟨_, by simp [hs, hi]; rfl⟩
    · rw [Array.getElem?_setIfInBounds, if_neg hji]; exact ha j hj
theorem zc293 : Tryz.zeroCells293 = Array.replicate 256 (.int .u32 0) := by kernel_rfl
set_option maxRecDepth 100000 in
set_option maxHeartbeats 4000000 in
theorem crcTable_ok (w : World) : Calls Tryz.prog 233 #[] w fun e w' => ∃ tb, e = .returned (pt tb) ∧ w.heap.size ≤ tb ∧ TabC tb 256 w' ∧ Kp [] w w' := by
  go_enter Tryz.func233, Tryz.ntmps233
  go_wp2_with fail
  go_loopw [2, 3] (fun _ k wr => ∃ i : Nat, k = .int .i64 (i : Int) ∧ i ≤ 256 ∧ TabC w.heap.size i wr ∧ Kp [] w wr) (fun _ k _ => 256 - (intOf k).toNat)
  case atStart => exact ⟨0, rfl, Nat.zero_le _, ⟨_, Blk.new _ _ _, by simp, fun j hj => absurd hj (Nat.not_lt_zero _), fun j hj => ⟨0, by rw [zc293]; simp [hj]⟩⟩, Kp.alloc (Kp.refl [] w) _⟩
  case round =>
    obtain ⟨i, rfl, hi, ht, hk⟩ := hrel
    have HT := Lib.hid ht
    have HK := Lib.hid hk
    clear ht hk
    by_cases hlt : i < 256
    · have hd : decide ((i : Int) < 256) = true := decide_eq_true (by omega)
      have C : ∀ w, Calls Tryz.prog 232 #[.int .u32 0, .int .u8 (i : Int)] w fun e w' => e = .returned (.int .u32 (crcB 0 i : Nat)) ∧ w' = w := fun w => crcByte_ok 0 i (by decide) hlt w
      have HC := Lib.hid C
      obtain ⟨X, hX, hs, hf, ha⟩ := HT.out.h
      obtain ⟨y, hy⟩ := ha i hlt
      have cb := (hX.cell i).trans hy
      have fb := hX.frozen i
      have i0 : (0 : Int) ≤ (i : Int) := by omega
      have i1 : (i : Int) < 256 := by omega
      clear C hX hs hf ha hy
      go_wp2_with fail
      refine (HC.out _).mono ?_
      rintro e w' ⟨rfl, rfl⟩
      go_wp2_with fail
      go_roundw
      case rel => exact ⟨i + 1, by go_num, hlt, HT.out.set hlt, HK.out.setCell _ _ (Or.inr (Nat.le_refl _))⟩
      case measure => simp [intOf]; omega
    · have hd : decide ((i : Int) < 256) = false := decide_eq_false (by omega)
      go_wp2_with fail
      go_ret
      have h : i = 256 := by omega
      subst h
      exact ⟨_, rfl, Nat.le_refl _, HT.out, HK.out⟩
end Go.Proofs.YtobiacdeoeogaaaGreatDoor

set_option linter.unusedVariables false
set_option linter.unusedSimpArgs false
namespace Go.Proofs.YtobiacdeoeogaaaGreatDoor
open Go.RowKit
theorem TabC.kp {tb n : Nat} {S : List Nat} {w w' : World} (h : TabC tb n w) (k : Kp S w w') (hn : tb ∉ S) : TabC tb n w' := by
  obtain ⟨X, hX, r⟩ := h.h
  exact ⟨X, k.blk hX hn, r⟩
theorem TabC.cell {tb : Nat} {w : World} (h : TabC tb 256 w) {j : Nat} (hj : j < 256) : w.cell? ⟨tb, j, none⟩ = some (.int .u32 (crcB 0 j : Nat)) := by
  obtain ⟨X, hX, _, hf, _⟩ := h.h
  exact (hX.cell j).trans (hf j hj)
set_option maxRecDepth 100000 in
set_option maxHeartbeats 8000000 in
theorem crcWriteL_ok (mb s : Nat) (t : ByteArray) (w : World) (hs : s < 4294967296) (ht : 1024 ≤ t.size) (ht2 : t.size ≤ 1073741824) (hM : Blk w mb 170 #[.int .u32 (s : Int)]) : Calls Tryz.prog 230 #[pt mb, .string t] w fun e w' => e = .returned (.tuple #[]) ∧ Blk w' mb 170 #[.int .u32 (crcL s t.data.toList : Nat)] ∧ Kp [mb] w w' := by
  have HM := Lib.hid hM
  clear hM
  have hd : decide (t.size < 1024) = false := decide_eq_false (by omega)
  have hd' : ¬ (t.size : Int) < 1024 := by omega
  go_enter Tryz.func230, Tryz.ntmps230
  go_wp2_with fail
  refine (crcTable_ok _).mono ?_
  rintro e w1 ⟨tb, rfl, htb, hT, hk⟩
  have hmb := HM.out.lt
  have HM1 := Lib.hid (hk.blk HM.out (by simp))
  have HT := Lib.hid hT
  have HK0 := Lib.hid hk
  have hne : tb ≠ mb := by omega
  clear hd hd' hk hT HM hmb htb
  go_wp2_with fail
  go_loopw [6, 30] (fun _ k wr => ∃ i, k = .int .i64 (i : Nat) ∧ i ≤ t.size ∧ Blk wr mb 170 #[.int .u32 (crcL s (t.data.toList.take i) : Nat)] ∧ TabC tb 256 wr ∧ Kp [mb] w wr) (fun _ k _ => t.size - (intOf k).toNat)
  case atStart => exact ⟨0, rfl, Nat.zero_le _, HM1.out, HT.out, HK0.out.mono (by simp)⟩
  case round =>
    clear HM1 HT HK0
    obtain ⟨i, rfl, hi, hM, hT, hK⟩ := hrel
    have HM := Lib.hid hM
    have HK := Lib.hid hK
    have HT := Lib.hid hT
    by_cases hlt : i < t.size
    · have hd : decide (i < t.size) = true := decide_eq_true hlt
      have hd' : decide ((i : Int) < (t.size : Int)) = true := decide_eq_true (by omega)
      have c0 := hM.cell 0
      have f0 := hM.frozen 0
      simp at c0
      have HTK := Lib.hid (show crcL s (t.data.toList.take (i + 1)) = crcB (crcL s (t.data.toList.take i)) t[i].toNat from by rw [take_snoc t i hlt, crcL_snoc])
      have HL := Lib.hid (crcL_lt (t.data.toList.take i) hs)
      have hb := t[i].toNat_lt
      have hix : ∀ w, (Instr.index 9 (.string t) (.int .i64 (i : Int))).run Tryz.prog w = .ok (.int .u8 (t[i].toNat : Int)) w := fun w => by
        rw [run_index_string w 9 t .i64 (i : Int) Tryz.underlying9]
        simp [hlt]
      generalize t[i].toNat = b at *
      generalize crcL s (t.data.toList.take i) = v at *
      have hx1 : bits .xor .u8 ((v : Int) % 256) (b : Int) = ((v % 256 ^^^ b : Nat) : Int) := by
        have := u8_xor_nat (v % 256) b (by omega) (by omega)
        rwa [show ((v % 256 : Nat) : Int) = (v : Int) % 256 by omega] at this
      have hw8 : IntKind.u8.wrap (v : Int) = (v : Int) % 256 := by first | rfl | simp [IntKind.wrap, IntKind.bits, IntKind.signed]
      have hxl : v % 256 ^^^ b < 256 := Nat.xor_lt_two_pow (n := 8) (by omega) (by omega)
      have HB := Lib.hid (crcB_tab v b (by omega))
      have hct := hT.cell hxl
      have hyl := crcB_lt (s := 0) (b := v % 256 ^^^ b) (by decide) hxl
      have HLO := HL.out
      have hx2 : bits .xor .u32 ((v : Int) / 256) ((crcB 0 (v % 256 ^^^ b) : Nat) : Int) = ((v / 256 ^^^ crcB 0 (v % 256 ^^^ b) : Nat) : Int) := by
        have := u32_xor_nat (v / 256) (crcB 0 (v % 256 ^^^ b)) (by omega) hyl
        rwa [show ((v / 256 : Nat) : Int) = (v : Int) / 256 by omega] at this
      generalize v % 256 ^^^ b = x at *
      generalize crcB 0 x = y at *
      generalize v / 256 ^^^ y = z at *
      have x0 : (0 : Int) ≤ (x : Int) := by omega
      have x1 : (x : Int) < 256 := by omega
      clear hM hK hT
      go_wp2_with fail
      refine wp_region_still_tail 22 (by kernel_rfl) (by kernel_rfl) ?_
      simp only [List.take_succ_cons, List.take_zero, List.drop_succ_cons, List.drop_zero]
      iterate 22 ((with_reducible refine wpStill_step (fun K hK => ?_)); go_simp; (with_reducible refine hK _ ?_); clear hK K)
      (with_reducible refine wpStill_nil ?_)
      change wpList _ _ _ _ _ wr.drew
      have f1 : wr.drew.frozen? ⟨mb, 0, none⟩ = false := f0
      have c1 : wr.drew.cell? ⟨mb, 0, none⟩ = some (Value.int IntKind.u32 ↑v) := c0
      go_wp2_with fail
      go_roundw
      case rel => exact ⟨i + 1, by go_num, by omega, by rw [HTK.out, HB.out]; exact HM.out.drw.set 0 _, (HT.out.kp ((Kp.refl [mb] wr).drew.setCell _ _ (Or.inl (by simp))) (by simpa using hne)), (HK.out.drew).setCell _ _ (Or.inl (by simp))⟩
      case measure => simp [intOf]; omega
    · have hd : decide (i < t.size) = false := decide_eq_false hlt
      have hd' : decide ((i : Int) < (t.size : Int)) = false := decide_eq_false (by omega)
      go_wp2_with fail
      go_end0
      have e : t.data.toList.take i = t.data.toList := List.take_of_length_le (by have := Lib.size_eq t; omega)
      rw [e] at hM
      exact ⟨rfl, hM, hK⟩
theorem crcWriteA_ok (mb s : Nat) (t : ByteArray) (w : World) (hs : s < 4294967296) (ht : t.size ≤ 1073741824) (hM : Blk w mb 170 #[.int .u32 (s : Int)]) : Calls Tryz.prog 230 #[pt mb, .string t] w fun e w' => e = .returned (.tuple #[]) ∧ Blk w' mb 170 #[.int .u32 (crcL s t.data.toList : Nat)] ∧ Kp [mb] w w' := by
  by_cases h : t.size < 1024
  · exact crcWrite_ok mb s t w hs h hM
  · exact crcWriteL_ok mb s t w hs (by omega) ht hM
end Go.Proofs.YtobiacdeoeogaaaGreatDoor
