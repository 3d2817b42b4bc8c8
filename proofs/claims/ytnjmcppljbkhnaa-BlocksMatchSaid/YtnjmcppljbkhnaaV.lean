import Derived.Test.YtnjmcppljbkhnaaGb
set_option linter.unusedVariables false
set_option linter.unusedSimpArgs false
namespace Go.Proofs.Ytnjmcppljbkhnaa
open Go.RowKit

/-- the exclusive or of two texts, as long as the first. -/
def xorB (a b : ByteArray) : ByteArray := strB a.size fun i => at8 a i ^^^ at8 b i
def xorTo (a b : ByteArray) (m : Nat) : Nat → Nat := fun i => if i < m then at8 a i ^^^ at8 b i else 0
theorem xorTo_succ (a b : ByteArray) (m v : Nat) (h : v = at8 a m ^^^ at8 b m) : upd (xorTo a b m) m v = xorTo a b (m + 1) := by
  funext i
  unfold upd xorTo
  by_cases e : i = m
  · subst e; simp [h]
  · by_cases e2 : i < m
    · simp [e, e2, show i < m + 1 by omega]
    · simp [e, e2, show ¬ i < m + 1 by omega]
set_option maxRecDepth 100000 in
set_option maxHeartbeats 2000000 in
theorem xor60 (a b : ByteArray) (w : World) (hab : a.size ≤ b.size) (ha : a.size ≤ 140737488355328) :
    Calls Try.prog 60 #[.string a, .string b] w fun e w' => e = .returned (.string (xorB a b)) ∧ Below w.heap.size w w' := by
  have hmk := run_madeB w a.size ha
  have HW0 := Lib.hid (show WS w a.size (xorTo a b 0) (madeB w a.size) from ⟨madeB_below w _, (madeB_row w _).congr fun i _ => by simp [xorTo]⟩)
  generalize madeB w a.size = w0 at *
  go_enter Try.func60, Try.ntmps60
  go_wp2_with fail
  clear hmk
  go_loopw [12] (fun iv wr => ∃ i : Nat, i ≤ a.size ∧ iv = .int .i64 i ∧ WS w a.size (xorTo a b i) wr) (fun iv _ => a.size - (intOf iv).toNat)
  case atStart => exact ⟨0, by omega, rfl, HW0.out⟩
  case round =>
    clear HW0
    obtain ⟨i, hi, rfl, hws⟩ := hrel
    have HWS := Lib.hid hws
    clear hws
    by_cases hlt : i < a.size
    · have hd : decide ((i : Int) < (a.size : Int)) = true := decide_eq_true (by omega)
      have hb : i < b.size := by omega
      have i1 : (i : Int) < (a.size : Int) := by omega
      have i2 : (i : Int) < (b.size : Int) := by omega
      have e1 := at8_get a i hlt
      have e2 := at8_get b i hb
      have x1 := u8_xor_nat (at8 a i) (at8 b i) (at8_lt a i) (at8_lt b i)
      have z0 := (HWS.out.2.2 i hlt).2
      have y0 := (HWS.out.2.2 i hlt).1
      have HV := Lib.hid (show at8 a i ^^^ at8 b i = at8 a i ^^^ at8 b i from rfl)
      go_wp2_with fail
      go_still_tail 10, (by kernel_rfl)
      change wpList _ _ _ _ _ wr.drew
      go_wp2_with fail
      go_roundw
      case rel =>
        refine ⟨i + 1, by omega, by go_num, ?_⟩
        rw [← xorTo_succ a b i _ rfl]
        exact (HWS.out.store i _ hlt).drew
      case measure => simp [intOf]; omega
    · have hd : decide ((i : Int) < (a.size : Int)) = false := decide_eq_false (by omega)
      have HE := Lib.hid (show strB a.size (xorTo a b i) = xorB a b from strB_congr fun j hj => by unfold xorTo; rw [if_pos (by omega)])
      have hcv := conv_BR HWS.out.2 a.size
      generalize strB a.size (xorTo a b i) = R at *
      go_wp2_with fail
      go_ret
      exact ⟨by rw [← HE.out]; rfl, HWS.out.1⟩

def litB (x : Nat) : ByteArray := strB 4 (bytesN x)
theorem conv_four (w : World) (x : Nat) (t : TypeId) (hx : x < 4294967296) : (convert 88 9 (.slice (some ⟨w.heap.size, 0, none⟩) 4 4)).run Try.prog (w.alloc (.cells #[.int .u8 ((x : Int) % 256), .int .u8 ((x : Int) / 256 % 256), .int .u8 ((x : Int) / 65536 % 256), .int .u8 ((x : Int) / 16777216)] t)) = .ok (.string (litB x)) (w.alloc (.cells #[.int .u8 ((x : Int) % 256), .int .u8 ((x : Int) / 256 % 256), .int .u8 ((x : Int) / 65536 % 256), .int .u8 ((x : Int) / 16777216)] t)) := by
  have h := conv_row (f := bytesN x) (n := 4) (Blk.new w t (row8 4 (bytesN x))) 0 4 (by omega) 4
  have e : row8 4 (bytesN x) = #[.int .u8 ((x : Int) % 256), .int .u8 ((x : Int) / 256 % 256), .int .u8 ((x : Int) / 65536 % 256), .int .u8 ((x : Int) / 16777216)] := by
    simp [row8, List.range, List.range.loop, bytesN]
    omega
  rw [e] at h
  have e0 : (fun i => bytesN x (0 + i)) = bytesN x := by funext i; rw [Nat.zero_add]
  rw [e0] at h
  exact h
set_option maxRecDepth 100000 in
set_option maxHeartbeats 1000000 in
theorem little81 (x : Nat) (w : World) (hx : x < 4294967296) : Calls Try.prog 81 #[.int .u32 x] w fun e w' => e = .returned (.string (litB x)) ∧ Below w.heap.size w w' := by
  have hcv := fun t => conv_four w x t hx
  go_enter Try.func81, Try.ntmps81
  go_wp2_with fail
  go_ret
  exact ⟨rfl, (Below.refl _ _).alloc (Nat.le_refl _) _⟩
end Go.Proofs.Ytnjmcppljbkhnaa
