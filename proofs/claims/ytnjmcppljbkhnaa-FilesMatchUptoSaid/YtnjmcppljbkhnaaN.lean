import Derived.Test.YtnjmcppljbkhnaaM
import Derived.Test.YtnjmcppljbkhnaaShelf
set_option linter.unusedVariables false
set_option linter.unusedSimpArgs false
namespace Go.Proofs.Ytnjmcppljbkhnaa
open Go.RowKit

def zerosB (n : Nat) : ByteArray := ⟨(List.replicate n 0).toArray⟩
def padN (n : Nat) : Nat := (16 - n % 16) % 16
theorem repeat_zero (n : Nat) : Lib.repeatL [0] n = List.replicate n 0 := by
  induction n with
  | zero => rfl
  | succ n ih => rw [Lib.repeatL, ih]; rfl

set_option maxHeartbeats 1000000 in
theorem fill101 (s : ByteArray) (w : World) (hs : s.size ≤ 140737488355328) :
    Calls Try.prog 101 #[.string s] w fun e w' => e = .returned (.string (zerosB (padN s.size))) ∧ Below w.heap.size w w' := by
  have HP := Lib.hid (show zerosB (padN s.size) = ⟨(Lib.repeatL (⟨#[0]⟩ : ByteArray).data.toList (padN s.size)).toArray⟩ from by
    show _ = (⟨(Lib.repeatL [0] (padN s.size)).toArray⟩ : ByteArray)
    rw [repeat_zero]; rfl)
  have hlt : padN s.size < 16 := Nat.mod_lt _ (by decide)
  have e1 : (16 - (s.size : Int) % 16) % 16 = ((padN s.size : Nat) : Int) := by unfold padN; omega
  generalize padN s.size = n at *
  go_enter Try.func101, Try.ntmps101
  go_wp2_with fail
  refine (Try.strings_Repeat ⟨#[0]⟩ n _ (by omega) (by show 1 * n ≤ _; omega)).mono ?_
  rintro e w1 ⟨rfl, b1⟩
  rw [← HP.out]
  have HB := Lib.hid b1
  clear b1
  go_wp2_with fail
  go_ret
  exact ⟨rfl, HB.out⟩

def lowB (n t : Nat) : Nat → Nat := fun j => if j < t then bytesN n j else 0
theorem lowB_succ (n t : Nat) : upd (lowB n t) t (bytesN n t) = lowB n (t + 1) := by
  funext i
  unfold upd lowB
  by_cases h : i = t
  · subst h; simp
  · by_cases h2 : i < t
    · simp [h, h2, show i < t + 1 by omega]
    · simp [h, h2, show ¬ i < t + 1 by omega]
set_option maxRecDepth 100000 in
set_option maxHeartbeats 1000000 in
theorem little102 (n : Nat) (w : World) (hn : n ≤ 140737488355328) :
    Calls Try.prog 102 #[.int .i64 n] w fun e w' => e = .returned (.string (strB 8 (bytesN n))) ∧ Below w.heap.size w w' := by
  have hmk : ∀ w : World, (Instr.makeSlice 88 (.int .i64 8) (.int .i64 8)).run Try.prog w = .ok (.slice (some ⟨w.heap.size, 0, none⟩) 8 8) (w.alloc (.cells (Array.replicate 8 (.int .u8 0)) 5)) := fun _ => by kernel_rfl
  have hz : Array.replicate 8 (Value.int .u8 0) = row8 8 (fun _ => 0) := by simp [row8, List.range, List.range.loop, Array.replicate]
  rw [hz] at hmk
  have HN := Lib.hid (Blk.new w 5 (row8 8 fun _ => 0))
  clear hz
  go_enter Try.func102, Try.ntmps102
  go_wp2_with fail
  clear hmk
  go_loopw [8] (fun i wr => ∃ t : Nat, t ≤ 8 ∧ i = .int .i64 t ∧ Below w.heap.size w wr ∧ Blk wr w.heap.size 5 (row8 8 (lowB n t))) (fun i _ => 8 - (intOf i).toNat)
  case atStart =>
    refine ⟨0, by omega, rfl, (Below.refl _ _).alloc (Nat.le_refl _) _, ?_⟩
    have e0 : row8 8 (lowB n 0) = row8 8 (fun _ => 0) := row8_congr fun i _ => by simp [lowB]
    rw [e0]
    exact HN.out
  case round =>
    clear HN
    obtain ⟨t, ht, rfl, hb, hbl⟩ := hrel
    have HB := Lib.hid hb
    have HBL := Lib.hid hbl
    clear hb hbl
    by_cases hlt : t < 8
    · have hd : decide ((t : Int) < 8) = true := decide_eq_true (by omega)
      have z0 := HBL.out.frozen t
      have d0 := (HBL.out.cell t).trans (row8_at 8 _ t hlt)
      have t2 : (8 * (t : Int)).toNat = 8 * t := by omega
      have p2 : 0 ≤ 8 * (t : Int) := by omega
      have q2 : 8 * (t : Int) ≤ 64 := by omega
      go_wp2_with fail
      go_roundw
      case rel =>
        refine ⟨t + 1, by omega, by go_num, HB.out.setCell (Nat.le_refl _) _, ?_⟩
        have h1 := HBL.out.set t (.int .u8 ((bytesN n t : Nat) : Int))
        rw [row8_set, lowB_succ n t, bytesN_int] at h1
        exact h1
      case measure => simp [intOf]; omega
    · have hd : decide ((t : Int) < 8) = false := decide_eq_false (by omega)
      have HB8 := Lib.hid (show Blk wr w.heap.size 5 (row8 8 (bytesN n)) from by
        obtain rfl : t = 8 := by omega
        have e : row8 8 (lowB n 8) = row8 8 (bytesN n) := row8_congr fun i hi => by simp [lowB, hi]
        rw [← e]; exact HBL.out)
      have hcv := conv_row HB8.out 0 8 (by omega) 8
      have hcv' : (convert 88 9 (.slice (some ⟨w.heap.size, 0, none⟩) 8 8)).run Try.prog wr = .ok (.string (strB 8 (bytesN n))) wr := by
        have e : (fun i => bytesN n (0 + i)) = bytesN n := by funext i; rw [Nat.zero_add]
        rw [e] at hcv; exact hcv
      clear hcv
      go_wp2_with fail
      go_ret
      exact ⟨rfl, HB.out⟩

theorem inter_nil : ∀ xs : List (List UInt8), ([] : List UInt8).intercalate xs = xs.flatten
  | [] => rfl
  | [x] => by simp [List.intercalate]
  | x :: y :: l => by
    have := inter_nil (y :: l)
    simp [List.intercalate] at this ⊢
    exact this
/-- texts one behind the other. -/
def catS (xs : List ByteArray) : ByteArray := ⟨(xs.map (·.data.toList)).flatten.toArray⟩
set_option maxHeartbeats 1000000 in
theorem concat103 (bk o c : Nat) (xs : List ByteArray) (w : World) (hcells : ∀ (j : Nat) x, xs[j]? = some x → w.cell? ⟨bk, o + j, none⟩ = some (.string x)) (hbk : bk < w.heap.size) (hN : xs.length ≤ 140737488355328) (hcap : xs.length ≤ c) (hlen : (catS xs).size ≤ 140737488355328) :
    Calls Try.prog 103 #[.slice (some ⟨bk, o, none⟩) xs.length c] w fun e w' => e = .returned (.string (catS xs)) ∧ Below w.heap.size w w' := by
  have hj : Lib.join (xs.map (·.data.toList)) (⟨#[]⟩ : ByteArray).data.toList = (xs.map (·.data.toList)).flatten := by
    show Lib.join _ [] = _
    unfold Lib.join
    exact inter_nil _
  have HC := Lib.hid (Try.strings_Join bk o c xs ⟨#[]⟩ w hcells hbk hN hcap (by rw [hj]; simpa [catS, ByteArray.size] using hlen))
  have HE := Lib.hid (show (⟨(Lib.join (xs.map (·.data.toList)) (⟨#[]⟩ : ByteArray).data.toList).toArray⟩ : ByteArray) = catS xs from by rw [hj]; rfl)
  clear hj hcells hlen
  go_enter Try.func103, Try.ntmps103
  go_wp2_with fail
  refine HC.out.mono ?_
  rintro e w1 ⟨rfl, b1⟩
  rw [HE.out]
  have HB := Lib.hid b1
  clear b1
  go_wp2_with fail
  go_ret
  exact ⟨rfl, HB.out⟩

set_option maxHeartbeats 1000000 in
theorem lengths47_ok (key nonce : ByteArray) (w : World) (hk : key.size = 32) (hn : nonce.size = 12) :
    Calls Try.prog 47 #[.string key, .string nonce] w fun e w' => e = .returned (.int .i64 0) ∧ w = w' := by
  go_enter Try.func47, Try.ntmps47
  go_wp2_with fail
  go_ret
  exact ⟨rfl, rfl⟩
set_option maxHeartbeats 1000000 in
theorem lengths47_no (key nonce : ByteArray) (w : World) (h : key.size ≠ 32 ∨ nonce.size ≠ 12) (hk : key.size ≤ maxLen) (hn : nonce.size ≤ maxLen) :
    Calls Try.prog 47 #[.string key, .string nonce] w fun e w' => e = .returned (.int .i64 6) ∧ w = w' := by
  by_cases h1 : key.size = 32
  · have h2 : nonce.size ≠ 12 := by omega
    have e1 : ((nonce.size : Int) == 12) = false := by simp; omega
    have e2 : ((nonce.size : Int) != 12) = true := by simp; omega
    go_enter Try.func47, Try.ntmps47
    go_wp2_with fail
    go_ret
    exact ⟨rfl, rfl⟩
  · have e1 : ((key.size : Int) == 32) = false := by simp; omega
    have e2 : ((key.size : Int) != 32) = true := by simp; omega
    go_enter Try.func47, Try.ntmps47
    go_wp2_with fail
    go_ret
    exact ⟨rfl, rfl⟩
end Go.Proofs.Ytnjmcppljbkhnaa
