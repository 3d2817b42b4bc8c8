import Derived.Test.YtnjmcppljbkhnaaYa
set_option linter.unusedVariables false
set_option linter.unusedSimpArgs false
namespace Go.Proofs.Ytnjmcppljbkhnaa
open Go.RowKit
/-- a number out of a list of digits, the lowest first. -/
def valD : List Nat → Nat
  | [] => 0
  | d :: t => d + 256 * valD t
theorem valD_snoc (L : List Nat) (d : Nat) : valD (L ++ [d]) = valD L + 256 ^ L.length * d := by
  induction L with
  | nil => simp [valD]
  | cons a t ih =>
    simp only [List.cons_append, valD, ih, List.length_cons, Nat.pow_succ]
    rw [Nat.mul_add, Nat.add_assoc, ← Nat.mul_assoc, Nat.mul_comm 256 (256 ^ t.length)]
def digV (L : List Nat) : List Value := L.map fun (d : Nat) => Value.int .i64 (d : Int)
def digS (s : ByteArray) (n : Nat) : List Nat := (List.range n).map (at8 s)
theorem digS_succ (s : ByteArray) (n : Nat) : digS s (n + 1) = digS s n ++ [at8 s n] := by simp [digS, List.range_succ]
theorem digS_len (s : ByteArray) (n : Nat) : (digS s n).length = n := by simp [digS]
theorem valD_digS (s : ByteArray) (n : Nat) : valD (digS s n) = leB (at8 s) n := by
  induction n with
  | zero => rfl
  | succ n ih => rw [digS_succ, valD_snoc, ih, digS_len, leB, Nat.mul_comm]
theorem info3d : (Try.prog.info? 3).map (fun i => (i.zero, i.size, i.bytes)) = some (some (.int .i64 0), 1, 8) := by kernel_rfl
theorem underlying89d : Try.prog.underlying 89 = some (.slice 3) := by kernel_rfl
set_option maxRecDepth 100000 in
set_option maxHeartbeats 2000000 in
theorem digitOf55 (s : ByteArray) (w : World) (hs : s.size ≤ 1048576) :
    Calls Try.prog 55 #[.string s] w fun e w' => ∃ v : Value, e = .returned v ∧ w'.ownsRow w.heap.size 3 1 v s.size (digV (digS s s.size)) ∧ Below w.heap.size w w' := by
  obtain ⟨i0, hi0, hi1, hi2, hi3⟩ := info_parts info3d
  go_enter Try.func55, Try.ntmps55
  go_wp2_with fail
  go_loopw [3, 7] (fun lv iv wr => ∃ k : Nat, k ≤ s.size ∧ iv = .int .i64 k ∧ wr.ownsRow w.heap.size 3 1 lv k (digV (digS s k)) ∧ Below w.heap.size w wr) (fun _ iv _ => s.size - (intOf iv).toNat)
  case atStart => exact ⟨0, by omega, rfl, World.ownsRow_nil _ _ _ _, Below.refl _ _⟩
  case round =>
    obtain ⟨k, hk, rfl, hown, hb⟩ := hrel
    have HO := Lib.hid hown
    have HB := Lib.hid hb
    clear hown hb
    by_cases hlt : k < s.size
    · have hd : decide ((k : Int) < (s.size : Int)) = true := decide_eq_true (by omega)
      have i1 : (k : Int) < (s.size : Int) := by omega
      have e1 := at8_get s k hlt
      have hu : at8 s k < 256 := at8_lt s k
      have HK1 := Lib.hid (show k + 1 ≤ s.size from hlt)
      go_wp2_with (at_builtin; refine wpList_append_own _ rfl _ _ 89 rfl w.heap.size 3 i0 (.int .i64 0) 1 8 underlying89d hi0 hi1 hi2 hi3 rfl (by decide) _ _ _ rfl (HO.out.alloc _) ⟨wr.heap.size, 0, none⟩ 1 1 [.int .i64 (at8 s k : Int)] rfl rfl ?c1 ?c2 ?c3 ?c4 ?c5 ?_)
      case c1 =>
        intro j u hj
        match j, hj with
        | 0, hj => simp at hj; subst hj; simp [Addr.add]
      case c2 => intro u hu; simp at hu; subst hu; rfl
      case c3 => have := HK1.out; unfold maxLen; omega
      case c4 => have := HK1.out; omega
      case c5 => have := HB.out.size; simp; omega
      intro v' w1 hown' hgrow _
      have HBN := Lib.hid (show Below w.heap.size w w1 from ((HB.out).alloc HB.out.size _).grown hgrow (by have := HB.out.size; simp; omega) (by
        intro q hq
        obtain ⟨_, h2⟩ := HO.out
        rcases h2 with ⟨rfl, _⟩ | ⟨g, cap, cur, rfl, hbg, _⟩
        · simp [Value.ownBlock] at hq
        · simp [Value.ownBlock] at hq
          omega))
      have HON := Lib.hid (show w1.ownsRow w.heap.size 3 1 v' (k + 1) (digV (digS s (k + 1))) from by
        rw [digS_succ]
        unfold digV at *
        rw [List.map_append]
        exact hown')
      clear hown' hgrow HO HB
      go_wp2_with fail
      go_roundw
      case rel => exact ⟨k + 1, HK1.out, by go_num, HON.out, HBN.out⟩
      case measure => simp [intOf]; omega
    · have hd : decide ((k : Int) < (s.size : Int)) = false := decide_eq_false (by omega)
      obtain rfl : k = s.size := by omega
      go_wp2_with fail
      go_ret
      exact ⟨_, rfl, HO.out, HB.out⟩
end Go.Proofs.Ytnjmcppljbkhnaa
