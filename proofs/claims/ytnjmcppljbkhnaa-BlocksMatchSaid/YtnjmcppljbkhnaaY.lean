import Derived.Test.YtnjmcppljbkhnaaX
import Derived.OwnWalk
set_option linter.unusedVariables false
set_option linter.unusedSimpArgs false
namespace Go.Proofs.Ytnjmcppljbkhnaa
open Go.RowKit

theorem info9s : (Try.prog.info? 9).map (fun i => (i.zero, i.size, i.bytes)) = some (some (.string ⟨#[]⟩), 1, 16) := by kernel_rfl
/-- where block k begins. -/
def cutAt (s : ByteArray) (sz k : Nat) : Nat := min (k * sz) s.size
def blkS (s : ByteArray) (sz k : Nat) : ByteArray := s.extract (cutAt s sz k) (cutAt s sz (k + 1))
def blkL (s : ByteArray) (sz n : Nat) : List ByteArray := (List.range n).map (blkS s sz)
theorem blkL_succ (s : ByteArray) (sz n : Nat) : blkL s sz (n + 1) = blkL s sz n ++ [blkS s sz n] := by simp [blkL, List.range_succ]
theorem blkL_len (s : ByteArray) (sz n : Nat) : (blkL s sz n).length = n := by simp [blkL]
theorem cutAt_le (s : ByteArray) (sz k : Nat) : cutAt s sz k ≤ s.size := Nat.min_le_right _ _
theorem cutAt_next (s : ByteArray) (sz k : Nat) : cutAt s sz (k + 1) = cutAt s sz k + min sz (s.size - cutAt s sz k) := by
  unfold cutAt
  rw [Nat.succ_mul]
  generalize k * sz = q
  omega
theorem cutAt_ge (s : ByteArray) (sz k : Nat) (h0 : 0 < sz) (h : cutAt s sz k < s.size) : k ≤ cutAt s sz k := by
  unfold cutAt at *
  have : k ≤ k * sz := Nat.le_mul_of_pos_right k h0
  omega
theorem cut_head (s : ByteArray) (c m : Nat) (h : c + m ≤ s.size) : (s.extract c s.size).extract 0 m = s.extract c (c + m) := by
  rw [ByteArray.extract_extract]
  congr 1
  omega
theorem cut_tail (s : ByteArray) (c m : Nat) : (s.extract c s.size).extract m (s.extract c s.size).size = s.extract (c + m) s.size := by
  rw [ByteArray.extract_extract]
  congr 1
  simp
  omega
set_option maxRecDepth 100000 in
set_option maxHeartbeats 2000000 in
theorem blocks56 (s : ByteArray) (sz : Nat) (w : World) (hs : s.size ≤ 1099511627776) (h0 : 0 < sz) (hz : sz ≤ 1048576) :
    Calls Try.prog 56 #[.string s, .int .i64 sz] w fun e w' => ∃ (n : Nat) (v : Value), e = .returned v ∧ cutAt s sz n = s.size ∧ (∀ k, k < n → cutAt s sz k < s.size) ∧ n ≤ s.size ∧ w'.ownsRow w.heap.size 9 1 v n ((blkL s sz n).map Value.string) ∧ Below w.heap.size w w' := by
  obtain ⟨i0, hi0, hi1, hi2, hi3⟩ := info_parts info9s
  go_enter Try.func56, Try.ntmps56
  go_wp2_with fail
  go_loopw [0, 5] (fun tv lv wr => ∃ (k : Nat) (T : ByteArray), k ≤ s.size ∧ Hid (∀ j, j < k → cutAt s sz j < s.size) ∧ tv = .string T ∧ Hid (T = s.extract (cutAt s sz k) s.size) ∧ wr.ownsRow w.heap.size 9 1 lv k ((blkL s sz k).map Value.string) ∧ Below w.heap.size w wr) (fun tv _ _ => (strOf tv).size)
  case atStart =>
    refine ⟨0, s, by omega, Lib.hid (fun j hj => absurd hj (Nat.not_lt_zero j)), rfl, ?_, ?_, Below.refl _ _⟩
    · show s = s.extract (cutAt s sz 0) s.size
      apply ByteArray.ext
      simp [cutAt]
    · exact World.ownsRow_nil _ _ _ _
  case round =>
    obtain ⟨k, T, hk, HPR, rfl, HT, hown, hb⟩ := hrel
    have HB := Lib.hid hb
    have HO := Lib.hid hown
    clear hb hown
    have hTs : T.size = s.size - cutAt s sz k := by rw [HT.out]; simp
    have hcl := cutAt_le s sz k
    have hTm : T.size ≤ 1099511627776 := by omega
    by_cases hne : 0 < T.size
    · obtain ⟨m, hm1, hm2, hm3, hmm⟩ : ∃ m : Nat, m ≤ sz ∧ m ≤ T.size ∧ 0 < m ∧ m = min sz T.size := ⟨min sz T.size, by omega, by omega, by omega, rfl⟩
      have hmin : min (sz : Int) (T.size : Int) = (m : Int) := by omega
      have hmin2 : (if (T.size : Int) < (sz : Int) then (T.size : Int) else (sz : Int)) = (m : Int) := by split <;> omega
      have hge := cutAt_ge s sz k h0 (by omega)
      have HCN := Lib.hid (show cutAt s sz (k + 1) = cutAt s sz k + m from by rw [cutAt_next, hmm, hTs])
      have HM := Lib.hid (show cutAt s sz k + m ≤ s.size from by omega)
      have HPN := Lib.hid (show ∀ j, j < k + 1 → cutAt s sz j < s.size from fun j hj => by
        rcases Nat.lt_or_ge j k with h | h
        · exact HPR.out j h
        · obtain rfl : j = k := by omega
          omega)
      have HK1 := Lib.hid (show k + 1 ≤ s.size from by omega)
      have hmi : (m : Int) ≤ (T.size : Int) := by omega
      have hd : decide ((0 : Int) < (T.size : Int)) = true := decide_eq_true (by omega)
      have hd2 : decide (0 < T.size) = true := decide_eq_true hne
      have HBS := Lib.hid (show T.extract 0 m = blkS s sz k from by
        unfold blkS
        rw [HCN.out, HT.out]
        exact cut_head s _ m HM.out)
      have HTN := Lib.hid (show T.extract m T.size = s.extract (cutAt s sz (k + 1)) s.size from by
        rw [HCN.out, HT.out]
        exact cut_tail s _ m)
      have HTS := Lib.hid hTs
      clear hTs hcl hge hmm
      go_wp2_with (at_builtin; refine wpList_append_own _ rfl _ _ 61 rfl w.heap.size 9 i0 (.string ⟨#[]⟩) 1 16 Try.underlying61 hi0 hi1 hi2 hi3 rfl (by decide) _ _ _ rfl (HO.out.alloc _) ⟨wr.heap.size, 0, none⟩ 1 1 [.string (T.extract 0 m)] rfl rfl ?c1 ?c2 ?c3 ?c4 ?c5 ?_)
      case c1 =>
        intro j u hj
        match j, hj with
        | 0, hj => simp at hj; subst hj; simp [Addr.add]
      case c2 => intro u hu; simp at hu; subst hu; rfl
      case c3 => have := HK1.out; unfold maxLen; omega
      case c4 => have := HK1.out; omega
      case c5 => have := HB.out.size; simp; omega
      intro v' w1 hown' hgrow _
      have HBN := Lib.hid (show Below w.heap.size w w1 from ((HB.out).alloc HB.out.size _).grown hgrow (by have := HB.out.size; simp; omega) (by
        intro q hq
        obtain ⟨_, h2⟩ := HO.out
        rcases h2 with ⟨rfl, _⟩ | ⟨g, cap, cur, rfl, hbg, _⟩
        · simp [Value.ownBlock] at hq
        · simp [Value.ownBlock] at hq
          omega))
      have HON := Lib.hid (show w1.ownsRow w.heap.size 9 1 v' (k + 1) ((blkL s sz (k + 1)).map Value.string) from by
        rw [blkL_succ, List.map_append, ← HBS.out]
        exact hown')
      have HMS := Lib.hid (show (T.extract m T.size).size < T.size from by simp; omega)
      clear hown' hgrow HO HB
      go_wp2_with fail
      go_roundw
      case rel => exact ⟨k + 1, _, HK1.out, HPN, rfl, HTN.out, HON.out, HBN.out⟩
      case measure => exact HMS.out
    · have hd : decide ((0 : Int) < (T.size : Int)) = false := decide_eq_false (by omega)
      have hd2 : decide (0 < T.size) = false := decide_eq_false hne
      have HE := Lib.hid (show cutAt s sz k = s.size from by omega)
      clear hTs hcl
      go_wp2_with fail
      go_ret
      exact ⟨k, _, rfl, HE.out, HPR.out, hk, HO.out, HB.out⟩
end Go.Proofs.Ytnjmcppljbkhnaa
