import Derived.Test.YtnjmcppljbkhnaaX
import Derived.OwnWalk
set_option linter.unusedVariables false
set_option linter.unusedSimpArgs false
namespace Go.Proofs.Ytnjmcppljbkhnaa
open Go.RowKit

theorem info9s : (Try.prog.info? 9).map (fun i => (i.zero, i.size, i.bytes)) = some (some (.string ⟨#[]⟩), 1, 16) := by kernel_rfl
/-- where block k begins. -/
def cutAt (s : ByteArray) (sz k : Nat) : Nat := min (k * sz) s.size
def blkS (s : ByteArray) (sz k : Nat) : ByteArray := s.extract (cutAt s sz k) (cutAt s sz (k + 1))
def blkL (s : ByteArray) (sz n : Nat) : List ByteArray := (List.range n).map (blkS s sz)
theorem blkL_succ (s : ByteArray) (sz n : Nat) : blkL s sz (n + 1) = blkL s sz n ++ [blkS s sz n] := by simp [blkL, List.range_succ]
theorem blkL_len (s : ByteArray) (sz n : Nat) : (blkL s sz n).length = n := by simp [blkL]
theorem cutAt_le (s : ByteArray) (sz k : Nat) : cutAt s sz k ≤ s.size := Nat.min_le_right _ _
theorem cutAt_next (s : ByteArray) (sz k : Nat) : cutAt s sz (k + 1) = cutAt s sz k + min sz (s.size - cutAt s sz k) := by
  unfold cutAt
  rw [Nat.succ_mul]
  generalize k * sz = q
  omega
theorem cutAt_ge (s : ByteArray) (sz k : Nat) (h0 : 0 < sz) (h : cutAt s sz k < s.size) : k ≤ cutAt s sz k := by
  unfold cutAt at *
  have : k ≤ k * sz := Nat.le_mul_of_pos_right k h0
  omega
theorem cut_head (s : ByteArray) (c m : Nat) (h : c + m ≤ s.size) : (s.extract c s.size).extract 0 m = s.extract c (c + m) := by
  rw [ByteArray.extract_extract]
  congr 1
  omega
theorem cut_tail (s : ByteArray) (c m : Nat) : (s.extract c s.size).extract m (s.extract c s.size).size = s.extract (c + m) s.size := by
  rw [ByteArray.extract_extract]
  congr 1
  simp
  omega
set_option maxRecDepth 100000 in
set_option maxHeartbeats 2000000 in
theorem blocks56 (s : ByteArray) (sz : Nat) (w : World) (hs : s.size ≤ 1099511627776) (h0 : 0 < sz) (hz : sz ≤ 1048576) :
    Calls Try.prog 56 #[.string s, .int .i64 sz] w fun e w' => ∃ (n : Nat) (v : Value), e = .returned v ∧ cutAt s sz n = s.size ∧ (∀ k, k < n → cutAt s sz k < s.size) ∧ n ≤ s.size ∧ w'.ownsRow w.heap.size 9 1 v n ((blkL s sz n).map Value.string) ∧ Below w.heap.size w w' := by
  obtain ⟨i0, hi0, hi1, hi2, hi3⟩ := info_parts info9s
  go_enter Try.func56, Try.ntmps56
  go_wp2_with fail
  go_loopw [0, 5] (fun tv lv wr => ∃ (k : Nat) (T : ByteArray), k ≤ s.size ∧ Hid (∀ j, j < k → cutAt s sz j < s.size) ∧ tv = .string T ∧ Hid (T = s.extract (cutAt s sz k) s.size) ∧ wr.ownsRow w.heap.size 9 1 lv k ((blkL s sz k).map Value.string) ∧ Below w.heap.size w wr) (fun tv _ _ => (strOf tv).size)
  case atStart =>
    refine ⟨0, s, by omega, Lib.hid (fun j hj => absurd hj (Nat.not_lt_zero j)), rfl, ?_, ?_, Below.refl _ _⟩
    · show s = s.extract (cutAt s sz 0) s.size
      apply ByteArray.ext
      simp [cutAt]
    · exact World.ownsRow_nil _ _ _ _
  case round =>
    obtain ⟨k, T, hk, HPR, rfl, HT, hown, hb⟩ := hrel
    have HB := Lib.hid hb
    have HO := Lib.hid hown
    clear hb hown
    have hTs : T.size = s.size - cutAt s sz k := by rw [HT.out]; simp
    have hcl := cutAt_le s sz k
    have hTm : T.size ≤ 1099511627776 := by omega
    by_cases hne : 0 < T.size
    · obtain ⟨m, hm1, hm2, hm3, hmm⟩ : ∃ m : Nat, m ≤ sz ∧ m ≤ T.size ∧ 0 < m ∧ m = min sz T.size := ⟨min sz T.size, by omega, by omega, by omega, rfl⟩
      have hmin : min (sz : Int) (T.size : Int) = (m : Int) := by omega
      have hmin2 : (if (T.size : Int) < (sz : Int) then (T.size : Int) else (sz : Int)) = (m : Int) := by split <;> omega
      have hge := cutAt_ge s sz k h0 (by omega)
      have HCN := Lib.hid (show cutAt s sz (k + 1) = cutAt s sz k + m from by rw [cutAt_next, hmm, hTs])
      have HM := Lib.hid (show cutAt s sz k + m ≤ s.size from by omega)
      have HPN := Lib.hid (show ∀ j, j < k + 1 → cutAt s sz j < s.size from fun j hj => by
        rcases Nat.lt_or_ge j k with h | h
        · exact HPR.out j h
        · obtain rfl : j = k := by omega
          omega)
      have HK1 := Lib.hid (show k + 1 ≤ s.size from by omega)
      have hmi : (m : Int) ≤ (T.size : Int) := by omega
      have hd : decide ((0 : Int) < (T.size : Int)) = true := decide_eq_true (by omega)
      have hd2 : decide (0 < T.size) = true := decide_eq_true hne
      have HBS := Lib.hid (show T.extract 0 m = blkS s sz k from by
        unfold blkS
        rw [HCN.out, HT.out]
        exact cut_head s _ m HM.out)
      have HTN := Lib.hid (show T.extract m T.size = s.extract (cutAt s sz (k + 1)) s.size from by
        rw [HCN.out, HT.out]
        exact cut_tail s _ m)
      have HTS := Lib.hid hTs
      clear hTs hcl hge hmm
      go_wp2_with (at_builtin; refine wpList_append_own _ rfl _ _ 61 rfl w.heap.size 9 i0 (.string ⟨#[]⟩) 1 16 Try.underlying61 hi0 hi1 hi2 hi3 rfl (by decide) _ _ _ rfl (HO.out.alloc _) ⟨wr.heap.size, 0, none⟩ 1 1 [.string (T.extract 0 m)] rfl rfl ?c1 ?c2 ?c3 ?c4 ?c5 ?_)
      case c1 =>
        intro j u hj
        match j, hj with
        | 0, hj => simp at hj; subst hj; simp [Addr.add]
      case c2 => intro u hu; simp at hu; subst hu; rfl
      case c3 => have := HK1.out; unfold maxLen; omega
      case c4 => have := HK1.out; omega
      case c5 => have := HB.out.size; simp; omega
      intro v' w1 hown' hgrow _
      have HBN := Lib.hid (show Below w.heap.size w w1 from ((HB.out).alloc HB.out.size _).grown hgrow (by have := HB.out.size; simp; omega) (by
        intro q hq
        obtain ⟨_, h2⟩ := HO.out
        rcases h2 with ⟨rfl, _⟩ | ⟨g, cap, cur, rfl, hbg, _⟩
        · simp [Value.ownBlock] at hq
        · simp [Value.ownBlock] at hq
          omega))
      have HON := Lib.hid (show w1.ownsRow w.heap.size 9 1 v' (k + 1) ((blkL s sz (k + 1)).map Value.string) from by
        rw [blkL_succ, List.map_append, ← HBS.out]
        exact hown')
      have HMS := Lib.hid (show (T.extract m T.size).size < T.size from by simp; omega)
      clear hown' hgrow HO HB
      go_wp2_with fail
      go_roundw
      case rel => exact ⟨k + 1, _, HK1.out, HPN, rfl, HTN.out, HON.out, HBN.out⟩
      case measure => exact HMS.out
    · have hd : decide ((0 : Int) < (T.size : Int)) = false := decide_eq_false (by omega)
      have hd2 : decide (0 < T.size) = false := decide_eq_false hne
      have HE := Lib.hid (show cutAt s sz k = s.size from by omega)
      clear hTs hcl
      go_wp2_with fail
      go_ret
      exact ⟨k, _, rfl, HE.out, HPR.out, hk, HO.out, HB.out⟩
end Go.Proofs.Ytnjmcppljbkhnaa

set_option linter.unusedVariables false
set_option linter.unusedSimpArgs false
namespace Go.Proofs.Ytnjmcppljbkhnaa
open Go.RowKit

theorem own_strs {w : World} {base : Nat} {v : Value} {n : Nat} {L : List ByteArray} (h : w.ownsRow base 9 1 v n (L.map Value.string)) (hl : L.length = n) :
    (n = 0 ∧ v = .slice none 0 0) ∨ ∃ g cap, v = .slice (some ⟨g, 0, none⟩) n cap ∧ base ≤ g ∧ g < w.heap.size ∧ ∀ k, k < n → w.cell? ⟨g, k, none⟩ = some (.string (L.getD k ByteArray.empty)) := by
  obtain ⟨h1, h2⟩ := h
  rcases h2 with ⟨rfl, h0⟩ | ⟨g, cap, cur, rfl, hb, hg, hc, hm, hs, ht⟩
  · exact Or.inl ⟨by omega, rfl⟩
  · refine Or.inr ⟨g, cap, rfl, hb, ?_, fun k hk => ?_⟩
    · rcases Nat.lt_or_ge g w.heap.size with hlt | hge
      · exact hlt
      · rw [Array.getElem?_eq_none hge] at hg; cases hg
    · have h3 : (cur.toList.take (n * 1))[k]? = cur.toList[k]? := by rw [List.getElem?_take_of_lt (by omega)]
      rw [ht, List.getElem?_map] at h3
      simp [World.cell?, hg]
      simp [List.getD_eq_getElem?_getD, show k < L.length by omega] at h3 ⊢
      simpa using h3.symm
theorem blkL_at (s : ByteArray) (sz n k : Nat) (hk : k < n) : (blkL s sz n).getD k ByteArray.empty = blkS s sz k := by
  simp [blkL, List.getD_eq_getElem?_getD, hk]
theorem blkS_size (s : ByteArray) (sz k : Nat) : (blkS s sz k).size = cutAt s sz (k + 1) - cutAt s sz k := by
  unfold blkS
  have := cutAt_le s sz (k + 1)
  simp
  omega
/-- a block of the reference joins on. -/
theorem streamed_join (key nonce : ByteArray) (c : Nat) (s : ByteArray) (k : Nat) (hk : 64 * k < s.size) :
    strB (cutAt s 64 k) (strm key nonce c s) ++ xorB (blkS s 64 k) ((strB 64 (blockB key nonce ((c + k) % 4294967296))).extract 0 (blkS s 64 k).size) = strB (cutAt s 64 (k + 1)) (strm key nonce c s) := by
  have e0 : cutAt s 64 k = 64 * k := by unfold cutAt; omega
  have e1 : cutAt s 64 (k + 1) = 64 * k + (blkS s 64 k).size := by
    rw [blkS_size, e0]; have := cutAt_next s 64 k; rw [e0] at this; omega
  have hsz : (blkS s 64 k).size ≤ 64 := by
    rw [blkS_size, e0]; unfold cutAt; omega
  have hle := cutAt_le s 64 (k + 1)
  rw [e1, e0]
  unfold xorB
  apply strB_join
  intro j hj
  have a1 : at8 (blkS s 64 k) j = at8 s (64 * k + j) := by
    unfold blkS
    rw [e0]
    exact at8_extract s _ _ j (by omega) hle
  have a2 : at8 ((strB 64 (blockB key nonce ((c + k) % 4294967296))).extract 0 (blkS s 64 k).size) j = blockB key nonce ((c + k) % 4294967296) j := by
    rw [at8_extract _ _ _ j (by omega) (by rw [strB_size]; exact hsz), Nat.zero_add]
    exact at8_strB 64 _ j (by omega) (blockB_lt _ _ _ _)
  rw [a1, a2]
  unfold strm
  rw [show (64 * k + j) / 64 = k by omega, show (64 * k + j) % 64 = j by omega]
set_option maxRecDepth 100000 in
set_option maxHeartbeats 2000000 in
theorem streamed25 (key nonce text : ByteArray) (c : Nat) (w : World) (hk : key.size = 32) (hn : nonce.size = 12) (hc : c < 4294967296) (hs : text.size ≤ 1048576) :
    Calls Try.prog 25 #[.string key, .string nonce, .int .i64 c, .string text] w fun e w' => e = .returned (.string (strmS key nonce c text)) ∧ Below w.heap.size w w' := by
  have HK := Lib.hid hk
  have HNn := Lib.hid hn
  clear hk hn
  go_enter Try.func25, Try.ntmps25
  go_wp2_with fail
  refine (blocks56 text 64 _ (by omega) (by decide) (by decide)).mono ?_
  rintro e w1 ⟨n, v, rfl, hcut, hpre, hns, hown, hb1⟩
  have HB1 := Lib.hid hb1
  have HCU := Lib.hid hcut
  have HPR := Lib.hid hpre
  clear hb1 hcut hpre
  rcases own_strs hown (blkL_len text 64 n) with ⟨rfl, rfl⟩ | ⟨g, cap, rfl, hg1, hg2, hcell⟩
  · have HE := Lib.hid (show strB 0 (strm key nonce c text) = strmS key nonce c text from by
      have h := HCU.out
      unfold cutAt at h
      unfold strmS
      rw [show text.size = 0 by omega])
    clear hown
    go_wp2_with fail
    go_loopw [9, 15] (fun ov iv wr => ov = .string ⟨#[]⟩ ∧ iv = .int .i64 0 ∧ Below w.heap.size w wr) (fun _ _ _ => 0)
    case atStart => exact ⟨rfl, rfl, HB1.out⟩
    case round =>
      obtain ⟨rfl, rfl, hb⟩ := hrel
      go_wp2_with fail
      go_ret
      exact ⟨by rw [← HE.out]; rfl, hb⟩
  · clear hown
    have HCE := Lib.hid (show ∀ k, k < n → w1.cell? ⟨g, k, none⟩ = some (.string (blkS text 64 k)) from fun k hk => by
      rw [← blkL_at text 64 n k hk]; exact hcell k hk)
    have HG1 := Lib.hid hg1
    have HG2 := Lib.hid hg2
    clear hg1 hg2 hcell
    go_wp2_with fail
    go_loopw [9, 15] (fun ov iv wr => ∃ k : Nat, k ≤ n ∧ ov = .string (strB (cutAt text 64 k) (strm key nonce c text)) ∧ iv = .int .i64 k ∧ Below w1.heap.size w1 wr) (fun _ iv _ => n - (intOf iv).toNat)
    case atStart => exact ⟨0, by omega, rfl, rfl, Below.refl _ _⟩
    case round =>
      obtain ⟨k, hkn, rfl, rfl, hb⟩ := hrel
      have HB := Lib.hid hb
      clear hb
      by_cases hlt : k < n
      · have hd : decide ((k : Int) < (n : Int)) = true := decide_eq_true (by omega)
        have hcl : wr.cell? ⟨g, k, none⟩ = some (.string (blkS text 64 k)) := by
          rw [← HCE.out k hlt]
          exact HB.out.cell HG2.out
        go_wp2_with fail
        refine (refBlock50 key nonce ((c + k) % 4294967296) _ HK.out HNn.out (by omega)).mono ?_
        rintro e w2 ⟨rfl, b2⟩
        have HJ := Lib.hid (streamed_join key nonce c text k (by
          have h := HPR.out k hlt
          unfold cutAt at h
          omega))
        have HB2 := Lib.hid b2
        have hbs : (blkS text 64 k).size ≤ 64 := by
          rw [blkS_size]; have := cutAt_next text 64 k; omega
        have hS64 : (strB 64 (blockB key nonce ((c + k) % 4294967296))).size = 64 := strB_size _ _
        have HE64 := Lib.hid (show (blkS text 64 k).size ≤ ((strB 64 (blockB key nonce ((c + k) % 4294967296))).extract 0 (blkS text 64 k).size).size from by simp; omega)
        have hoS : (strB (cutAt text 64 k) (strm key nonce c text)).size ≤ 1048576 := by
          rw [strB_size]; have := cutAt_le text 64 k; omega
        have HK1 := Lib.hid (show k + 1 ≤ n from by omega)
        clear b2
        go_wp2_with fail
        refine (xor60 _ _ _ HE64.out (by omega)).mono ?_
        rintro e w3 ⟨rfl, b3⟩
        have HB3 := Lib.hid b3
        have hxs : (xorB (blkS text 64 k) ((strB 64 (blockB key nonce ((c + k) % 4294967296))).extract 0 (blkS text 64 k).size)).size = (blkS text 64 k).size := by
          unfold xorB; rw [strB_size]
        clear b3
        go_wp2_with fail
        rw [HJ.out]
        go_roundw
        case rel => exact ⟨k + 1, HK1.out, rfl, by simp, (HB.out.trans (HB2.out.mono HB.out.size)).trans (HB3.out.mono (Nat.le_trans HB.out.size HB2.out.size))⟩
        case measure => simp [intOf]; omega
      · have hd : decide ((k : Int) < (n : Int)) = false := decide_eq_false (by omega)
        obtain rfl : k = n := by omega
        go_wp2_with fail
        go_ret
        exact ⟨by rw [HCU.out]; rfl, HB1.out.trans (HB.out.mono HB1.out.size)⟩
end Go.Proofs.Ytnjmcppljbkhnaa

set_option linter.unusedVariables false
set_option linter.unusedSimpArgs false
namespace Go.Proofs.Ytnjmcppljbkhnaa
open Go.RowKit
/-- a number out of a list of digits, the lowest first. -/
def valD : List Nat → Nat
  | [] => 0
  | d :: t => d + 256 * valD t
theorem valD_snoc (L : List Nat) (d : Nat) : valD (L ++ [d]) = valD L + 256 ^ L.length * d := by
  induction L with
  | nil => simp [valD]
  | cons a t ih =>
    simp only [List.cons_append, valD, ih, List.length_cons, Nat.pow_succ]
    rw [Nat.mul_add, Nat.add_assoc, ← Nat.mul_assoc, Nat.mul_comm 256 (256 ^ t.length)]
def digV (L : List Nat) : List Value := L.map fun (d : Nat) => Value.int .i64 (d : Int)
def digS (s : ByteArray) (n : Nat) : List Nat := (List.range n).map (at8 s)
theorem digS_succ (s : ByteArray) (n : Nat) : digS s (n + 1) = digS s n ++ [at8 s n] := by simp [digS, List.range_succ]
theorem digS_len (s : ByteArray) (n : Nat) : (digS s n).length = n := by simp [digS]
theorem valD_digS (s : ByteArray) (n : Nat) : valD (digS s n) = leB (at8 s) n := by
  induction n with
  | zero => rfl
  | succ n ih => rw [digS_succ, valD_snoc, ih, digS_len, leB, Nat.mul_comm]
theorem info3d : (Try.prog.info? 3).map (fun i => (i.zero, i.size, i.bytes)) = some (some (.int .i64 0), 1, 8) := by kernel_rfl
theorem underlying89d : Try.prog.underlying 89 = some (.slice 3) := by kernel_rfl
set_option maxRecDepth 100000 in
set_option maxHeartbeats 2000000 in
theorem digitOf55 (s : ByteArray) (w : World) (hs : s.size ≤ 1048576) :
    Calls Try.prog 55 #[.string s] w fun e w' => ∃ v : Value, e = .returned v ∧ w'.ownsRow w.heap.size 3 1 v s.size (digV (digS s s.size)) ∧ Below w.heap.size w w' := by
  obtain ⟨i0, hi0, hi1, hi2, hi3⟩ := info_parts info3d
  go_enter Try.func55, Try.ntmps55
  go_wp2_with fail
  go_loopw [3, 7] (fun lv iv wr => ∃ k : Nat, k ≤ s.size ∧ iv = .int .i64 k ∧ wr.ownsRow w.heap.size 3 1 lv k (digV (digS s k)) ∧ Below w.heap.size w wr) (fun _ iv _ => s.size - (intOf iv).toNat)
  case atStart => exact ⟨0, by omega, rfl, World.ownsRow_nil _ _ _ _, Below.refl _ _⟩
  case round =>
    obtain ⟨k, hk, rfl, hown, hb⟩ := hrel
    have HO := Lib.hid hown
    have HB := Lib.hid hb
    clear hown hb
    by_cases hlt : k < s.size
    · have hd : decide ((k : Int) < (s.size : Int)) = true := decide_eq_true (by omega)
      have i1 : (k : Int) < (s.size : Int) := by omega
      have e1 := at8_get s k hlt
      have hu : at8 s k < 256 := at8_lt s k
      have HK1 := Lib.hid (show k + 1 ≤ s.size from hlt)
      go_wp2_with (at_builtin; refine wpList_append_own _ rfl _ _ 89 rfl w.heap.size 3 i0 (.int .i64 0) 1 8 underlying89d hi0 hi1 hi2 hi3 rfl (by decide) _ _ _ rfl (HO.out.alloc _) ⟨wr.heap.size, 0, none⟩ 1 1 [.int .i64 (at8 s k : Int)] rfl rfl ?c1 ?c2 ?c3 ?c4 ?c5 ?_)
      case c1 =>
        intro j u hj
        match j, hj with
        | 0, hj => simp at hj; subst hj; simp [Addr.add]
      case c2 => intro u hu; simp at hu; subst hu; rfl
      case c3 => have := HK1.out; unfold maxLen; omega
      case c4 => have := HK1.out; omega
      case c5 => have := HB.out.size; simp; omega
      intro v' w1 hown' hgrow _
      have HBN := Lib.hid (show Below w.heap.size w w1 from ((HB.out).alloc HB.out.size _).grown hgrow (by have := HB.out.size; simp; omega) (by
        intro q hq
        obtain ⟨_, h2⟩ := HO.out
        rcases h2 with ⟨rfl, _⟩ | ⟨g, cap, cur, rfl, hbg, _⟩
        · simp [Value.ownBlock] at hq
        · simp [Value.ownBlock] at hq
          omega))
      have HON := Lib.hid (show w1.ownsRow w.heap.size 3 1 v' (k + 1) (digV (digS s (k + 1))) from by
        rw [digS_succ]
        unfold digV at *
        rw [List.map_append]
        exact hown')
      clear hown' hgrow HO HB
      go_wp2_with fail
      go_roundw
      case rel => exact ⟨k + 1, HK1.out, by go_num, HON.out, HBN.out⟩
      case measure => simp [intOf]; omega
    · have hd : decide ((k : Int) < (s.size : Int)) = false := decide_eq_false (by omega)
      obtain rfl : k = s.size := by omega
      go_wp2_with fail
      go_ret
      exact ⟨_, rfl, HO.out, HB.out⟩
end Go.Proofs.Ytnjmcppljbkhnaa
