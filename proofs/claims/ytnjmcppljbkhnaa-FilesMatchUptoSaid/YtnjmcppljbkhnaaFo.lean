import Derived.Test.YtnjmcppljbkhnaaFm
set_option linter.unusedVariables false
set_option linter.unusedSimpArgs false
namespace Go.Proofs.Ytnjmcppljbkhnaa
open Go.RowKit
theorem below_grown {B g : Nat} {w w1 w2 : World} (h : Below B w w1) (ho : w1.grownBy w2 (some g)) (hg : B ≤ g) (hB : B ≤ w.heap.size) : Below B w w2 :=
  ⟨ho.os.trans h.os, ho.tape.trans h.tape, ho.output.trans h.output, Nat.le_trans h.size ho.size, fun k hk => (ho.block k (by have := h.size; omega) (by simp; omega)).trans (h.block k hk)⟩
set_option maxRecDepth 100000 in
set_option maxHeartbeats 1000000 in
theorem seal35_ok (c n t nonce text : ByteArray) (w : World) (m : Nat) (hc : c.size = 32) (hn : n.size = 32) (ht : t.size = 16) (hnn : nonce.size = 12) (hs : text.size ≤ 1048576) (hm : (text.size - 1) / 1024 = m) :
    Calls Try.prog 35 #[.agg #[.string c, .string n, .string t], .string nonce, .string text] w fun e w' => e = .returned (.tuple #[.string (wrN c (markS ++ nonce) (markS ++ nonce) 0 text m ++ partB c (markS ++ nonce) m true (text.extract (1024 * m) text.size)), .int .i64 0]) ∧ Below w.heap.size w w' := by
  have HN := Lib.hid (fun w => newSealer39_ok c n t nonce w hc hn ht hnn)
  have hh : (markS ++ nonce).size = 20 := by rw [mark_size]; omega
  have HW := Lib.hid (fun g (W : World) (h : SL W g c n t (markS ++ nonce) false false ⟨#[]⟩ 0 0) => write40 g c n t (markS ++ nonce) false ⟨#[]⟩ 0 0 text W (markS ++ nonce) text m h hc hh (by omega) (by show 0 ≤ 1024; omega) (by omega) (if_neg (by simp)) (nil_append text) hm)
  have HCL := Lib.hid (fun g (W : World) (h : SL W g c n t (markS ++ nonce) true false (text.extract (1024 * m) text.size) (0 + m) (0 + text.size)) => (close41 g c n t (markS ++ nonce) true (text.extract (1024 * m) text.size) (0 + m) (0 + text.size) W h hc hh (by omega) (by simp; omega)).mono (R' := fun e w' => e = .returned (.tuple #[.string (partB c (markS ++ nonce) m true (text.extract (1024 * m) text.size)), .int .i64 0]) ∧ W.grownBy w' (some g)) fun e w' q => ⟨by rw [q.1, if_pos rfl, Nat.zero_add, ByteArray.empty_append], q.2⟩)
  have HBb := Lib.hid (wrN_size c (markS ++ nonce) (markS ++ nonce) 0 text m)
  have HPb := Lib.hid (partB_size c (markS ++ nonce) m true (text.extract (1024 * m) text.size))
  have HLs := Lib.hid (show (text.extract (1024 * m) text.size).size ≤ 1024 from by simp; omega)
  have d1 : ¬ ((1048576 : Int) < (text.size : Nat)) := by omega
  have hmb : m ≤ 1024 := by omega
  have HH := Lib.hid hh
  clear hc hn ht hnn hh
  generalize markS ++ nonce = head at *
  have hsum : (wrN c head head 0 text m).size + (partB c head m true (text.extract (1024 * m) text.size)).size ≤ 2000000 := by
    have := HBb.out; have := HPb.out; have := HLs.out; have := HH.out; omega
  generalize hA : wrN c head head 0 text m = A at *
  generalize hP : partB c head m true (text.extract (1024 * m) text.size) = P at *
  have a1 : A.size + P.size ≤ 9223372036854775807 := by omega
  have a2 : A.size + P.size ≤ maxLen := by unfold maxLen; omega
  have a3 : ¬ maxLen < A.size + P.size := by unfold maxLen; omega
  have a4 : ¬ 9223372036854775807 < A.size + P.size := by omega
  go_enter Try.func35, Try.ntmps35
  go_wp2_with fail
  refine (HN.out _).mono ?_
  rintro e w1 ⟨g, rfl, hg, hsl, hb1⟩
  have HSL := Lib.hid hsl
  have HB1 := Lib.hid hb1
  clear hsl hb1
  go_wp2_with fail
  refine (HW.out g w1 HSL.out).mono ?_
  rintro e w2 ⟨rfl, hsl2, hgr2⟩
  have HSL2 := Lib.hid hsl2
  have HB2 := Lib.hid (below_grown HB1.out hgr2 hg (Nat.le_refl _))
  clear hsl2 hgr2
  go_wp2_with fail
  refine (HCL.out g w2 HSL2.out).mono ?_
  rintro e w3 ⟨rfl, hgr3⟩
  have HB3 := Lib.hid (below_grown HB2.out hgr3 hg (Nat.le_refl _))
  clear hgr3
  go_wp2_with fail
  go_ret2
  exact ⟨rfl, ((Below.refl w.heap.size w).alloc (Nat.le_refl _) (.cells #[Value.string c, Value.string n, Value.string t] 60)).trans (HB3.out.mono (by simp))⟩
set_option maxRecDepth 100000 in
set_option maxHeartbeats 1000000 in
theorem seal35_large (c n t nonce text : ByteArray) (w : World) (hc : c.size = 32) (hn : n.size = 32) (ht : t.size = 16) (hnn : nonce.size = 12) (hs : 1048576 < text.size) :
    Calls Try.prog 35 #[.agg #[.string c, .string n, .string t], .string nonce, .string text] w fun e w' => e = .returned (.tuple #[.string ByteArray.empty, .int .i64 8]) ∧ Below w.heap.size w w' := by
  have HN := Lib.hid (fun w => newSealer39_ok c n t nonce w hc hn ht hnn)
  have d1 : ((1048576 : Int) < (text.size : Nat)) := by omega
  clear hc hn ht hnn
  go_enter Try.func35, Try.ntmps35
  go_wp2_with fail
  refine (HN.out _).mono ?_
  rintro e w1 ⟨g, rfl, hg, hsl, hb1⟩
  have HB1 := Lib.hid hb1
  clear hsl hb1
  go_wp2_with fail
  go_ret2
  exact ⟨rfl, ((Below.refl w.heap.size w).alloc (Nat.le_refl _) (.cells #[Value.string c, Value.string n, Value.string t] 60)).trans (HB1.out.mono (by simp))⟩
set_option maxRecDepth 100000 in
set_option maxHeartbeats 1000000 in
theorem seal35_bad (c n t nonce text : ByteArray) (w : World) (E : Int) (hE : E ≠ 0) (HN : ∀ w, Calls Try.prog 39 #[.agg #[.string c, .string n, .string t], .string nonce] w fun e w' => e = .returned (.tuple #[.pointer none, .int .i64 E]) ∧ Below w.heap.size w w') :
    Calls Try.prog 35 #[.agg #[.string c, .string n, .string t], .string nonce, .string text] w fun e w' => e = .returned (.tuple #[.string ByteArray.empty, .int .i64 E]) ∧ Below w.heap.size w w' := by
  have HN := Lib.hid HN
  have d1 : (E == (0 : Int)) = false := by simp; exact hE
  have d2 : (E != (0 : Int)) = true := by simp; exact hE
  go_enter Try.func35, Try.ntmps35
  go_wp2_with fail
  refine (HN.out _).mono ?_
  rintro e w1 ⟨rfl, hb1⟩
  have HB1 := Lib.hid hb1
  clear hb1
  go_wp2_with fail
  go_ret2
  exact ⟨rfl, ((Below.refl w.heap.size w).alloc (Nat.le_refl _) (.cells #[Value.string c, Value.string n, Value.string t] 60)).trans (HB1.out.mono (by simp))⟩
end Go.Proofs.Ytnjmcppljbkhnaa

set_option linter.unusedVariables false
set_option linter.unusedSimpArgs false
namespace Go.Proofs.Ytnjmcppljbkhnaa
open Go.RowKit
theorem wrN_base (c head base : ByteArray) (part : Nat) (R : ByteArray) (k : Nat) : wrN c head base part R k = base ++ wrN c head ⟨#[]⟩ part R k := by
  induction k with
  | zero => show base = base ++ ByteArray.empty; rw [ByteArray.append_empty]
  | succ k ih => rw [wrN, wrN, ih, ByteArray.append_assoc]
theorem wrN_add (c head base : ByteArray) (part : Nat) (R : ByteArray) (p k : Nat) (h : 1024 * (p + k) ≤ R.size) : wrN c head base part R (p + k) = wrN c head (wrN c head base part R p) (part + p) (R.extract (1024 * p) R.size) k := by
  induction k with
  | zero => rfl
  | succ k ih =>
    rw [← Nat.add_assoc, wrN, wrN, ih (by omega), Nat.add_assoc]
    have e : (R.extract (1024 * p) R.size).extract (1024 * k) (1024 * k + 1024) = R.extract (1024 * (p + k)) (1024 * (p + k) + 1024) := by
      apply ByteArray.ext
      simp only [ByteArray.data_extract, Array.extract_extract]
      congr 1 <;> omega
    rw [e]
theorem wrN_fileN (c head text : ByteArray) (m k : Nat) (hm : 1024 * m ≤ text.size) (hk : k ≤ m) : wrN c head head 0 text k = fileN c head text (m + 1) k := by
  induction k with
  | zero => rfl
  | succ k ih =>
    rw [wrN, fileN, ih (by omega), Nat.zero_add, decide_eq_false (by omega)]
    have e : text.extract (1024 * k) (1024 * k + 1024) = blkS text 1024 k := by
      unfold blkS cutAt
      rw [Nat.min_eq_left (by omega), Nat.min_eq_left (by omega)]
      congr 1 <;> omega
    rw [e]
theorem nparts_m (text : ByteArray) : nparts text = (text.size - 1) / 1024 + 1 := by
  unfold nparts; omega
theorem seal_fileN (c head text : ByteArray) (m : Nat) (hm : (text.size - 1) / 1024 = m) : wrN c head head 0 text m ++ partB c head m true (text.extract (1024 * m) text.size) = fileN c head text (nparts text) (nparts text) := by
  rw [nparts_m, hm, fileN, wrN_fileN c head text m m (by omega) (Nat.le_refl _), decide_eq_true rfl]
  have e : text.extract (1024 * m) text.size = blkS text 1024 m := by
    unfold blkS cutAt
    rw [Nat.min_eq_left (by omega), Nat.min_eq_right (by omega)]
    congr 1; omega
  rw [e]
/-- the pieces: what is left, with a further piece. -/
theorem rest_more (F t : ByteArray) (p : Nat) (hp : 1024 * p ≤ F.size) : F.extract (1024 * p) F.size ++ t = (F ++ t).extract (1024 * p) (F ++ t).size := by
  apply ByteArray.ext
  simp only [ByteArray.data_extract, ByteArray.data_append, ByteArray.size_append]
  have e1 : F.data.size = F.size := rfl
  have e2 : t.data.size = t.size := rfl
  rw [Array.extract_append]
  congr 1
  · apply Array.ext'
    simp only [Array.toList_extract, List.extract_eq_take_drop]
    rw [List.take_of_length_le (by simp [e1]), List.take_of_length_le (by simp [e1]; omega)]
  · rw [e1, Nat.sub_eq_zero_of_le hp, Nat.add_sub_cancel_left, ← e2]
    exact (Array.extract_size).symm
end Go.Proofs.Ytnjmcppljbkhnaa
