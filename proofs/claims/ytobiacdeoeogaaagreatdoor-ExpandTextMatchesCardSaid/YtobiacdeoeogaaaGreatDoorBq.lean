import Derived.Test.YtobiacdeoeogaaaGreatDoorBp
import Derived.Test.YtobiacdeoeogaaaGreatDoorBf
set_option linter.unusedVariables false
set_option linter.unusedSimpArgs false
namespace Go.Proofs.YtobiacdeoeogaaaGreatDoor
open Go.RowKit
/-- a builder whose bytes stand in a row, be its head frozen. -/
structure RowB (b g : Nat) (l : List UInt8) (w : World) : Prop where
  h : ∃ a cap cur fz, Blk w b 50 #[a, .slice (some ⟨g, 0, none⟩) l.length cap] ∧ w.heap[g]? = some (.cells cur 5 fz) ∧ l.length ≤ cap ∧ l.length ≤ cur.size ∧ (∀ (j : Nat) (x : UInt8), l[j]? = some x → cur[j]? = some (.int .u8 (x.toNat : Int)))
theorem RowB.of {w : World} {B b : Nat} {a v : Value} {l : List UInt8} (hB : Blk w b 50 #[a, v]) (hO : w.ownsRow B 5 1 v l.length (Lib.byteCells l)) (h0 : l ≠ []) : ∃ g, v.ownBlock = some g ∧ B ≤ g ∧ RowB b g l w := by
  obtain ⟨hl, h2⟩ := hO
  rcases h2 with ⟨_, hz⟩ | ⟨g, cap, cur, rfl, hg0, hg, hc, _, hcs, ht⟩
  · exact absurd (List.length_eq_zero_iff.1 hz) h0
  · refine ⟨g, rfl, hg0, ⟨a, cap, cur, _, hB, hg, hc, by omega, fun j x hx => ?_⟩⟩
    have hj : j < l.length := (List.getElem?_eq_some_iff.1 hx).1
    have h1 : (cur.toList.take (l.length * 1))[j]? = some (.int .u8 (x.toNat : Int)) := by rw [ht]; simp [Lib.byteCells, hx]
    rw [List.getElem?_take, if_pos (by omega)] at h1
    simpa using h1
theorem TB.rows {B b1 b2 : Nat} {l1 l2 : List UInt8} {w : World} (h : TB B b1 b2 l1 l2 w) (h1 : l1 ≠ []) (h2 : l2 ≠ []) : ∃ g1 g2, g1 ≠ g2 ∧ B ≤ g1 ∧ B ≤ g2 ∧ RowB b1 g1 l1 w ∧ RowB b2 g2 l2 w := by
  obtain ⟨⟨a1, v1, a2, v2, hb1, _, ho1, hb2, _, ho2, h7⟩, _⟩ := h
  obtain ⟨g1, e1, k1, r1⟩ := RowB.of hb1 ho1 h1
  obtain ⟨g2, e2, k2, r2⟩ := RowB.of hb2 ho2 h2
  exact ⟨g1, g2, fun e => h7 g1 e1 (by rw [e]; exact e2), k1, k2, r1, r2⟩
theorem RowB.text {b g : Nat} {l : List UInt8} {w : World} (h : RowB b g l w) (h0 : l ≠ []) (h63 : l.length ≤ 1073741824) : Calls Tryz.prog 24 #[pt b] w fun e w' => e = .returned (.string ⟨l.toArray⟩) ∧ RowB b g l w' ∧ Kp [g] w w' := by
  obtain ⟨a, cap, cur, fz, hB, hg, h1, h2, hc⟩ := h.h
  refine (string_ok b g cap cur fz a l w hB hg h0 h1 h2 h63 hc).mono ?_
  rintro e w' ⟨rfl, ⟨fz', hg'⟩, hk⟩
  refine ⟨rfl, ⟨a, cap, cur, fz', hk.blk hB ?_, hg', h1, h2, hc⟩, hk⟩
  simp only [List.mem_singleton]
  rintro rfl
  unfold Blk at hB
  rw [hg] at hB
  injection hB with hB
  injection hB with _ hB _
  exact absurd hB (by decide)
theorem RowB.kp {b g g' b' : Nat} {l l' : List UInt8} {w w' : World} (h : RowB b g l w) (h' : RowB b' g' l' w) (hn : g ≠ g') (hk : Kp [g'] w w') : RowB b g l w' := by
  obtain ⟨a, cap, cur, fz, hB, hg, r⟩ := h.h
  obtain ⟨_, _, cur', fz', _, hg', _⟩ := h'.h
  refine ⟨a, cap, cur, fz, hk.blk hB ?_, (hk.block g (lt_of_blk hg) (by simpa using hn)).trans hg, r⟩
  simp only [List.mem_singleton]
  rintro rfl
  unfold Blk at hB
  rw [hg'] at hB
  injection hB with hB
  injection hB with _ hB _
  exact absurd hB (by decide)
theorem RowB.below {b g : Nat} {l : List UInt8} {w w' : World} (h : RowB b g l w) (hk : Below w.heap.size w w') : RowB b g l w' := by
  obtain ⟨a, cap, cur, fz, hB, hg, r⟩ := h.h
  exact ⟨a, cap, cur, fz, hB.below hk hB.lt, (hk.block g (lt_of_blk hg)).trans hg, r⟩
theorem TB.made (w : World) : TB w.heap.size w.heap.size (w.heap.size + 1) [] [] ((w.alloc (.cells #[.pointer none, .slice none 0 0] 50)).alloc (.cells #[.pointer none, .slice none 0 0] 50)) :=
  ⟨⟨.pointer none, .slice none 0 0, .pointer none, .slice none 0 0, (Blk.new w _ _).old _, Or.inl rfl, World.ownsRow_nil _ _ _ _, Blk.newAt (by simp), Or.inl rfl, World.ownsRow_nil _ _ _ _, fun g hg => by cases hg⟩, by omega, Nat.le_refl _, Nat.le_succ _⟩
theorem bodyOf_cons (c : List UInt8) (cs : List (List UInt8)) : bodyOf (c :: cs) = (enc1 c).1 ++ bodyOf cs := rfl
theorem wordsOf_cons (c : List UInt8) (cs : List (List UInt8)) : wordsOf' (c :: cs) = wordB ((enc1 c).2 : Int) ++ wordsOf' cs := rfl
theorem isE_true {tx : ByteArray} (hz : tx.size = 0) : tx.toList.isEmpty = true := by
  rw [Lib.toList_data]
  cases e : tx.data.toList with
  | nil => rfl
  | cons a b => have := Lib.size_eq tx; rw [e, List.length_cons] at this; omega
theorem isE_false {tx : ByteArray} (hz : tx.size ≠ 0) : tx.toList.isEmpty = false := by
  rw [Lib.toList_data]
  cases e : tx.data.toList with
  | nil => have := Lib.size_eq tx; rw [e, List.length_nil] at this; omega
  | cons a b => rfl
theorem nil_of_size {tx : ByteArray} (hz : tx.size = 0) : tx.data.toList = [] := by
  cases e : tx.data.toList with
  | nil => rfl
  | cons a b => have := Lib.size_eq tx; rw [e, List.length_cons] at this; omega
theorem TB.sz {B b1 b2 : Nat} {l1 l2 : List UInt8} {w : World} (h : TB B b1 b2 l1 l2 w) : B ≤ w.heap.size := by
  obtain ⟨⟨a1, v1, a2, v2, hb, _⟩, _, hl, _⟩ := h
  exact Nat.le_trans hl (Nat.le_of_lt hb.lt)
theorem TB.four {B b1 b2 : Nat} {l1 l2 : List UInt8} {w0 w : World} (h : TB B b1 b2 l1 l2 w) (hB : Below B w0 w) (x : Int) : Calls Tryz.prog 23 #[.int .i64 x] w fun e w' => ∃ f : ByteArray, e = .returned (.string f) ∧ f.data.toList = wordB x ∧ f.size = 4 ∧ TB B b1 b2 l1 l2 w' ∧ Below B w0 w' := by
  refine (fourBytes_ok x w).mono ?_
  rintro e w' ⟨rfl, hb⟩
  exact ⟨_, rfl, rfl, rfl, h.kp hb, hB.trans (hb.mono h.sz)⟩
theorem TB.write' {B b1 b2 : Nat} {l1 l2 : List UInt8} {w0 w : World} (h : TB B b1 b2 l1 l2 w) (hB : Below B w0 w) (t : ByteArray) (hlen : l1.length + t.size ≤ 140737488355328) :
    Calls Tryz.prog 21 #[pt b1, .string t] w fun e w' => e = .returned (.tuple #[.int .i64 t.size, .nilIface]) ∧ TB B b1 b2 (l1 ++ t.data.toList) l2 w' ∧ Below B w0 w' := by
  refine (h.write t hlen).mono ?_
  rintro e w' ⟨rfl, h1, h2⟩
  exact ⟨rfl, h1, hB.trans h2⟩
theorem wordsOf_len2 : ∀ cs : List (List UInt8), (wordsOf' cs).length = 4 * cs.length
  | [] => rfl
  | c :: cs => by rw [wordsOf_cons, List.length_append, wordB_len, wordsOf_len2 cs, List.length_cons]; omega
theorem ba_app (a b : ByteArray) : (a ++ b).data.toList = a.data.toList ++ b.data.toList := by simp
theorem ba_ext {a b : ByteArray} (h : a.data.toList = b.data.toList) : a = b := by
  cases a; cases b; simp at h; rw [h]
set_option maxRecDepth 100000 in
set_option maxHeartbeats 8000000 in
theorem SqueezeText_ok (n : Nat) (out : ByteArray) (w : World) (hn1 : 16 ≤ n) (hn2 : n ≤ 16384) (ht : out.size ≤ 1048576) : Calls Tryz.prog 6 #[.int .i64 (n : Int), .string out] w fun e w' => e = .returned (.tuple #[.string ⟨(sqT n out.data.toList).toArray⟩, .int .i64 0]) ∧ Below w.heap.size w w' := by
  have hd1 : decide ((n : Int) < 16) = false := decide_eq_false (by omega)
  have hd2 : decide ((n : Int) > 16384) = false := decide_eq_false (by omega)
  have hd3 : decide ((out.size : Int) > 1048576) = false := decide_eq_false (by omega)
  have hs : out.size = out.data.toList.length := Lib.size_eq out
  have HS := Lib.hid hs
  clear hs
  go_enter Tryz.func6, Tryz.ntmps6
  go_wp2_with fail
  have HB0 := (Below.refl w.heap.size w).alloc (Nat.le_refl _) (.cells #[.pointer none, .slice none 0 0] 50)
  have HB1 := Lib.hid (HB0.alloc HB0.size (.cells #[.pointer none, .slice none 0 0] 50))
  have HT1 := Lib.hid (TB.made w)
  clear HB0 hd1 hd2 hd3
  generalize ((w.alloc (.cells #[.pointer none, .slice none 0 0] 50)).alloc (.cells #[.pointer none, .slice none 0 0] 50)) = w1 at *
  generalize hb2 : w.heap.size + 1 = b2 at *
  generalize hb1 : w.heap.size = b1 at *
  have HW := Lib.hid hb1
  clear hb2 hb1
  refine (HT1.out.write ⟨#[87, 72, 83, 81]⟩ (by decide)).mono ?_
  rintro e w2 ⟨rfl, hT2, hB2⟩
  have HT2 := Lib.hid (show TB b1 b1 b2 [87, 72, 83, 81] [] w2 from hT2)
  have HB2 := Lib.hid (HB1.out.trans hB2)
  clear hT2 hB2 HT1 HB1
  go_wp2_with fail
  go_loopg [8, 9, 10, 11] out.size (fun gk x _ _ _ wr => ∃ rest : ByteArray, ∃ l1 l2 : List UInt8, x = .string rest ∧ TB b1 b1 b2 l1 l2 wr ∧ Below b1 w wr ∧ l1 ++ bodyOf (chunksOf n rest.data.toList) = [87, 72, 83, 81] ++ bodyOf (chunksOf n out.data.toList) ∧ l2 ++ wordsOf' (chunksOf n rest.data.toList) = wordsOf' (chunksOf n out.data.toList) ∧ l1.length + rest.size ≤ 4 + out.size ∧ l2.length + 4 * rest.size ≤ 4 * out.size ∧ rest.size ≤ gk ∧ 4 ≤ l1.length)
  case atStart => exact ⟨out, _, _, rfl, HT2.out, HB2.out, rfl, rfl, by simp, by simp, Nat.le_refl _, by simp⟩
  case round =>
    clear HT2 HB2
    obtain ⟨rest, l1, l2, rfl, hT, hB, he1, he2, hz1, hz2, hgk, h4⟩ := hrel
    have HT := Lib.hid hT
    have HB := Lib.hid hB
    have HE1 := Lib.hid he1
    have HE2 := Lib.hid he2
    clear hT hB he1 he2
    by_cases hz : rest.size = 0
    · have hd := isE_true hz
      have hnil := nil_of_size hz
      have e1 := HE1.out
      have e2 := HE2.out
      rw [hnil, chunksOf_nil] at e1 e2
      have e1' : l1 = [87, 72, 83, 81] ++ bodyOf (chunksOf n out.data.toList) := by simpa [bodyOf] using e1
      have e2' : l2 = wordsOf' (chunksOf n out.data.toList) := by simpa [wordsOf'] using e2
      have HE1' := Lib.hid e1'
      have HE2' := Lib.hid e2'
      clear e1 e2 e1' e2' HE1 HE2 hnil
      go_wp2_with fail
      refine (HT.out.four HB.out _).mono ?_
      rintro e w3 ⟨f1, rfl, hf1, hf14, hT3, hB3⟩
      have HT3 := Lib.hid hT3
      have HB3 := Lib.hid hB3
      have HF1 := Lib.hid hf1
      clear hT3 hB3 HT HB hf1
      go_wp2_with fail
      refine (HT3.out.four HB3.out _).mono ?_
      rintro e w4 ⟨f2, rfl, hf2, hf24, hT4, hB4⟩
      have HT4 := Lib.hid hT4.symm
      have HB4 := Lib.hid hB4
      have HF2 := Lib.hid hf2
      clear hT4 hB4 HT3 HB3 hf2
      have hff : f1.size + f2.size ≤ 1000000 := by omega
      go_wp2_with fail
      refine (HT4.out.write' HB4.out (f1 ++ f2) (by rw [ByteArray.size_append]; omega)).mono ?_
      rintro e w5 ⟨rfl, hT5, hB5⟩
      have hidx : l2 ++ (f1 ++ f2).data.toList = idxOf n out.data.toList := by
        rw [ba_app, HF1.out, HF2.out, HE2'.out]
        unfold idxOf
        rw [← HS.out]
      rw [hidx] at hT5
      have hil : (idxOf n out.data.toList).length ≤ 1000000 := by
        rw [← hidx, List.length_append, HE2'.out, wordsOf_len2, chunksOf_len (by omega) _ _ (Nat.le_refl _), ba_app, List.length_append, ← Lib.size_eq, ← Lib.size_eq, ← Lib.size_eq]
        have : (out.size + n - 1) / n < 70000 := (Nat.div_lt_iff_lt_mul (by omega)).2 (by omega)
        omega
      have hl1z : l1.length ≤ 4 + out.size := by omega
      obtain ⟨li, hli⟩ : ∃ li, idxOf n out.data.toList = li := ⟨_, rfl⟩
      rw [hli] at hT5 hil
      have hlin : li ≠ [] := fun e => by
        have := congrArg List.length hidx
        rw [hli, e, ba_app] at this
        simp at this
        have h3 := this.2.1
        rw [h3] at hf14
        simp at hf14
      have HLI := Lib.hid hli
      obtain ⟨g1, g2, hgn, hg1, hg2, r1, r2⟩ := hT5.symm.rows (fun e => by rw [e] at h4; simp at h4) hlin
      have HR1 := Lib.hid r1
      have HR2 := Lib.hid r2
      have HB5 := Lib.hid hB5
      have hsz5 := hT5.sz
      have hl1n : l1 ≠ [] := fun e => by rw [e] at h4; simp at h4
      clear hT5 hB5 HT4 HB4 r1 r2 hidx hli hff
      go_wp2_with fail
      refine (HR1.out.text hl1n (by omega)).mono ?_
      rintro e w6 ⟨rfl, h1, hk⟩
      have HR1' := Lib.hid h1
      have HR2' := Lib.hid (HR2.out.kp HR1.out (fun e => hgn e.symm) hk)
      have HB6 := Lib.hid (HB5.out.trans (hk.below hsz5 (by simpa using hg1)))
      have hsz6 := Nat.le_trans hsz5 hk.size
      clear h1 hk HR1 HR2 HB5 hsz5
      go_wp2_with fail
      refine (HR2'.out.text hlin (by omega)).mono ?_
      rintro e w7 ⟨rfl, h1, hk⟩
      have HR2 := Lib.hid h1
      have HB7 := Lib.hid (HB6.out.trans (hk.below hsz6 (by simpa using hg2)))
      have hsz7 := Nat.le_trans hsz6 hk.size
      clear h1 hk HR1' HR2' HB6 hsz6
      obtain ⟨s1, hs1⟩ : ∃ s1 : ByteArray, (⟨l1.toArray⟩ : ByteArray) = s1 := ⟨_, rfl⟩
      obtain ⟨s2, hs2⟩ : ∃ s2 : ByteArray, (⟨li.toArray⟩ : ByteArray) = s2 := ⟨_, rfl⟩
      have hs1l : s1.data.toList = l1 := by rw [← hs1]
      have hs2l : s2.data.toList = li := by rw [← hs2]
      have hz1 : s1.size = l1.length := by rw [Lib.size_eq, hs1l]
      have hz2 : s2.size = li.length := by rw [Lib.size_eq, hs2l]
      have HTX := Lib.hid (HR2.out.text hlin (by omega))
      rw [hs2] at HTX
      rw [hs1, hs2]
      have HS1 := Lib.hid hs1l
      have HS2 := Lib.hid hs2l
      clear hs1 hs2 hs1l hs2l
      have hsum : s1.size + s2.size ≤ 4000000 := by omega
      go_wp2_with fail
      refine HTX.out.mono ?_
      rintro e w8 ⟨rfl, _, hk⟩
      have HB8 := Lib.hid (HB7.out.trans (hk.below hsz7 (by simpa using hg2)))
      have hsz8 := Nat.le_trans hsz7 hk.size
      clear hk HTX HR2 HB7 hsz7
      go_wp2_with fail
      refine (crcBytesA_ok s2 w8 (by omega)).mono ?_
      rintro e w9 ⟨rfl, hb9⟩
      have HB9 := Lib.hid (HB8.out.trans (hb9.mono hsz8))
      clear hb9 HB8 hsz8
      obtain ⟨cb, hcb⟩ : ∃ cb : ByteArray, (⟨(wordB ((crcOf s2.data.toList : Nat) : Int)).toArray⟩ : ByteArray) = cb := ⟨_, rfl⟩
      have hcl : cb.data.toList = wordB ((crcOf s2.data.toList : Nat) : Int) := by rw [← hcb]
      have hcz : cb.size = 4 := by rw [Lib.size_eq, hcl, wordB_len]
      rw [hcb]
      have HCB := Lib.hid hcl
      clear hcb hcl
      go_wp2_with fail
      go_ret2
      rw [HW.out]
      refine ⟨?_, HB9.out⟩
      have hfin : (s1 ++ s2 ++ cb : ByteArray) = ⟨(sqT n out.data.toList).toArray⟩ := ba_ext (by
        rw [ba_app, ba_app, HS1.out, HCB.out, HS2.out, HE1'.out, ← HLI.out]
        show _ = sqT n out.data.toList
        unfold sqT
        simp only [List.append_assoc])
      rw [hfin]
      rfl
    · have hd := isE_false hz
      obtain ⟨m, hm⟩ : ∃ m : Nat, m = min n rest.size := ⟨_, rfl⟩
      have hmin : min (n : Int) (rest.size : Int) = (m : Int) := by omega
      have hm1 : 1 ≤ m := by omega
      have hm2 : m ≤ rest.size := by omega
      have hm2' : (m : Int) ≤ (rest.size : Int) := by omega
      have hm3 : m ≤ n := by omega
      obtain ⟨pc, hpc⟩ : ∃ pc, rest.extract 0 m = pc := ⟨_, rfl⟩
      obtain ⟨rs, hrs⟩ : ∃ rs, rest.extract m rest.size = rs := ⟨_, rfl⟩
      have hpz : pc.size = m := by rw [← hpc]; simp; omega
      have hrz : rs.size + m = rest.size := by rw [← hrs]; simp; omega
      have hch : chunksOf n rest.data.toList = pc.data.toList :: chunksOf n rs.data.toList := by
        have hl : rest.size = rest.data.toList.length := Lib.size_eq rest
        rw [chunksOf_cons (fun e => hz (by rw [hl, e]; rfl)) (by omega), ← hpc, ← hrs, ex_listH, ex_listH]
        have e1 : (rest.data.toList.drop 0).take (m - 0) = rest.data.toList.take n := by
          rw [List.drop_zero, Nat.sub_zero]
          rcases Nat.lt_or_ge rest.size n with h | h
          · rw [List.take_of_length_le (by omega), List.take_of_length_le (by omega)]
          · rw [show m = n by omega]
        have e2 : (rest.data.toList.drop m).take (rest.size - m) = rest.data.toList.drop n := by
          rw [List.take_of_length_le (by rw [List.length_drop]; omega)]
          rcases Nat.lt_or_ge rest.size n with h | h
          · rw [List.drop_eq_nil_of_le (by omega), List.drop_eq_nil_of_le (by omega)]
          · rw [show m = n by omega]
        rw [e1, e2]
      have HCH := Lib.hid hch
      have HPZ := Lib.hid hpz
      clear hch hm
      go_wp2_with fail
      refine (squeezeBlock_ok pc wr (by omega)).mono ?_
      rintro e w3 ⟨rfl, hb3⟩
      obtain ⟨q, hq⟩ : ∃ q : ByteArray, q.data.toList = sqB pc.data.toList := ⟨⟨(sqB pc.data.toList).toArray⟩, rfl⟩
      rw [show (⟨(sqB pc.data.toList).toArray⟩ : ByteArray) = q from ba_ext (by rw [hq])]
      have HT3 := Lib.hid (HT.out.kp hb3)
      have HB3 := Lib.hid (HB.out.trans (hb3.mono HT.out.sz))
      clear hb3 HT HB
      by_cases hc : m ≤ q.size
      · have hdc : decide ((m : Int) ≤ (q.size : Int)) = true := decide_eq_true (by omega)
        have hdc2 : (m : Int) ≤ (q.size : Int) := by omega
        go_wp2_with fail
        refine (HT3.out.write' HB3.out pc (by have := HPZ.out; omega)).mono ?_
        rintro e w4 ⟨rfl, hT4, hB4⟩
        have HT4 := Lib.hid hT4
        have HB4 := Lib.hid hB4
        clear hT4 hB4 HT3 HB3
        go_wp2_with fail
        refine (HT4.out.four HB4.out _).mono ?_
        rintro e w5 ⟨f, rfl, hf, hf4, hT5, hB5⟩
        have HT5 := Lib.hid hT5.symm
        have HB5 := Lib.hid hB5
        have HF := Lib.hid hf
        clear hT5 hB5 HT4 HB4 hf
        go_wp2_with fail
        refine (HT5.out.write' HB5.out f (by omega)).mono ?_
        rintro e w6 ⟨rfl, hT6, hB6⟩
        have HT6 := Lib.hid hT6.symm
        have HB6 := Lib.hid hB6
        clear hT6 hB6 HT5 HB5
        go_wp2_with fail
        have henc : enc1 pc.data.toList = (pc.data.toList, m + 2147483648) := by
          unfold enc1
          rw [if_pos (by rw [← hq, ← Lib.size_eq, ← Lib.size_eq, HPZ.out]; exact hc), ← Lib.size_eq, HPZ.out]
        go_roundg (gk - 1)
        case measure => omega
        case rel =>
          refine ⟨rs, _, _, rfl, HT6.out, HB6.out, ?_, ?_, ?_, ?_, by omega, ?_⟩
          · rw [← HE1.out, HCH.out, bodyOf_cons, henc, List.append_assoc]
          · rw [← HE2.out, HCH.out, wordsOf_cons, henc, HF.out, List.append_assoc]
            (try rfl)
          · rw [List.length_append, ← Lib.size_eq]; have := HPZ.out; omega
          · rw [List.length_append, HF.out, wordB_len]; omega
          · rw [List.length_append]; omega
      · have hdc : decide ((m : Int) ≤ (q.size : Int)) = false := decide_eq_false (by omega)
        have hdc2 : ¬ (m : Int) ≤ (q.size : Int) := by omega
        go_wp2_with fail
        refine (HT3.out.write' HB3.out q (by have := HPZ.out; omega)).mono ?_
        rintro e w4 ⟨rfl, hT4, hB4⟩
        have HT4 := Lib.hid hT4
        have HB4 := Lib.hid hB4
        clear hT4 hB4 HT3 HB3
        go_wp2_with fail
        refine (HT4.out.four HB4.out _).mono ?_
        rintro e w5 ⟨f, rfl, hf, hf4, hT5, hB5⟩
        have HT5 := Lib.hid hT5.symm
        have HB5 := Lib.hid hB5
        have HF := Lib.hid hf
        clear hT5 hB5 HT4 HB4 hf
        go_wp2_with fail
        refine (HT5.out.write' HB5.out f (by omega)).mono ?_
        rintro e w6 ⟨rfl, hT6, hB6⟩
        have HT6 := Lib.hid hT6.symm
        have HB6 := Lib.hid hB6
        clear hT6 hB6 HT5 HB5
        go_wp2_with fail
        have henc : enc1 pc.data.toList = (q.data.toList, q.size) := by
          unfold enc1
          rw [if_neg (by rw [← hq, ← Lib.size_eq, ← Lib.size_eq, HPZ.out]; exact hc), ← hq, ← Lib.size_eq]
        go_roundg (gk - 1)
        case measure => omega
        case rel =>
          refine ⟨rs, _, _, rfl, HT6.out, HB6.out, ?_, ?_, ?_, ?_, by omega, ?_⟩
          · rw [← HE1.out, HCH.out, bodyOf_cons, henc, List.append_assoc]
          · rw [← HE2.out, HCH.out, wordsOf_cons, henc, HF.out, List.append_assoc]
            (try rfl)
          · rw [List.length_append, ← Lib.size_eq]; have := HPZ.out; omega
          · rw [List.length_append, HF.out, wordB_len]; omega
          · rw [List.length_append]; omega
end Go.Proofs.YtobiacdeoeogaaaGreatDoor
