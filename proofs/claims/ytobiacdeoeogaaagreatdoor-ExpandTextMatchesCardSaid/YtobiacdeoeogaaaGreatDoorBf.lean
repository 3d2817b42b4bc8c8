import Derived.Test.YtobiacdeoeogaaaGreatDoorAa
import Derived.Test.YtobiacdeoeogaaaGreatDoorBd
set_option linter.unusedVariables false
set_option linter.unusedSimpArgs false
namespace Go.Proofs.YtobiacdeoeogaaaGreatDoor
/-- the blocks of a text. -/
def chunksOf (n : Nat) (l : List UInt8) : List (List UInt8) :=
  if h : l = [] ∨ n = 0 then [] else l.take n :: chunksOf n (l.drop n)
termination_by l.length
decreasing_by
  have h1 : l.length ≠ 0 := fun e => h (Or.inl (List.length_eq_zero_iff.1 e))
  have h2 : n ≠ 0 := fun e => h (Or.inr e)
  simp only [List.length_drop]; omega
theorem chunksOf_nil (n : Nat) : chunksOf n [] = [] := by rw [chunksOf]; simp
theorem chunksOf_cons {n : Nat} {l : List UInt8} (h : l ≠ []) (hn : n ≠ 0) : chunksOf n l = l.take n :: chunksOf n (l.drop n) := by
  rw [chunksOf, dif_neg (by rintro (e | e); exact h e; exact hn e)]
theorem chunksOf_flat {n : Nat} (hn : n ≠ 0) : ∀ (k : Nat) (l : List UInt8), l.length ≤ k → (chunksOf n l).flatten = l
  | _, [], _ => by rw [chunksOf_nil]; rfl
  | 0, a :: l, h => absurd h (by simp)
  | k + 1, a :: l, h => by
    rw [chunksOf_cons (by simp) hn, List.flatten_cons, chunksOf_flat hn k _ (by
      have : (a :: l).length = l.length + 1 := rfl
      rw [List.length_drop]; omega), List.take_append_drop]
theorem chunksOf_len {n : Nat} (hn : n ≠ 0) : ∀ (k : Nat) (l : List UInt8), l.length ≤ k → (chunksOf n l).length = (l.length + n - 1) / n
  | _, [], _ => by
    rw [chunksOf_nil]
    show 0 = (0 + n - 1) / n
    rw [Nat.div_eq_of_lt (by omega)]
  | 0, a :: l, h => absurd h (by simp)
  | k + 1, a :: l, h => by
    have hl : (a :: l).length = l.length + 1 := rfl
    rw [chunksOf_cons (by simp) hn, List.length_cons, chunksOf_len hn k _ (by rw [List.length_drop]; omega), List.length_drop]
    rcases Nat.lt_or_ge (a :: l).length n with h1 | h1
    · rw [show (a :: l).length - n = 0 by omega, Nat.zero_add, Nat.div_eq_of_lt (by omega : n - 1 < n)]
      have : ((a :: l).length + n - 1) / n = 1 := by
        rw [Nat.div_eq_iff (by omega)]
        omega
      omega
    · have : (a :: l).length + n - 1 = ((a :: l).length - n + n - 1) + n := by omega
      rw [this, Nat.add_div_right _ (by omega)]
theorem chunksOf_le {n : Nat} : ∀ (k : Nat) (l : List UInt8), l.length ≤ k → ∀ c ∈ chunksOf n l, c.length ≤ n
  | _, [], _, c, hc => by rw [chunksOf_nil] at hc; cases hc
  | 0, a :: l, h, _, _ => absurd h (by simp)
  | k + 1, a :: l, h, c, hc => by
    by_cases hn : n = 0
    · rw [chunksOf, dif_pos (Or.inr hn)] at hc; cases hc
    · rw [chunksOf_cons (by simp) hn] at hc
      rcases List.mem_cons.1 hc with rfl | hc
      · rw [List.length_take]; omega
      · exact chunksOf_le k _ (by
          have : (a :: l).length = l.length + 1 := rfl
          rw [List.length_drop]; omega) c hc
/-- what is written of a block, and its number in the index. -/
def enc1 (b : List UInt8) : List UInt8 × Nat := if b.length ≤ (sqB b).length then (b, b.length + 2147483648) else (sqB b, (sqB b).length)
theorem enc1_len (b : List UInt8) (h : b.length ≤ 16384) : ((enc1 b).2 < 2147483648 → (enc1 b).1.length = (enc1 b).2 ∧ (enc1 b).1 = sqB b) ∧ (2147483648 ≤ (enc1 b).2 → (enc1 b).1.length + 2147483648 = (enc1 b).2 ∧ (enc1 b).1 = b) ∧ (enc1 b).2 < 4294967296 ∧ (enc1 b).1.length ≤ b.length := by
  unfold enc1
  split
  · exact ⟨fun h1 => by simp only at h1; omega, fun _ => ⟨rfl, rfl⟩, by simp only; omega, Nat.le_refl _⟩
  · exact ⟨fun _ => ⟨rfl, rfl⟩, fun h1 => by simp only at h1; omega, by simp only; omega, by simp only; omega⟩
def bodyOf (cs : List (List UInt8)) : List UInt8 := (cs.map fun c => (enc1 c).1).flatten
def wordsOf' (cs : List (List UInt8)) : List UInt8 := (cs.map fun c => wordB ((enc1 c).2 : Int)).flatten
def idxOf (block : Nat) (out : List UInt8) : List UInt8 := wordsOf' (chunksOf block out) ++ (wordB (block : Int) ++ wordB (out.length : Int))
/-- a text that is made shorter. -/
def sqT (block : Nat) (out : List UInt8) : List UInt8 := [87, 72, 83, 81] ++ (bodyOf (chunksOf block out) ++ (idxOf block out ++ wordB ((crcOf (idxOf block out) : Nat) : Int)))
theorem wordB_len (x : Int) : (wordB x).length = 4 := rfl
theorem byteI_nat (x : Nat) : (byteI (x : Int)).toNat = x % 256 := by
  have := byteI_eq (x : Int)
  omega
/-- the number of four bytes. -/
def w4 (l : List UInt8) (i : Nat) : Nat := (l.getD i 0).toNat * 16777216 + (l.getD (i + 1) 0).toNat * 65536 + (l.getD (i + 2) 0).toNat * 256 + (l.getD (i + 3) 0).toNat
theorem w4_word (x : Nat) (h : x < 4294967296) : w4 (wordB (x : Int)) 0 = x := by
  unfold w4 wordB
  have e1 : ((x : Int) / 16777216) = ((x / 16777216 : Nat) : Int) := by omega
  have e2 : ((x : Int) / 65536) = ((x / 65536 : Nat) : Int) := by omega
  have e3 : ((x : Int) / 256) = ((x / 256 : Nat) : Int) := by omega
  rw [e1, e2, e3]
  show (byteI ((x / 16777216 : Nat) : Int)).toNat * 16777216 + (byteI ((x / 65536 : Nat) : Int)).toNat * 65536 + (byteI ((x / 256 : Nat) : Int)).toNat * 256 + (byteI (x : Int)).toNat = x
  rw [byteI_nat, byteI_nat, byteI_nat, byteI_nat]
  omega
theorem wordB_inj {x y : Nat} (hx : x < 4294967296) (hy : y < 4294967296) (h : wordB (x : Int) = wordB (y : Int)) : x = y := by
  rw [← w4_word x hx, ← w4_word y hy, h]
theorem getD_left {a b : List UInt8} {i : Nat} (h : i < a.length) : (a ++ b).getD i 0 = a.getD i 0 := by
  simp [List.getD, List.getElem?_append, h]
theorem getD_right {a b : List UInt8} (i : Nat) : (a ++ b).getD (a.length + i) 0 = b.getD i 0 := by
  unfold List.getD
  rw [List.getElem?_append_right (by omega), Nat.add_sub_cancel_left]
theorem w4_right (a b : List UInt8) (i : Nat) : w4 (a ++ b) (a.length + i) = w4 b i := by
  unfold w4
  rw [show a.length + i + 1 = a.length + (i + 1) by omega, show a.length + i + 2 = a.length + (i + 2) by omega, show a.length + i + 3 = a.length + (i + 3) by omega, getD_right, getD_right, getD_right, getD_right]
theorem w4_left (a b : List UInt8) (i : Nat) (h : i + 4 ≤ a.length) : w4 (a ++ b) i = w4 a i := by
  unfold w4
  rw [getD_left (by omega), getD_left (by omega), getD_left (by omega), getD_left (by omega)]
theorem wordsOf_len (cs : List (List UInt8)) : (wordsOf' cs).length = 4 * cs.length := by
  unfold wordsOf'
  induction cs with
  | nil => rfl
  | cons c cs ih =>
    rw [List.map_cons, List.flatten_cons, List.length_append, ih, wordB_len, List.length_cons]
    omega
theorem wordsOf_at : ∀ (cs : List (List UInt8)) (i : Nat) (c : List UInt8), cs[i]? = some c → c.length ≤ 16384 → ∀ r, w4 (wordsOf' cs ++ r) (4 * i) = (enc1 c).2
  | [], i, c, h, _, _ => by simp at h
  | a :: cs, 0, c, h, hc, r => by
    simp at h
    subst h
    unfold wordsOf'
    rw [List.map_cons, List.flatten_cons, List.append_assoc, w4_left _ _ _ (by rw [wordB_len]; omega), Nat.mul_zero]
    exact w4_word _ (enc1_len a hc).2.2.1
  | a :: cs, i + 1, c, h, hc, r => by
    have ih := wordsOf_at cs i c (by simpa using h) hc r
    unfold wordsOf' at ih ⊢
    rw [List.map_cons, List.flatten_cons, List.append_assoc, show 4 * (i + 1) = (wordB ((enc1 a).2 : Int)).length + 4 * i by rw [wordB_len]; omega, w4_right]
    exact ih
/-- a text that is right, and what it was. -/
def Good (t : List UInt8) (block : Nat) (out : List UInt8) : Prop := 16 ≤ block ∧ block ≤ 16384 ∧ out.length ≤ 1048576 ∧ sqT block out = t
theorem sqT_len (block : Nat) (out : List UInt8) : (sqT block out).length = 4 + ((bodyOf (chunksOf block out)).length + (4 * (chunksOf block out).length + 12)) := by
  unfold sqT idxOf
  simp only [List.length_append, wordsOf_len, wordB_len, List.length_cons, List.length_nil]
/-- the parts of a right text. -/
theorem good_parts {t : List UInt8} {block : Nat} {out : List UInt8} (g : Good t block out) : 16 ≤ t.length ∧ w4 t (t.length - 12) = block ∧ w4 t (t.length - 8) = out.length ∧
    4 + (4 * ((out.length + block - 1) / block) + 12) ≤ t.length ∧ t.drop (t.length - (4 * ((out.length + block - 1) / block) + 12)) = idxOf block out ++ wordB ((crcOf (idxOf block out) : Nat) : Int) ∧
    (t.take (t.length - (4 * ((out.length + block - 1) / block) + 12))).drop 4 = bodyOf (chunksOf block out) ∧ t.length = 4 + ((bodyOf (chunksOf block out)).length + (4 * ((out.length + block - 1) / block) + 12)) := by
  obtain ⟨g1, g2, g3, rfl⟩ := g
  have hl := sqT_len block out
  have hm := chunksOf_len (n := block) (by omega) _ out (Nat.le_refl _)
  rw [hm] at hl
  generalize hmm : (out.length + block - 1) / block = m at *
  have hil : (idxOf block out).length = 4 * m + 8 := by
    unfold idxOf
    simp only [List.length_append, wordsOf_len, wordB_len, hm]
  have hs : sqT block out = ([87, 72, 83, 81] ++ bodyOf (chunksOf block out)) ++ (idxOf block out ++ wordB ((crcOf (idxOf block out) : Nat) : Int)) := by
    unfold sqT; rw [List.append_assoc]
  have hal : ([87, 72, 83, 81] ++ bodyOf (chunksOf block out)).length = 4 + (bodyOf (chunksOf block out)).length := by
    rw [List.length_append]; rfl
  have hw : (wordsOf' (chunksOf block out)).length = 4 * m := by rw [wordsOf_len, hm]
  refine ⟨by omega, ?_, ?_, by omega, ?_, ?_, hl⟩
  · rw [hl, hs, show 4 + ((bodyOf (chunksOf block out)).length + (4 * m + 12)) - 12 = ([87, 72, 83, 81] ++ bodyOf (chunksOf block out)).length + 4 * m by rw [hal]; omega, w4_right]
    unfold idxOf
    rw [List.append_assoc, List.append_assoc, show 4 * m = (wordsOf' (chunksOf block out)).length + 0 by rw [hw]; omega, w4_right, w4_left _ _ _ (by rw [wordB_len]; omega)]
    exact w4_word _ (by omega)
  · rw [hl, hs, show 4 + ((bodyOf (chunksOf block out)).length + (4 * m + 12)) - 8 = ([87, 72, 83, 81] ++ bodyOf (chunksOf block out)).length + (4 * m + 4) by rw [hal]; omega, w4_right]
    unfold idxOf
    rw [List.append_assoc, List.append_assoc, show 4 * m + 4 = (wordsOf' (chunksOf block out)).length + ((wordB (block : Int)).length + 0) by rw [hw]; rfl, w4_right, w4_right, w4_left _ _ _ (by rw [wordB_len]; omega)]
    exact w4_word _ (by omega)
  · rw [hl, hs, show 4 + ((bodyOf (chunksOf block out)).length + (4 * m + 12)) - (4 * m + 12) = ([87, 72, 83, 81] ++ bodyOf (chunksOf block out)).length by rw [hal]; omega, List.drop_left]
  · rw [hl, hs, show 4 + ((bodyOf (chunksOf block out)).length + (4 * m + 12)) - (4 * m + 12) = ([87, 72, 83, 81] ++ bodyOf (chunksOf block out)).length by rw [hal]; omega, List.take_left]
    rfl
theorem enc1_inj {a b : List UInt8} (ha : a.length ≤ 16384) (hb : b.length ≤ 16384) (h1 : (enc1 a).1 = (enc1 b).1) (h2 : (enc1 a).2 = (enc1 b).2) : a = b := by
  obtain ⟨a1, a2, _⟩ := enc1_len a ha
  obtain ⟨b1, b2, _⟩ := enc1_len b hb
  rcases Nat.lt_or_ge (enc1 a).2 2147483648 with h | h
  · have e1 := (a1 h).2
    have e2 := (b1 (by omega)).2
    have h3 : sqB a = sqB b := by rw [← e1, ← e2, h1]
    have d1 := dec_sqB a ha
    rw [h3] at d1
    exact d1.det (dec_sqB b hb)
  · rw [← (a2 h).2, ← (b2 (by omega)).2, h1]
theorem pieces_inj : ∀ (cs ds : List (List UInt8)), (∀ c ∈ cs, c.length ≤ 16384) → (∀ d ∈ ds, d.length ≤ 16384) → cs.length = ds.length → wordsOf' cs = wordsOf' ds → bodyOf cs = bodyOf ds → cs = ds
  | [], [], _, _, _, _, _ => rfl
  | [], d :: ds, _, _, h, _, _ => by simp at h
  | c :: cs, [], _, _, h, _, _ => by simp at h
  | c :: cs, d :: ds, hc, hd, hl, hw, hb => by
    unfold wordsOf' at hw
    unfold bodyOf at hb
    rw [List.map_cons, List.flatten_cons, List.map_cons, List.flatten_cons] at hw hb
    obtain ⟨w1, w2⟩ := List.append_inj hw (by rw [wordB_len, wordB_len])
    have lc := hc c (by simp)
    have ld := hd d (by simp)
    have e2 := wordB_inj (enc1_len c lc).2.2.1 (enc1_len d ld).2.2.1 w1
    have el : (enc1 c).1.length = (enc1 d).1.length := by
      obtain ⟨a1, a2, _⟩ := enc1_len c lc
      obtain ⟨b1, b2, _⟩ := enc1_len d ld
      rcases Nat.lt_or_ge (enc1 c).2 2147483648 with h | h
      · have := (a1 h).1; have := (b1 (by omega)).1; omega
      · have := (a2 h).1; have := (b2 (by omega)).1; omega
    obtain ⟨b1, b2⟩ := List.append_inj hb el
    rw [enc1_inj lc ld b1 e2, pieces_inj cs ds (fun x hx => hc x (by simp [hx])) (fun x hx => hd x (by simp [hx])) (by simpa using hl) w2 b2]
/-- a right text was one text. -/
theorem good_one {t : List UInt8} {b b' : Nat} {o o' : List UInt8} (g : Good t b o) (g' : Good t b' o') : b = b' ∧ o = o' := by
  obtain ⟨p1, p2, p3, p4, p5, p6, p7⟩ := good_parts g
  obtain ⟨q1, q2, q3, q4, q5, q6, q7⟩ := good_parts g'
  have hb : b = b' := by omega
  subst hb
  have hl : o.length = o'.length := by omega
  rw [hl] at p5 p6
  have e1 : idxOf b o ++ wordB ((crcOf (idxOf b o) : Nat) : Int) = idxOf b o' ++ wordB ((crcOf (idxOf b o') : Nat) : Int) := p5.symm.trans q5
  have e2 : bodyOf (chunksOf b o) = bodyOf (chunksOf b o') := p6.symm.trans q6
  have hb0 : b ≠ 0 := by have := g.1; omega
  have hcl : (chunksOf b o).length = (chunksOf b o').length := by
    rw [chunksOf_len hb0 _ o (Nat.le_refl _), chunksOf_len hb0 _ o' (Nat.le_refl _), hl]
  have e3 := (List.append_inj e1 (by unfold idxOf; simp only [List.length_append, wordsOf_len, wordB_len, hcl])).1
  unfold idxOf at e3
  have e4 := (List.append_inj e3 (by rw [wordsOf_len, wordsOf_len, hcl])).1
  have hle : ∀ (o : List UInt8), ∀ c ∈ chunksOf b o, c.length ≤ 16384 := fun o c hc => Nat.le_trans (chunksOf_le _ o (Nat.le_refl _) c hc) g.2.1
  have e5 := pieces_inj _ _ (hle o) (hle o') hcl e4 e2
  refine ⟨rfl, ?_⟩
  rw [← chunksOf_flat hb0 _ o (Nat.le_refl _), ← chunksOf_flat hb0 _ o' (Nat.le_refl _), e5]
end Go.Proofs.YtobiacdeoeogaaaGreatDoor

set_option linter.unusedVariables false
set_option linter.unusedSimpArgs false
namespace Go.Proofs.YtobiacdeoeogaaaGreatDoor
open Go.RowKit
theorem getD_at {b : ByteArray} {i : Nat} (h : i < b.size) : b.data.toList[i]? = some (b.data.toList.getD i 0) := by
  have h2 : i < b.data.toList.length := by rw [← Lib.size_eq]; exact h
  simp [List.getD, List.getElem?_eq_getElem h2]
theorem index_sum (b : ByteArray) (i n : Nat) (h : i + n < b.size) (w : World) : (Instr.index 9 (.string b) (.int .i64 ((i : Int) + (n : Int)))).run Tryz.prog w = .ok (.int .u8 ((b.data.toList.getD (i + n) 0).toNat : Int)) w := by
  have := index_at b (i + n) _ (getD_at h) w
  rwa [show ((i + n : Nat) : Int) = (i : Int) + (n : Int) by omega] at this
set_option maxRecDepth 100000 in
set_option maxHeartbeats 4000000 in
theorem sameLength_ok (b : ByteArray) (i j lim : Nat) (hij : i < j) (hl : j + lim ≤ b.size) (hb : b.size ≤ 1048576) (w : World) : Calls Tryz.prog 71 #[.string b, .int .i64 (i : Int), .int .i64 (j : Int), .int .i64 (lim : Int)] w fun e w' => e = .returned (.int .i64 ((ml b.data.toList i j lim : Nat) : Int)) ∧ ∃ q, w' = w.drewN q := by
  go_enter Tryz.func71, Tryz.ntmps71
  go_wp2_with fail
  go_loopw [9] (fun x wr => ∃ n : Nat, x = .int .i64 (n : Int) ∧ n ≤ lim ∧ (∀ m, m < n → b.data.toList.getD (i + m) 0 = b.data.toList.getD (j + m) 0) ∧ ∃ q, wr = w.drewN q) (fun x _ => lim - (intOf x).toNat)
  case atStart => exact ⟨0, rfl, Nat.zero_le _, fun m hm => absurd hm (Nat.not_lt_zero _), 0, rfl⟩
  case round =>
    obtain ⟨n, rfl, hn, he, q, rfl⟩ := hrel
    have HE := Lib.hid he
    clear he
    by_cases hlt : n < lim
    · have hd : decide ((n : Int) < (lim : Int)) = true := decide_eq_true (by omega)
      have hix1 := fun w => index_sum b i n (by omega) w
      have hix2 := fun w => index_sum b j n (by omega) w
      obtain ⟨x, hx⟩ : ∃ x, b.data.toList.getD (i + n) 0 = x := ⟨_, rfl⟩
      obtain ⟨y, hy⟩ : ∃ y, b.data.toList.getD (j + n) 0 = y := ⟨_, rfl⟩
      rw [hx] at hix1
      rw [hy] at hix2
      have HX := Lib.hid hx
      have HY := Lib.hid hy
      clear hx hy
      generalize hw0 : w.drewN q = w0 at *
      have HW := Lib.hid hw0
      clear hw0
      cases hc : ((x.toNat : Int) == (y.toNat : Int))
      · have HNE := Lib.hid (show x ≠ y by rintro rfl; simp at hc)
        go_wp2_with fail
        go_quiet (fail)
        go_wp2_with fail
        go_ret
        rw [ml_at b.data.toList i j lim n hn HE.out (Or.inr (by rw [HX.out, HY.out]; exact HNE.out))]
        exact ⟨rfl, q + nq, by rw [← HW.out]; simp⟩
      · have HEQ := Lib.hid (show x = y from UInt8.toNat_inj.1 (by have := beq_iff_eq.1 hc; omega))
        go_wp2_with fail
        go_quiet (fail)
        go_wp2_with fail
        go_roundw
        case rel =>
          refine ⟨n + 1, by go_num, hlt, fun m hm => ?_, q + nq, by rw [← HW.out]; simp⟩
          by_cases hmn : m = n
          · rw [hmn, HX.out, HY.out]; exact HEQ.out
          · exact HE.out m (by omega)
        case measure => simp [intOf]; omega
    · have hd : decide ((n : Int) < (lim : Int)) = false := decide_eq_false (by omega)
      generalize hw0 : w.drewN q = w0 at *
      have HW := Lib.hid hw0
      clear hw0
      go_wp2_with fail
      go_quiet (fail)
      go_wp2_with fail
      go_ret
      rw [ml_at b.data.toList i j lim n hn HE.out (Or.inl (by omega))]
      exact ⟨rfl, q + nq, by rw [← HW.out]; simp⟩
end Go.Proofs.YtobiacdeoeogaaaGreatDoor
