import Derived.Test.YtobiacdeoeogaaaGreatDoorBf
set_option linter.unusedVariables false
set_option linter.unusedSimpArgs false
namespace Go.Proofs.YtobiacdeoeogaaaGreatDoor
theorem chunksOf_drop {n : Nat} (hn : n ≠ 0) : ∀ (i : Nat) (l : List UInt8), (chunksOf n l).drop i = chunksOf n (l.drop (i * n))
  | 0, l => by simp
  | i + 1, [] => by rw [chunksOf_nil, List.drop_nil, List.drop_nil, chunksOf_nil]
  | i + 1, a :: l => by
    rw [chunksOf_cons (by simp) hn, List.drop_succ_cons, chunksOf_drop hn i, List.drop_drop]
    congr 2
    rw [Nat.succ_mul]; omega
theorem chunksOf_next {n : Nat} (hn : n ≠ 0) (i : Nat) (l : List UInt8) (h : i * n < l.length) : chunksOf n (l.drop (i * n)) = (l.drop (i * n)).take n :: chunksOf n (l.drop ((i + 1) * n)) := by
  have hne : l.drop (i * n) ≠ [] := fun e => by
    have := congrArg List.length e
    rw [List.length_drop, List.length_nil] at this
    omega
  rw [chunksOf_cons hne hn, List.drop_drop, show i * n + n = (i + 1) * n by rw [Nat.succ_mul]]
theorem chunksOf_get {n : Nat} (hn : n ≠ 0) (i : Nat) (l : List UInt8) (h : i * n < l.length) : (chunksOf n l)[i]? = some ((l.drop (i * n)).take n) := by
  have e := chunksOf_drop hn i l
  rw [chunksOf_next hn i l h] at e
  have := congrArg (·[0]?) e
  simpa using this
theorem enc1_mod (c : List UInt8) (h : c.length ≤ 16384) : (enc1 c).2 % 2147483648 = (enc1 c).1.length := by
  obtain ⟨h1, h2, h3, h4⟩ := enc1_len c h
  rcases Nat.lt_or_ge (enc1 c).2 2147483648 with h | h
  · have := (h1 h).1; omega
  · have := (h2 h).1; omega
/-- the sum of the numbers that stand in an index. -/
def sumL (tl : List UInt8) : Nat → Nat
  | 0 => 0
  | k + 1 => sumL tl k + w4 tl (4 * k) % 2147483648
theorem sumL_le (tl : List UInt8) : ∀ k, sumL tl k ≤ k * 2147483648
  | 0 => Nat.le_refl _
  | k + 1 => by
    have := sumL_le tl k
    unfold sumL
    omega
theorem bodyOf_app (a b : List (List UInt8)) : bodyOf (a ++ b) = bodyOf a ++ bodyOf b := by simp [bodyOf]
theorem sumL_body (cs : List (List UInt8)) (hc : ∀ c ∈ cs, c.length ≤ 16384) (r : List UInt8) : ∀ k, k ≤ cs.length → sumL (wordsOf' cs ++ r) k = (bodyOf (cs.take k)).length
  | 0, _ => rfl
  | k + 1, h => by
    have hk : cs[k]? = some (cs[k]'(by omega)) := List.getElem?_eq_getElem _
    have hl := hc _ (List.getElem_mem (show k < cs.length by omega))
    rw [show cs.take (k + 1) = cs.take k ++ [cs[k]'(by omega)] from List.take_succ_eq_append_getElem _, bodyOf_app, List.length_append]
    unfold sumL
    rw [sumL_body cs hc r k (by omega), wordsOf_at cs k _ hk hl r, enc1_mod _ hl]
    simp [bodyOf]
/-- what the end of a right text tells. -/
theorem good_told {t : List UInt8} {b : Nat} {out : List UInt8} (g : Good t b out) (m at' : Nat) (hm : (w4 t (t.length - 8) + w4 t (t.length - 12) - 1) / w4 t (t.length - 12) = m) (hat : t.length - (4 * m + 12) = at') :
    16 ≤ t.length ∧ w4 t (t.length - 12) = b ∧ w4 t (t.length - 8) = out.length ∧ 4 + (4 * m + 12) ≤ t.length ∧ (t.drop at').length = 4 * m + 12 ∧ t.drop at' = idxOf b out ++ wordB ((crcOf (idxOf b out) : Nat) : Int) ∧ (t.take at').drop 4 = bodyOf (chunksOf b out) ∧ (chunksOf b out).length = m ∧ 4 + (t.drop at').length + sumL (t.drop at') m = t.length := by
  obtain ⟨p1, p2, p3, p4, p5, p6, p7⟩ := good_parts g
  rw [p2, p3] at hm
  rw [hm] at p4 p5 p6 p7
  rw [hat] at p5 p6
  have hb0 : b ≠ 0 := by have := g.1; omega
  have hcl : (chunksOf b out).length = m := (chunksOf_len hb0 _ out (Nat.le_refl _)).trans hm
  have hle : ∀ c ∈ chunksOf b out, c.length ≤ 16384 := fun c hc => Nat.le_trans (chunksOf_le _ out (Nat.le_refl _) c hc) g.2.1
  have hs : sumL (t.drop at') m = (bodyOf (chunksOf b out)).length := by
    rw [p5]
    unfold idxOf
    rw [List.append_assoc, sumL_body _ hle _ m (by omega), List.take_of_length_le (by omega)]
  have hdl : (t.drop at').length = 4 * m + 12 := by rw [List.length_drop]; omega
  refine ⟨p1, p2, p3, p4, hdl, p5, p6, hcl, ?_⟩
  rw [hs, hdl]
  omega
/-- the numbers of an index are those of the blocks. -/
theorem told_at {t : List UInt8} {b : Nat} {out : List UInt8} (hb : 16 ≤ b) (hb2 : b ≤ 16384) (r : List UInt8) (i : Nat) (h : i * b < out.length) (ht : t = idxOf b out ++ r) : w4 t (4 * i) = (enc1 ((out.drop (i * b)).take b)).2 := by
  subst ht
  unfold idxOf
  rw [List.append_assoc]
  exact wordsOf_at _ i _ (chunksOf_get (by omega) i out h) (by rw [List.length_take]; omega) _
/-- a sum of an index is right if the text is. -/
theorem told_sum {b : Nat} {out s : List UInt8} {c : Int} (h : s = idxOf b out ++ wordB c) : s.take (s.length - 4) = idxOf b out ∧ s.drop (s.length - 4) = wordB c := by
  have hl : s.length - 4 = (idxOf b out).length := by rw [h, List.length_append, wordB_len]; omega
  rw [hl, h, List.take_left, List.drop_left]
  exact ⟨rfl, rfl⟩
/-- what has been read of blocks, and what is left. -/
def Ep (s : List UInt8) (b z m : Nat) (f : Nat → Nat) (i : Nat) (l r : List UInt8) : Prop := ∀ out : List UInt8, out.length = z → (∀ k, k < m → f k = (enc1 ((out.drop (k * b)).take b)).2) → s = bodyOf (chunksOf b out) → l = out.take (i * b) ∧ r = bodyOf (chunksOf b (out.drop (i * b)))
theorem Ep.start (s : List UInt8) (b z m : Nat) (f : Nat → Nat) : Ep s b z m f 0 [] s := fun out _ _ h => by
  rw [Nat.zero_mul]
  exact ⟨rfl, h⟩
/-- a block of what is left. -/
theorem Ep.block {s l r : List UInt8} {b z m i : Nat} {f : Nat → Nat} (h : Ep s b z m f i l r) (hb : 16 ≤ b) (hb2 : b ≤ 16384) (him : i < m) (hi : i * b < z) {out : List UInt8} (ho : out.length = z) (hf : ∀ k, k < m → f k = (enc1 ((out.drop (k * b)).take b)).2) (hs : s = bodyOf (chunksOf b out)) :
    ∃ c : List UInt8, c = (out.drop (i * b)).take b ∧ c.length = min b (z - i * b) ∧ f i % 2147483648 = (enc1 c).1.length ∧ r = (enc1 c).1 ++ bodyOf (chunksOf b (out.drop ((i + 1) * b))) ∧ (2147483648 ≤ f i → (enc1 c).1 = c) ∧ (f i < 2147483648 → (enc1 c).1 = sqB c) ∧ l ++ c = out.take ((i + 1) * b) := by
  obtain ⟨h1, h2⟩ := h out ho hf hs
  rw [chunksOf_next (by omega) i out (by omega)] at h2
  refine ⟨_, rfl, by rw [List.length_take, List.length_drop, ho], ?_, h2, ?_, ?_, ?_⟩
  · rw [hf i him]; exact enc1_mod _ (by rw [List.length_take]; omega)
  · rw [hf i him]; intro h; exact ((enc1_len _ (by rw [List.length_take]; omega)).2.1 h).2
  · rw [hf i him]; intro h; exact ((enc1_len _ (by rw [List.length_take]; omega)).1 h).2
  · rw [h1, Nat.succ_mul, List.take_add]
/-- a block that is too short. -/
theorem Ep.short {s l r : List UInt8} {b z m i : Nat} {f : Nat → Nat} (h : Ep s b z m f i l r) (hb : 16 ≤ b) (hb2 : b ≤ 16384) (him : i < m) (hi : i * b < z) (hl : r.length < f i % 2147483648) {out : List UInt8} (ho : out.length = z) (hf : ∀ k, k < m → f k = (enc1 ((out.drop (k * b)).take b)).2) (hs : s = bodyOf (chunksOf b out)) : False := by
  obtain ⟨c, _, _, h3, h4, _⟩ := h.block hb hb2 him hi ho hf hs
  rw [h4, List.length_append] at hl
  omega
/-- a block that stands as it is, of a wrong length. -/
theorem Ep.wrong {s l r : List UInt8} {b z m i : Nat} {f : Nat → Nat} (h : Ep s b z m f i l r) (hb : 16 ≤ b) (hb2 : b ≤ 16384) (him : i < m) (hi : i * b < z) (hp : 2147483648 ≤ f i) (hl : f i % 2147483648 ≠ min b (z - i * b)) {out : List UInt8} (ho : out.length = z) (hf : ∀ k, k < m → f k = (enc1 ((out.drop (k * b)).take b)).2) (hs : s = bodyOf (chunksOf b out)) : False := by
  obtain ⟨c, _, h2, h3, h4, h5, _⟩ := h.block hb hb2 him hi ho hf hs
  rw [h5 hp] at h3
  omega
/-- a block that stands as it is. -/
theorem Ep.plain {s l r : List UInt8} {b z m i : Nat} {f : Nat → Nat} (h : Ep s b z m f i l r) (hb : 16 ≤ b) (hb2 : b ≤ 16384) (him : i < m) (hi : i * b < z) (hp : 2147483648 ≤ f i) : Ep s b z m f (i + 1) (l ++ r.take (f i % 2147483648)) (r.drop (f i % 2147483648)) := fun out ho hf hs => by
  obtain ⟨c, _, h2, h3, h4, h5, _, h7⟩ := h.block hb hb2 him hi ho hf hs
  rw [h3, h4, List.take_left, List.drop_left, h5 hp]
  exact ⟨h7, rfl⟩
/-- a block that was squeezed. -/
theorem Ep.dec {s l r : List UInt8} {b z m i : Nat} {f : Nat → Nat} (h : Ep s b z m f i l r) (hb : 16 ≤ b) (hb2 : b ≤ 16384) (him : i < m) (hi : i * b < z) (hp : f i < 2147483648) (x : List UInt8) (ok : Bool) (hx : ∀ o, Dec [] (r.take (f i % 2147483648)) o → o.length = min b (z - i * b) → x = o ∧ ok = true) : (ok = true → Ep s b z m f (i + 1) (l ++ x) (r.drop (f i % 2147483648))) ∧ (ok = false → ∀ out : List UInt8, out.length = z → (∀ k, k < m → f k = (enc1 ((out.drop (k * b)).take b)).2) → s = bodyOf (chunksOf b out) → False) := by
  have key : ∀ out : List UInt8, out.length = z → (∀ k, k < m → f k = (enc1 ((out.drop (k * b)).take b)).2) → s = bodyOf (chunksOf b out) → x = (out.drop (i * b)).take b ∧ ok = true ∧ l ++ (out.drop (i * b)).take b = out.take ((i + 1) * b) ∧ r.drop (f i % 2147483648) = bodyOf (chunksOf b (out.drop ((i + 1) * b))) := fun out ho hf hs => by
    obtain ⟨c, hc, h2, h3, h4, _, h6, h7⟩ := h.block hb hb2 him hi ho hf hs
    have hd := dec_sqB c (by omega)
    rw [← h6 hp] at hd
    have := hx c (by rw [h3, h4, List.take_left]; exact hd) h2
    rw [← hc]
    refine ⟨this.1, this.2, h7, ?_⟩
    rw [h3, h4, List.drop_left]
  constructor
  · intro _ out ho hf hs
    obtain ⟨k1, _, k3, k4⟩ := key out ho hf hs
    rw [k1]
    exact ⟨k3, k4⟩
  · intro h out ho hf hs
    have := (key out ho hf hs).2.1
    rw [h] at this
    cases this
/-- behind the last block. -/
theorem Ep.done {s l r : List UInt8} {b z m : Nat} {f : Nat → Nat} (h : Ep s b z m f m l r) (hm : z ≤ m * b) {out : List UInt8} (ho : out.length = z) (hf : ∀ k, k < m → f k = (enc1 ((out.drop (k * b)).take b)).2) (hs : s = bodyOf (chunksOf b out)) : l = out ∧ r = [] := by
  obtain ⟨h1, h2⟩ := h out ho hf hs
  rw [List.take_of_length_le (by omega)] at h1
  rw [List.drop_eq_nil_of_le (by omega), chunksOf_nil] at h2
  exact ⟨h1, h2⟩
end Go.Proofs.YtobiacdeoeogaaaGreatDoor

set_option linter.unusedVariables false
set_option linter.unusedSimpArgs false
namespace Go.Proofs.YtobiacdeoeogaaaGreatDoor
theorem w4_ltX (l : List UInt8) (i : Nat) : w4 l i < 4294967296 := by
  unfold w4
  have h0 := (l.getD i 0).toNat_lt
  have h1 := (l.getD (i + 1) 0).toNat_lt
  have h2 := (l.getD (i + 2) 0).toNat_lt
  have h3 := (l.getD (i + 3) 0).toNat_lt
  omega
theorem w4_dropX (l : List UInt8) (k i : Nat) : w4 (l.drop k) i = w4 l (k + i) := by
  unfold w4
  simp [List.getD_eq_getElem?_getD, Nat.add_assoc]
/-- no text makes these bytes. -/
def NoGood (t : List UInt8) : Prop := ∀ (b : Nat) (out : List UInt8), ¬ Good t b out
/-- a place ahead of the last one. -/
theorem block_lt {z b m i : Nat} (hb : 16 ≤ b) (hm : (z + b - 1) / b = m) (hi : i < m) : i * b < z := by
  have h1 : (i + 1) * b ≤ z + b - 1 := by
    have : i + 1 ≤ (z + b - 1) / b := by omega
    exact (Nat.le_div_iff_mul_le (by omega)).1 this
  rw [Nat.succ_mul] at h1
  omega
theorem block_ge {z b m : Nat} (hb : 16 ≤ b) (hm : (z + b - 1) / b = m) : z ≤ m * b := by
  have h1 : z + b - 1 < (m + 1) * b := by
    rw [← Nat.div_lt_iff_lt_mul (by omega), hm]
    omega
  rw [Nat.succ_mul] at h1
  omega
/-- what a right text has been, by what its end tells. -/
theorem good_ep {T : List UInt8} {b z m ix : Nat} (h1 : w4 T (T.length - 12) = b) (h2 : w4 T (T.length - 8) = z) (hm : (z + b - 1) / b = m) (hix : T.length - (4 * m + 12) = ix) {b' : Nat} {out : List UInt8} (g : Good T b' out) :
    b' = b ∧ out.length = z ∧ 16 ≤ b ∧ b ≤ 16384 ∧ z ≤ 1048576 ∧ 16 ≤ T.length ∧ 4 + (4 * m + 12) ≤ T.length ∧ (∀ k, k < m → w4 T (ix + 4 * k) = (enc1 ((out.drop (k * b)).take b)).2) ∧ (T.take ix).drop 4 = bodyOf (chunksOf b out) ∧ T.drop ix = idxOf b out ++ wordB ((crcOf (idxOf b out) : Nat) : Int) ∧ 4 + (T.drop ix).length + sumL (T.drop ix) m = T.length := by
  have hg := good_told g m ix (by rw [h1, h2]; exact hm) hix
  obtain ⟨p1, p2, p3, p4, p5, p6, p7, p8, p9⟩ := hg
  have e1 : b' = b := by rw [← p2, h1]
  subst e1
  have e2 : out.length = z := by rw [← p3, h2]
  refine ⟨rfl, e2, g.1, g.2.1, by rw [← e2]; exact g.2.2.1, p1, p4, fun k hk => ?_, p7, p6, p9⟩
  have := told_at g.1 g.2.1 _ k (by rw [e2]; exact block_lt g.1 hm hk) p6
  rw [w4_dropX] at this
  exact this
/-- a text that is what a text makes is right, if its length is told rightly. -/
theorem sqT_good {t out : List UInt8} {b : Nat} (hb : 16 ≤ b) (hb2 : b ≤ 16384) (ho : out.length < 4294967296) (hz : w4 t (t.length - 8) ≤ 1048576) (h : sqT b out = t) : Good t b out := by
  refine ⟨hb, hb2, ?_, h⟩
  have hl := sqT_len b out
  have hm := chunksOf_len (n := b) (by omega) _ out (Nat.le_refl _)
  have hw : (wordsOf' (chunksOf b out)).length = 4 * (chunksOf b out).length := wordsOf_len _
  have hs : sqT b out = ([87, 72, 83, 81] ++ bodyOf (chunksOf b out)) ++ (idxOf b out ++ wordB ((crcOf (idxOf b out) : Nat) : Int)) := by
    unfold sqT; rw [List.append_assoc]
  have hal : ([87, 72, 83, 81] ++ bodyOf (chunksOf b out)).length = 4 + (bodyOf (chunksOf b out)).length := by
    rw [List.length_append]; rfl
  rw [← h] at hz
  rw [hl, hs, show 4 + ((bodyOf (chunksOf b out)).length + (4 * (chunksOf b out).length + 12)) - 8 = ([87, 72, 83, 81] ++ bodyOf (chunksOf b out)).length + (4 * (chunksOf b out).length + 4) by rw [hal]; omega, w4_right] at hz
  unfold idxOf at hz
  rw [List.append_assoc, List.append_assoc, show 4 * (chunksOf b out).length + 4 = (wordsOf' (chunksOf b out)).length + ((wordB (b : Int)).length + 0) by rw [hw]; rfl, w4_right, w4_right, w4_left _ _ _ (by rw [wordB_len]; omega), w4_word _ ho] at hz
  exact hz
end Go.Proofs.YtobiacdeoeogaaaGreatDoor
