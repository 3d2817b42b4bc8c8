import Derived.Test.YtnjmcppljbkhnaaJ
set_option linter.unusedVariables false
set_option linter.unusedSimpArgs false
namespace Go.Proofs.Ytnjmcppljbkhnaa
open Go.RowKit

/-- the state of the loop. -/
def TSr (w : World) (key text : ByteArray) (k : Nat) (T : ByteArray) (wr : World) : Prop :=
  T.size = text.size - 16 * k ∧ (∀ i, at8 T i = at8 text (16 * k + i)) ∧ ∃ h : Nat → Nat, TS w (rF key) h wr ∧ Limbs h ∧ W64 h ∧ val5 h % P130 = accN (rN key) text k
def strOf (v : Value) : ByteArray := match v with | .string s => s | _ => ByteArray.empty
theorem TS.below {w wr w' : World} {R h : Nat → Nat} (H : TS w R h wr) (b : Below wr.heap.size wr w') : TS w R h w' := by
  obtain ⟨h1, h2, h3, h4, h5⟩ := H
  have := b.size
  exact ⟨below_step h1 (Nat.le_refl _) b, by omega, h3.below b (by omega), h4.below b (by omega), h5.below b (by omega)⟩
theorem at8_empty_extract (s : ByteArray) (i : Nat) : at8 (s.extract 0 s.size) i = at8 s i := by
  congr 1
  simp
theorem TS.drewN {w wr : World} {R h : Nat → Nat} (H : TS w R h wr) (n : Nat) : TS w R h (wr.drewN n) := ⟨below_drewN H.1 n, H.2.1, H.2.2.1, H.2.2.2.1, H.2.2.2.2⟩

theorem limb_or' (a b M B k : Nat) (hk : B = 2 ^ k) (ha : a / M < B) (hb : a / M + b * B < 18446744073709551616) :
    bits BinOp.and IntKind.u64 (bits BinOp.or IntKind.u64 ((a : Int) / (M : Int)) ((b : Int) * (B : Int))) 67108863 = (((a / M + b * B) % 67108864 : Nat) : Int) := by
  have h := limb_or a b M B k hk ha hb
  have e1 : (b : Int) * (B : Int) = ((b * B : Nat) : Int) := by simp
  have e2 : b * B < 18446744073709551616 := Nat.lt_of_le_of_lt (Nat.le_add_left _ _) hb
  have e3 : IntKind.u64.wrap ((b : Int) * (B : Int)) = (b : Int) * (B : Int) := by
    rw [wrap64, e1]
    generalize b * B = q at *
    omega
  rwa [e3] at h
theorem row64_five (R : Nat → Nat) : row64 R = row64 (upd (upd (upd (upd (upd (fun _ => 0) 0 (R 0)) 1 (R 1)) 2 (R 2)) 3 (R 3)) 4 (R 4)) := by
  simp [row64, List.range, List.range.loop, upd]
theorem TS_start (w : World) (R : Nat → Nat) (n : Nat) : TS w R (fun _ => 0) ((((((((w.alloc (.cells #[.int .u8 0, .int .u8 0, .int .u8 0, .int .u8 0, .int .u8 0, .int .u8 0, .int .u8 0, .int .u8 0, .int .u8 0, .int .u8 0, .int .u8 0, .int .u8 0, .int .u8 0, .int .u8 0, .int .u8 0, .int .u8 0] 86)).alloc (.cells #[.int .u64 0, .int .u64 0, .int .u64 0, .int .u64 0, .int .u64 0] 128)).drewN n).setCell ⟨w.heap.size + 1, 0, none⟩ (.int .u64 (R 0 : Nat))).setCell ⟨w.heap.size + 1, 1, none⟩ (.int .u64 (R 1 : Nat))).setCell ⟨w.heap.size + 1, 2, none⟩ (.int .u64 (R 2 : Nat))).setCell ⟨w.heap.size + 1, 3, none⟩ (.int .u64 (R 3 : Nat))).setCell ⟨w.heap.size + 1, 4, none⟩ (.int .u64 (R 4 : Nat)) |>.alloc (.cells #[.int .u64 0, .int .u64 0, .int .u64 0, .int .u64 0, .int .u64 0] 128)) := by
  have hz : #[.int .u8 0, .int .u8 0, .int .u8 0, .int .u8 0, .int .u8 0, .int .u8 0, .int .u8 0, .int .u8 0, .int .u8 0, .int .u8 0, .int .u8 0, .int .u8 0, .int .u8 0, .int .u8 0, .int .u8 0, .int .u8 0] = row8 16 (fun _ => 0) := by
    simp [row8, List.range, List.range.loop]
  rw [hz, ← row64_zero]
  generalize hw1 : w.alloc (.cells (row8 16 fun _ => 0) 86) = w1
  have s1 : w1.heap.size = w.heap.size + 1 := by rw [← hw1]; simp
  have k1 : Blk w1 w.heap.size 86 (row8 16 fun _ => 0) := by rw [← hw1]; exact Blk.new w 86 _
  have b1 : Below w.heap.size w w1 := by rw [← hw1]; exact (Below.refl _ _).alloc (Nat.le_refl _) _
  clear hw1
  have k2 : Blk ((w1.alloc (.cells (row64 fun _ => 0) 128)).drewN n) w1.heap.size 128 (row64 fun _ => 0) := Blk.new w1 128 _
  have b2 : Below w1.heap.size w1 ((w1.alloc (.cells (row64 fun _ => 0) 128)).drewN n) := below_drewN ((Below.refl _ _).alloc (Nat.le_refl _) _) n
  have s2 : ((w1.alloc (.cells (row64 fun _ => 0) 128)).drewN n).heap.size = w1.heap.size + 1 := by simp
  generalize ((w1.alloc (.cells (row64 fun _ => 0) 128)).drewN n) = w2 at *
  rw [← s1]
  have k3 := ((((k2.set 0 (.int .u64 (R 0 : Nat))).set 1 (.int .u64 (R 1 : Nat))).set 2 (.int .u64 (R 2 : Nat))).set 3 (.int .u64 (R 3 : Nat))).set 4 (.int .u64 (R 4 : Nat))
  rw [row64_set, row64_set, row64_set, row64_set, row64_set, ← row64_five] at k3
  have o3 := only_set (only_set (only_set (only_set (only_set (only_refl w2 w1.heap.size) 0 (.int .u64 (R 0 : Nat))) 1 (.int .u64 (R 1 : Nat))) 2 (.int .u64 (R 2 : Nat))) 3 (.int .u64 (R 3 : Nat))) 4 (.int .u64 (R 4 : Nat))
  have s3 : (((((w2.setCell ⟨w1.heap.size, 0, none⟩ (.int .u64 (R 0 : Nat))).setCell ⟨w1.heap.size, 1, none⟩ (.int .u64 (R 1 : Nat))).setCell ⟨w1.heap.size, 2, none⟩ (.int .u64 (R 2 : Nat))).setCell ⟨w1.heap.size, 3, none⟩ (.int .u64 (R 3 : Nat))).setCell ⟨w1.heap.size, 4, none⟩ (.int .u64 (R 4 : Nat))).heap.size = w2.heap.size := by simp [World.setCell]
  generalize (((((w2.setCell ⟨w1.heap.size, 0, none⟩ (.int .u64 (R 0 : Nat))).setCell ⟨w1.heap.size, 1, none⟩ (.int .u64 (R 1 : Nat))).setCell ⟨w1.heap.size, 2, none⟩ (.int .u64 (R 2 : Nat))).setCell ⟨w1.heap.size, 3, none⟩ (.int .u64 (R 3 : Nat))).setCell ⟨w1.heap.size, 4, none⟩ (.int .u64 (R 4 : Nat))) = w3 at *
  have b4 : Below w3.heap.size w3 (w3.alloc (.cells (row64 fun _ => 0) 128)) := (Below.refl _ _).alloc (Nat.le_refl _) _
  have k4 := Blk.new w3 128 (row64 fun _ => 0)
  refine ⟨?_, ?_, ?_, ?_, ?_⟩
  · exact below_step (only_below (below_step b1 (Nat.le_refl _) b2) o3 (by omega) (by omega)) (Nat.le_refl _) b4
  · simp; omega
  · exact (((k1.below b2 (by omega)).only o3 (by omega))).below b4 (by omega)
  · rw [← s1]; exact k3.below b4 (by omega)
  · rw [show w.heap.size + 1 + 1 = w3.heap.size by omega]; exact k4
theorem word87I (f : Nat → Nat) (g i : Nat) (I : Int) (w : World) (eI : I = i) (hf : ∀ i, f i < 256) (hi : i + 4 ≤ 17) (h : Blk w g 130 (row8 17 f)) :
    Calls Try.prog 87 #[.int .i64 I, .pointer (some ⟨g, 0, none⟩)] w fun e w' => e = .returned (.int .u64 (lwF f i : Nat)) ∧ ∃ n, w' = w.drewN n := by
  subst eI; exact word87 f g i w hf hi h
/-- the bytes that copy lays. -/
def cpB (T : ByteArray) (m : Nat) : Nat → Nat := fun i => if i < m then at8 T i else 0
theorem copy_row17 (T : ByteArray) (m : Nat) (hm : m ≤ 16) (hT : m ≤ T.size) : ((row8 17 fun _ => 0).toList.take 0 ++ Lib.byteCells (T.extract 0 m).data.toList ++ (row8 17 fun _ => 0).toList.drop (0 + (T.extract 0 m).size)).toArray = row8 17 (cpB T m) := by
  have hsz : (T.extract 0 m).size = m := by simp; omega
  have hr : ∀ f : Nat → Nat, (row8 17 f).toList = (List.range 17).map fun i => Value.int .u8 (f i : Nat) := fun f => rfl
  have hl : (Lib.byteCells (T.extract 0 m).data.toList).length = m := by simp [Lib.byteCells]; omega
  rw [hsz, hr]
  apply Array.ext'
  rw [hr]
  apply List.ext_getElem?
  intro i
  simp only [List.take_zero, List.nil_append, Nat.zero_add]
  by_cases h1 : i < m
  · rw [List.getElem?_append_left (by omega)]
    have hi : i < 17 := by omega
    rw [List.getElem?_map, List.getElem?_range hi]
    unfold Lib.byteCells
    rw [List.getElem?_map, List.getElem?_eq_getElem (by simp; omega)]
    simp only [Option.map_some]
    congr 2
    unfold cpB at8
    rw [if_pos h1, List.getD_eq_getElem?_getD, List.getElem?_eq_getElem (by simp; omega)]
    simp [ByteArray.data_extract]
  · rw [List.getElem?_append_right (by omega), hl, List.getElem?_drop, show m + (i - m) = i by omega]
    by_cases h2 : i < 17
    · rw [List.getElem?_map, List.getElem?_range h2, List.getElem?_map, List.getElem?_range h2]
      simp [cpB, h1]
    · rw [List.getElem?_eq_none (by simp; omega), List.getElem?_eq_none (by simp; omega)]
theorem copy17 {w : World} {g : Nat} (T : ByteArray) (m : Nat) (hm : m ≤ 16) (hT : m ≤ T.size) (h : Blk w g 130 (row8 17 fun _ => 0)) (ty : TypeId) :
    (Builtin.copy_ #[88, 9] ty #[.slice (some ⟨g, 0, none⟩) 17 17, .string (T.extract 0 m)]).run Try.prog w = .ok (goInt m) (w.setRow g (row8 17 (cpB T m))) := by
  have hsz : (T.extract 0 m).size = m := by simp; omega
  have hx := Lib.run_copy_row_string (P := Try.prog) w 88 9 ty 5 g 0 17 17 (T.extract 0 m) (row8 17 fun _ => 0) 130 Try.underlying88 (by kernel_rfl) h (by omega) (by rw [row8_size]; omega)
  rw [copy_row17 T m hm hT, hsz] at hx
  exact hx
theorem zero17 : row8 17 (fun _ => 0) = #[.int .u8 0, .int .u8 0, .int .u8 0, .int .u8 0, .int .u8 0, .int .u8 0, .int .u8 0, .int .u8 0, .int .u8 0, .int .u8 0, .int .u8 0, .int .u8 0, .int .u8 0, .int .u8 0, .int .u8 0, .int .u8 0, .int .u8 0] := by
  simp [row8, List.range, List.range.loop]
theorem blk17 (wr : World) (T : ByteArray) (m : Nat) : Blk ((wr.alloc (.cells #[.int .u8 0, .int .u8 0, .int .u8 0, .int .u8 0, .int .u8 0, .int .u8 0, .int .u8 0, .int .u8 0, .int .u8 0, .int .u8 0, .int .u8 0, .int .u8 0, .int .u8 0, .int .u8 0, .int .u8 0, .int .u8 0, .int .u8 0] 130)).drew.setRow wr.heap.size (row8 17 (cpB T m))) wr.heap.size 130 (row8 17 (cpB T m)) := by
  rw [← zero17]
  exact setRow_heap _ _ _ _ _ _ (show Blk (wr.alloc (.cells (row8 17 fun _ => 0) 130)).drew wr.heap.size 130 (row8 17 fun _ => 0) from Blk.new wr 130 _)
theorem fz17 (wr : World) (T : ByteArray) (m : Nat) : ((wr.alloc (.cells #[.int .u8 0, .int .u8 0, .int .u8 0, .int .u8 0, .int .u8 0, .int .u8 0, .int .u8 0, .int .u8 0, .int .u8 0, .int .u8 0, .int .u8 0, .int .u8 0, .int .u8 0, .int .u8 0, .int .u8 0, .int .u8 0, .int .u8 0] 130)).drew.setRow wr.heap.size (row8 17 (cpB T m))).frozen? ⟨wr.heap.size, m, none⟩ = false := (blk17 wr T m).frozen m
theorem ce17 (wr : World) (T : ByteArray) (m : Nat) (hm : m < 17) : ((wr.alloc (.cells #[.int .u8 0, .int .u8 0, .int .u8 0, .int .u8 0, .int .u8 0, .int .u8 0, .int .u8 0, .int .u8 0, .int .u8 0, .int .u8 0, .int .u8 0, .int .u8 0, .int .u8 0, .int .u8 0, .int .u8 0, .int .u8 0, .int .u8 0] 130)).drew.setRow wr.heap.size (row8 17 (cpB T m))).cell? ⟨wr.heap.size, m, none⟩ = some (.int .u8 (cpB T m m : Nat)) := ((blk17 wr T m).cell m).trans (row8_at _ _ _ hm)
theorem empty_of (T : ByteArray) (h : 0 < T.size) : T.toList.isEmpty = false := by
  rw [ByteArray.toList_eq]
  cases hT : T.data.toList with
  | nil => have : T.data.toList.length = T.size := by simp
           rw [hT] at this; simp at this; omega
  | cons a l => rfl
theorem empty_no (T : ByteArray) (h : T.size = 0) : T.toList.isEmpty = true := by
  rw [ByteArray.toList_eq]
  cases hT : T.data.toList with
  | nil => rfl
  | cons a l => have : T.data.toList.length = T.size := by simp
                rw [hT] at this; simp at this; omega
theorem lwF_lt (f : Nat → Nat) (i : Nat) (hf : ∀ i, f i < 256) : lwF f i < 4294967296 := by
  have := hf i; have := hf (i + 1); have := hf (i + 2); have := hf (i + 3)
  unfold lwF; omega
theorem or24' (x y : Nat) (hx : x < 4294967296) (hy : y < 256) : bits BinOp.or IntKind.u64 ((x : Int) / 256) ((y : Int) * 16777216) = ((x / 256 + y * 16777216 : Nat) : Int) := by
  have e0 : (x : Int) / 256 = ((x / 256 : Nat) : Int) := by simp
  have e1 : (y : Int) * 16777216 = ((y * 2 ^ 24 : Nat) : Int) := by simp
  rw [e0, e1, u64_or_nat _ _ (by omega) (by omega), or_add 24 _ _ (by omega)]
theorem or24 (x y : Nat) (hx : x < 4294967296) (hy : y < 256) : bits BinOp.or IntKind.u64 ((x : Int) / 256) (IntKind.u64.wrap (IntKind.u64.wrap (y : Int) * 16777216)) = ((x / 256 + y * 16777216 : Nat) : Int) := by
  rw [wrap64, wrap64, show (y : Int) % 18446744073709551616 * 16777216 % 18446744073709551616 = (y : Int) * 16777216 by omega]
  exact or24' x y hx hy
theorem TS.setRow {w wr : World} {R h : Nat → Nat} (H : TS w R h wr) (h' : Nat → Nat) : TS w R h' (wr.setRow (w.heap.size + 1 + 1) (row64 h')) := by
  obtain ⟨h1, h2, h3, h4, h5⟩ := H
  exact ⟨below_setRow h1 (by omega), by simpa using h2, (setRow_other _ _ _ _ (by omega)).trans h3, (setRow_other _ _ _ _ (by omega)).trans h4, setRow_heap _ _ _ _ _ _ h5⟩
theorem at8_out (s : ByteArray) (i : Nat) (h : s.size ≤ i) : at8 s i = 0 := by
  unfold at8
  rw [List.getD_eq_getElem?_getD, List.getElem?_eq_none (by simpa using h)]
  rfl
theorem at8_rest (s : ByteArray) (a i : Nat) : at8 (s.extract a s.size) i = at8 s (a + i) := by
  by_cases h : a + i < s.size
  · exact at8_extract s a s.size i h (Nat.le_refl _)
  · rw [at8_out s _ (by omega), at8_out _ _ (by simp; omega)]
theorem val5_five (h : Nat → Nat) (x0 x1 x2 x3 x4 : Nat) (h1 h2 h3 h4 h5 : Nat → Nat) (e1 : upd h 0 (h 0 + x0) = h1) (e2 : upd h1 1 (h1 1 + x1) = h2) (e3 : upd h2 2 (h2 2 + x2) = h3) (e4 : upd h3 3 (h3 3 + x3) = h4) (e5 : upd h4 4 (h4 4 + x4) = h5) :
    h5 0 = h 0 + x0 ∧ h5 1 = h 1 + x1 ∧ h5 2 = h 2 + x2 ∧ h5 3 = h 3 + x3 ∧ h5 4 = h 4 + x4 := by
  subst e1 e2 e3 e4 e5
  simp [upd]
theorem accN_succ (r : Nat) (s : ByteArray) (k : Nat) : accN r s (k + 1) = (accN r s k + blkN s k) * r % P130 := rfl
theorem mod_step (a b r p : Nat) : (a + b) * r % p = (a % p + b) * r % p := by
  rw [Nat.mul_mod (a + b), Nat.mul_mod (a % p + b), Nat.mod_add_mod]
theorem bL_at (f : Nat → Nat) : bL f 0 = lwF f 0 % 67108864 ∧ bL f 1 = lwF f 3 / 4 % 67108864 ∧ bL f 2 = lwF f 6 / 16 % 67108864 ∧ bL f 3 = lwF f 9 / 64 % 67108864 ∧ bL f 4 = lwF f 12 / 256 + f 16 * 16777216 := by
  unfold bL
  simp only [List.getD_cons_zero, List.getD_cons_succ, and_self]
theorem val5_add (h b h5 : Nat → Nat) (e0 : h5 0 = h 0 + b 0) (e1 : h5 1 = h 1 + b 1) (e2 : h5 2 = h 2 + b 2) (e3 : h5 3 = h 3 + b 3) (e4 : h5 4 = h 4 + b 4) : val5 h5 = val5 h + val5 b := by
  unfold val5
  rw [e0, e1, e2, e3, e4]
  generalize h 0 = a0; generalize h 1 = a1; generalize h 2 = a2; generalize h 3 = a3; generalize h 4 = a4
  generalize b 0 = c0; generalize b 1 = c1; generalize b 2 = c2; generalize b 3 = c3; generalize b 4 = c4
  omega
theorem lt_add (h b h5 : Nat → Nat) (hL : Limbs h) (hb : ∀ i, i < 5 → b i < 67108864) (e0 : h5 0 = h 0 + b 0) (e1 : h5 1 = h 1 + b 1) (e2 : h5 2 = h 2 + b 2) (e3 : h5 3 = h 3 + b 3) (e4 : h5 4 = h 4 + b 4) : ∀ i, i < 5 → h5 i < 2 ^ 28 := by
  obtain ⟨l0, l1, l2, l3, l4⟩ := hL
  have b0 := hb 0 (by omega); have b1 := hb 1 (by omega); have b2 := hb 2 (by omega); have b3 := hb 3 (by omega); have b4 := hb 4 (by omega)
  intro i hi
  have hi' : i = 0 ∨ i = 1 ∨ i = 2 ∨ i = 3 ∨ i = 4 := by omega
  rcases hi' with rfl | rfl | rfl | rfl | rfl
  · rw [e0]; omega
  · rw [e1]; omega
  · rw [e2]; omega
  · rw [e3]; omega
  · rw [e4]; omega
theorem pB_same (text T : ByteArray) (k m : Nat) (hT : T.size = text.size - 16 * k) (hat : ∀ i, at8 T i = at8 text (16 * k + i)) (hm : m = min 16 T.size) : leB (pB T 0 m) 17 = blkN text k := by
  unfold blkN
  have : pB T 0 m = pB text (16 * k) (min 16 (text.size - 16 * k)) := by
    funext i
    unfold pB
    rw [hm, hT, Nat.zero_add, hat i]
  rw [this]
theorem tag_step (key text T : ByteArray) (k m : Nat) (h h5 : Nat → Nat) (hT : T.size = text.size - 16 * k) (hat : ∀ i, at8 T i = at8 text (16 * k + i)) (hm : m = min 16 T.size) (hL : Limbs h) (hV : val5 h % P130 = accN (rN key) text k)
    (e0 : h5 0 = h 0 + lwF (pB T 0 m) 0 % 67108864) (e1 : h5 1 = h 1 + lwF (pB T 0 m) 3 / 4 % 67108864) (e2 : h5 2 = h 2 + lwF (pB T 0 m) 6 / 16 % 67108864) (e3 : h5 3 = h 3 + lwF (pB T 0 m) 9 / 64 % 67108864) (e4 : h5 4 = h 4 + (lwF (pB T 0 m) 12 / 256 + pB T 0 m 16 * 16777216)) :
    Limbs (prod h5 (rF key)) ∧ val5 (prod h5 (rF key)) % P130 = accN (rN key) text (k + 1) := by
  have hpl := pB_lt T 0 m
  have h16 : pB T 0 m 16 ≤ 1 := by
    have hm16 : m ≤ 16 := by omega
    unfold pB
    rw [if_neg (by omega)]
    split <;> omega
  have b : ∀ i, i < 5 → bL (pB T 0 m) i < 67108864 := bL_lt _ hpl h16
  obtain ⟨a0, a1, a2, a3, a4⟩ := bL_at (pB T 0 m)
  rw [← a0] at e0
  rw [← a1] at e1
  rw [← a2] at e2
  rw [← a3] at e3
  rw [← a4] at e4
  have ev := val5_add h (bL (pB T 0 m)) h5 e0 e1 e2 e3 e4
  have hh5 := lt_add h (bL (pB T 0 m)) h5 hL b e0 e1 e2 e3 e4
  obtain ⟨p1, p2⟩ := prod_val h5 (rF key) hh5 (rF_lt key)
  refine ⟨p1, ?_⟩
  rw [p2, ev, bL_val _ hpl, rF_val, pB_same text T k m hT hat hm, accN_succ, ← hV]
  exact mod_step _ _ _ _
theorem cpB_one (T : ByteArray) (m : Nat) : upd (cpB T m) m 1 = pB T 0 m := by
  funext i
  unfold upd cpB pB
  by_cases h : i = m
  · subst h; simp
  · by_cases h2 : i < m
    · simp [h, h2]
    · simp [h, h2]
def TS3 (w : World) (R h P : Nat → Nat) (g : Nat) (wr : World) : Prop := TS w R h wr ∧ w.heap.size + 3 ≤ g ∧ g < wr.heap.size ∧ Blk wr g 130 (row8 17 P)
theorem TS3.store {w wr : World} {R h P : Nat → Nat} {g : Nat} (H : TS3 w R h P g wr) (n i v : Nat) : TS3 w R (upd h i v) P g ((wr.drewN n).setCell ⟨w.heap.size + 1 + 1, i, none⟩ (.int .u64 (v : Nat))) := by
  obtain ⟨⟨h1, h2, h3, h4, h5⟩, h6, h7, h8⟩ := H
  have ho := only_set (only_drewN (only_refl wr (w.heap.size + 1 + 1)) n) i (.int .u64 (v : Nat))
  refine ⟨⟨(below_drewN h1 n).setCell (by show w.heap.size ≤ w.heap.size + 1 + 1; omega) _, by simpa [World.setCell] using h2, h3.only ho (by omega), h4.only ho (by omega), ?_⟩, h6, by simpa [World.setCell] using h7, h8.only ho (by omega)⟩
  rw [← row64_set]; exact Blk.set (w := wr.drewN n) h5 i _
theorem TS3.drew {w wr : World} {R h P : Nat → Nat} {g : Nat} (H : TS3 w R h P g wr) : TS3 w R h P g wr.drew := by
  obtain ⟨⟨h1, h2, h3, h4, h5⟩, h6, h7, h8⟩ := H
  exact ⟨⟨below_drew h1, h2, h3, h4, h5⟩, h6, h7, h8⟩
theorem TS3_new {w wr : World} {R h : Nat → Nat} (H : TS w R h wr) (T : ByteArray) (m : Nat) : TS3 w R h (pB T 0 m) wr.heap.size ((((wr.alloc (.cells #[.int .u8 0, .int .u8 0, .int .u8 0, .int .u8 0, .int .u8 0, .int .u8 0, .int .u8 0, .int .u8 0, .int .u8 0, .int .u8 0, .int .u8 0, .int .u8 0, .int .u8 0, .int .u8 0, .int .u8 0, .int .u8 0, .int .u8 0] 130)).drew.setRow wr.heap.size (row8 17 (cpB T m)))).setCell ⟨wr.heap.size, m, none⟩ (.int .u8 1)) := by
  have hz : #[.int .u8 0, .int .u8 0, .int .u8 0, .int .u8 0, .int .u8 0, .int .u8 0, .int .u8 0, .int .u8 0, .int .u8 0, .int .u8 0, .int .u8 0, .int .u8 0, .int .u8 0, .int .u8 0, .int .u8 0, .int .u8 0, .int .u8 0] = row8 17 (fun _ => 0) := by
    simp [row8, List.range, List.range.loop]
  rw [hz]
  have b1 : Below wr.heap.size wr (wr.alloc (.cells (row8 17 fun _ => 0) 130)).drew := below_drew ((Below.refl _ _).alloc (Nat.le_refl _) _)
  have k1 : Blk (wr.alloc (.cells (row8 17 fun _ => 0) 130)).drew wr.heap.size 130 (row8 17 fun _ => 0) := Blk.new wr 130 _
  have s1 : (wr.alloc (.cells (row8 17 fun _ => 0) 130)).drew.heap.size = wr.heap.size + 1 := by simp
  generalize (wr.alloc (.cells (row8 17 fun _ => 0) 130)).drew = w1 at *
  have b2 := below_setRow (g := wr.heap.size) (cs := row8 17 (cpB T m)) b1 (Nat.le_refl _)
  have k2 : Blk (w1.setRow wr.heap.size (row8 17 (cpB T m))) wr.heap.size 130 (row8 17 (cpB T m)) := setRow_heap _ _ _ _ _ _ k1
  have s2 : (w1.setRow wr.heap.size (row8 17 (cpB T m))).heap.size = w1.heap.size := by simp
  generalize (w1.setRow wr.heap.size (row8 17 (cpB T m))) = w2 at *
  have b3 : Below wr.heap.size wr (w2.setCell ⟨wr.heap.size, m, none⟩ (.int .u8 1)) := b2.setCell (Nat.le_refl _) _
  have k3 := k2.set m (.int .u8 ((1 : Nat) : Int))
  rw [row8_set, cpB_one] at k3
  have := H.2.1
  exact ⟨H.below b3, by omega, by simp [World.setCell]; omega, k3⟩
end Go.Proofs.Ytnjmcppljbkhnaa
