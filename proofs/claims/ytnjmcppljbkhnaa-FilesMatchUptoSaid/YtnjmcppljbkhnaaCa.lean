import Derived.Test.YtnjmcppljbkhnaaB
set_option linter.unusedVariables false
set_option linter.unusedSimpArgs false
namespace Go.Proofs.Ytnjmcppljbkhnaa
open Go.RowKit

def row8 (n : Nat) (f : Nat → Nat) : Array Value := ((List.range n).map fun i => Value.int .u8 (f i : Nat)).toArray
theorem row8_at (n : Nat) (f : Nat → Nat) (i : Nat) (h : i < n) : (row8 n f)[i]? = some (.int .u8 (f i : Nat)) := by
  simp [row8, h]
theorem row8_set (n : Nat) (f : Nat → Nat) (i v : Nat) : (row8 n f).setIfInBounds i (.int .u8 (v : Nat)) = row8 n (upd f i v) := by
  unfold row8
  apply Array.ext'
  simp only [List.setIfInBounds_toArray]
  apply List.ext_getElem (by simp)
  intro j h1 h2
  by_cases h : i = j
  · simp [List.getElem_set, upd, h]
  · have h' : ¬ j = i := fun e => h e.symm
    simp [List.getElem_set, upd, h, h']
theorem row8_size (n : Nat) (f : Nat → Nat) : (row8 n f).size = n := by simp [row8]
theorem row8_congr {n : Nat} {f g : Nat → Nat} (h : ∀ i, i < n → f i = g i) : row8 n f = row8 n g := by
  unfold row8
  congr 1
  apply List.map_congr_left
  intro i hi
  rw [h i (by simpa using hi)]
theorem row32_congr {f g : Nat → Nat} (h : ∀ i, i < 16 → f i = g i) : row32 f = row32 g := by
  unfold row32
  congr 1
  apply List.map_congr_left
  intro i hi
  rw [h i (by simpa using hi)]

def sigma (i : Nat) : Nat := [1634760805, 857760878, 2036477234, 1797285236].getD i 0
/-- the first k words of the key are laid. -/
def start1 (key : ByteArray) (k : Nat) : Nat → Nat := fun i => if i < 4 then sigma i else if i < 4 + k then lw key (4 * (i - 4)) else 0
def start2 (key nonce : ByteArray) (c k : Nat) : Nat → Nat := fun i => if i < 4 then sigma i else if i < 12 then lw key (4 * (i - 4)) else if i = 12 then c else if i < 13 + k then lw nonce (4 * (i - 13)) else 0
theorem start1_zero (key : ByteArray) : row32 (start1 key 0) = #[.int .u32 1634760805, .int .u32 857760878, .int .u32 2036477234, .int .u32 1797285236, .int .u32 0, .int .u32 0, .int .u32 0, .int .u32 0, .int .u32 0, .int .u32 0, .int .u32 0, .int .u32 0, .int .u32 0, .int .u32 0, .int .u32 0, .int .u32 0] := by
  simp [row32, start1, sigma, List.range, List.range.loop]
theorem start1_succ (key : ByteArray) (k : Nat) : upd (start1 key k) (4 + k) (lw key (4 * k)) = start1 key (k + 1) := by
  funext i
  unfold upd start1
  by_cases h : i = 4 + k
  · rw [if_pos h, if_neg (by omega), if_pos (by omega), h]; congr 1; omega
  · rw [if_neg h]
    by_cases h4 : i < 4
    · rw [if_pos h4, if_pos h4]
    · rw [if_neg h4, if_neg h4]
      by_cases h5 : i < 4 + k
      · rw [if_pos h5, if_pos (by omega)]
      · rw [if_neg h5, if_neg (by omega)]
theorem start2_zero (key nonce : ByteArray) (c : Nat) : row32 (upd (start1 key 8) 12 c) = row32 (start2 key nonce c 0) := by
  apply row32_congr
  intro i hi
  unfold upd start1 start2
  by_cases h : i = 12
  · rw [if_pos h, if_neg (by omega), if_neg (by omega), if_pos h]
  · rw [if_neg h]
    by_cases h4 : i < 4
    · rw [if_pos h4, if_pos h4]
    · rw [if_neg h4, if_neg h4]
      by_cases h5 : i < 12
      · rw [if_pos (by omega), if_pos h5]
      · rw [if_neg (by omega), if_neg h5, if_neg h, if_neg (by omega)]
theorem start2_succ (key nonce : ByteArray) (c k : Nat) : upd (start2 key nonce c k) (13 + k) (lw nonce (4 * k)) = start2 key nonce c (k + 1) := by
  funext i
  unfold upd start2
  by_cases h : i = 13 + k
  · rw [if_pos h, if_neg (by omega), if_neg (by omega), if_neg (by omega), if_pos (by omega), h]; congr 1; omega
  · rw [if_neg h]
    by_cases h4 : i < 4
    · rw [if_pos h4, if_pos h4]
    · rw [if_neg h4, if_neg h4]
      by_cases h5 : i < 12
      · rw [if_pos h5, if_pos h5]
      · rw [if_neg h5, if_neg h5]
        by_cases h6 : i = 12
        · rw [if_pos h6, if_pos h6]
        · rw [if_neg h6, if_neg h6]
          by_cases h7 : i < 13 + k
          · rw [if_pos h7, if_pos (by omega)]
          · rw [if_neg h7, if_neg (by omega)]
theorem start2_w32 (key nonce : ByteArray) (c k : Nat) (hc : c < 4294967296) : W32 (start2 key nonce c k) := by
  intro i
  unfold start2
  have hs : ∀ i, sigma i < 4294967296 := by intro i; unfold sigma; match i with | 0 => decide | 1 => decide | 2 => decide | 3 => decide | n + 4 => simp
  by_cases h4 : i < 4
  · rw [if_pos h4]; exact hs i
  · rw [if_neg h4]
    by_cases h5 : i < 12
    · rw [if_pos h5]; exact lw_lt _ _
    · rw [if_neg h5]
      by_cases h6 : i = 12
      · rw [if_pos h6]; exact hc
      · rw [if_neg h6]
        by_cases h7 : i < 13 + k
        · rw [if_pos h7]; exact lw_lt _ _
        · rw [if_neg h7]; decide
theorem at8_extract (s : ByteArray) (a b i : Nat) (h : a + i < b) (hb : b ≤ s.size) : at8 (s.extract a b) i = at8 s (a + i) := by
  unfold at8
  have : (s.extract a b).data.toList[i]? = s.data.toList[a + i]? := by
    simp [ByteArray.data_extract, List.getElem?_drop, List.getElem?_take]
    omega
  rw [List.getD_eq_getElem?_getD, List.getD_eq_getElem?_getD, this]
theorem lw_extract (s : ByteArray) (a i : Nat) (h : a + i + 4 ≤ s.size) : lw (s.extract a s.size) i = lw s (a + i) := by
  unfold lw
  rw [at8_extract _ _ _ _ (by omega) (Nat.le_refl _), at8_extract _ _ _ _ (by omega) (Nat.le_refl _), at8_extract _ _ _ _ (by omega) (Nat.le_refl _), at8_extract _ _ _ _ (by omega) (Nat.le_refl _)]
  rfl


/-- the state behind k calls of one kind. -/
def cols (f : Nat → Nat) : Nat → (Nat → Nat)
  | 0 => f
  | k + 1 => qr (cols f k) k (4 + k) (8 + k) (12 + k)
def diags (f : Nat → Nat) : Nat → (Nat → Nat)
  | 0 => f
  | k + 1 => qr (diags f k) k (4 + (k + 1) % 4) (8 + (k + 2) % 4) (12 + (k + 3) % 4)
def rounds20 (f : Nat → Nat) : Nat → (Nat → Nat)
  | 0 => f
  | k + 1 => diags (cols (rounds20 f k) 4) 4
theorem W32.cols {f : Nat → Nat} (h : W32 f) (k : Nat) : W32 (cols f k) := by
  induction k with
  | zero => exact h
  | succ k ih => exact ih.qr _ _ _ _
theorem W32.diags {f : Nat → Nat} (h : W32 f) (k : Nat) : W32 (diags f k) := by
  induction k with
  | zero => exact h
  | succ k ih => exact ih.qr _ _ _ _
theorem W32.rounds20 {f : Nat → Nat} (h : W32 f) (k : Nat) : W32 (rounds20 f k) := by
  induction k with
  | zero => exact h
  | succ k ih => exact (ih.cols 4).diags 4
/-- the words of a block of the stream. -/
def blockW (key nonce : ByteArray) (c : Nat) : Nat → Nat := fun i => addw (rounds20 (start2 key nonce c 3) 10 i) (start2 key nonce c 3 i)
/-- its bytes. -/
def blockB (key nonce : ByteArray) (c : Nat) : Nat → Nat := fun j => blockW key nonce c (j / 4) / 256 ^ (j % 4) % 256
/-- the first 4 k bytes are laid. -/
def outK (b : Nat → Nat) (k : Nat) : Nat → Nat := fun j => if j < 4 * k then b j else 0
theorem outK_succ (W : Nat → Nat) (k : Nat) : row8 64 (upd (upd (upd (upd (outK (fun j => W (j / 4) / 256 ^ (j % 4) % 256) k) (4 * k) (W k % 256)) (4 * k + 1) (W k / 256 % 256)) (4 * k + 2) (W k / 65536 % 256)) (4 * k + 3) (W k / 16777216 % 256)) = row8 64 (outK (fun j => W (j / 4) / 256 ^ (j % 4) % 256) (k + 1)) := by
  apply row8_congr
  intro i _
  unfold upd outK
  dsimp only
  by_cases h3 : i = 4 * k + 3
  · subst h3; rw [if_pos rfl, if_pos (by omega), show (4 * k + 3) / 4 = k by omega, show (4 * k + 3) % 4 = 3 by omega]
  · rw [if_neg h3]
    by_cases h2 : i = 4 * k + 2
    · subst h2; rw [if_pos rfl, if_pos (by omega), show (4 * k + 2) / 4 = k by omega, show (4 * k + 2) % 4 = 2 by omega]
    · rw [if_neg h2]
      by_cases h1 : i = 4 * k + 1
      · subst h1; rw [if_pos rfl, if_pos (by omega), show (4 * k + 1) / 4 = k by omega, show (4 * k + 1) % 4 = 1 by omega, Nat.pow_one]
      · rw [if_neg h1]
        by_cases h0 : i = 4 * k
        · subst h0; rw [if_pos rfl, if_pos (by omega), show (4 * k) / 4 = k by omega, show (4 * k) % 4 = 0 by omega, Nat.pow_zero, Nat.div_one]
        · rw [if_neg h0]
          by_cases h : i < 4 * k
          · rw [if_pos h, if_pos (by omega)]
          · rw [if_neg h, if_neg (by omega)]
theorem outK_all (b : Nat → Nat) : row8 64 (outK b 16) = row8 64 b := row8_congr fun i hi => by unfold outK; rw [if_pos (by omega)]
theorem row8_all (n : Nat) (f : Nat → Nat) : (row8 n f).all (·.oneCell') = true := by
  rw [Array.all_eq_true_iff_forall_mem]
  intro v hv
  obtain ⟨i, _, rfl⟩ : ∃ i, i < n ∧ Value.int .u8 (f i : Nat) = v := by simpa [row8] using hv
  rfl
theorem row32_all (f : Nat → Nat) : (row32 f).all (·.oneCell') = true := by
  rw [Array.all_eq_true_iff_forall_mem]
  intro v hv
  obtain ⟨i, _, rfl⟩ : ∃ i, i < 16 ∧ Value.int .u32 (f i : Nat) = v := by simpa [row32] using hv
  rfl
theorem zero64 : row8 64 (fun _ => 0) = Array.replicate 64 (.int .u8 0) := by
  simp [row8, List.range, List.range.loop, Array.replicate, List.replicate]
end Go.Proofs.Ytnjmcppljbkhnaa
