import Derived.Test.YtoomhlbebifklaaGreatDoorVb
set_option linter.unusedVariables false
set_option linter.unusedSimpArgs false
namespace Go.Proofs.YtoomhlbebifklaaGreatDoor.Cha
open Go.RowKit

def row8 (n : Nat) (f : Nat → Nat) : Array Value := ((List.range n).map fun i => Value.int .u8 (f i : Nat)).toArray
theorem row8_at (n : Nat) (f : Nat → Nat) (i : Nat) (h : i < n) : (row8 n f)[i]? = some (.int .u8 (f i : Nat)) := by
  simp [row8, h]
theorem row8_set (n : Nat) (f : Nat → Nat) (i v : Nat) : (row8 n f).setIfInBounds i (.int .u8 (v : Nat)) = row8 n (upd f i v) := by
  unfold row8
  apply Array.ext'
  simp only [List.setIfInBounds_toArray]
  apply List.ext_getElem (by simp)
  intro j h1 h2
  by_cases h : i = j
  · simp [List.getElem_set, upd, h]
  · have h' : ¬ j = i := fun e => h e.symm
    simp [List.getElem_set, upd, h, h']
theorem row8_size (n : Nat) (f : Nat → Nat) : (row8 n f).size = n := by simp [row8]
theorem row8_congr {n : Nat} {f g : Nat → Nat} (h : ∀ i, i < n → f i = g i) : row8 n f = row8 n g := by
  unfold row8
  congr 1
  apply List.map_congr_left
  intro i hi
  rw [h i (by simpa using hi)]
theorem row32_congr {f g : Nat → Nat} (h : ∀ i, i < 16 → f i = g i) : row32 f = row32 g := by
  unfold row32
  congr 1
  apply List.map_congr_left
  intro i hi
  rw [h i (by simpa using hi)]

def sigma (i : Nat) : Nat := [1634760805, 857760878, 2036477234, 1797285236].getD i 0
/-- the first k words of the key are laid. -/
def start1 (key : ByteArray) (k : Nat) : Nat → Nat := fun i => if i < 4 then sigma i else if i < 4 + k then lw key (4 * (i - 4)) else 0
def start2 (key nonce : ByteArray) (c k : Nat) : Nat → Nat := fun i => if i < 4 then sigma i else if i < 12 then lw key (4 * (i - 4)) else if i = 12 then c else if i < 13 + k then lw nonce (4 * (i - 13)) else 0
theorem start1_zero (key : ByteArray) : row32 (start1 key 0) = #[.int .u32 1634760805, .int .u32 857760878, .int .u32 2036477234, .int .u32 1797285236, .int .u32 0, .int .u32 0, .int .u32 0, .int .u32 0, .int .u32 0, .int .u32 0, .int .u32 0, .int .u32 0, .int .u32 0, .int .u32 0, .int .u32 0, .int .u32 0] := by
  simp [row32, start1, sigma, List.range, List.range.loop]
theorem start1_succ (key : ByteArray) (k : Nat) : upd (start1 key k) (4 + k) (lw key (4 * k)) = start1 key (k + 1) := by
  funext i
  unfold upd start1
  by_cases h : i = 4 + k
  · rw [if_pos h, if_neg (by omega), if_pos (by omega), h]; congr 1; omega
  · rw [if_neg h]
    by_cases h4 : i < 4
    · rw [if_pos h4, if_pos h4]
    · rw [if_neg h4, if_neg h4]
      by_cases h5 : i < 4 + k
      · rw [if_pos h5, if_pos (by omega)]
      · rw [if_neg h5, if_neg (by omega)]
theorem start2_zero (key nonce : ByteArray) (c : Nat) : row32 (upd (start1 key 8) 12 c) = row32 (start2 key nonce c 0) := by
  apply row32_congr
  intro i hi
  unfold upd start1 start2
  by_cases h : i = 12
  · rw [if_pos h, if_neg (by omega), if_neg (by omega), if_pos h]
  · rw [if_neg h]
    by_cases h4 : i < 4
    · rw [if_pos h4, if_pos h4]
    · rw [if_neg h4, if_neg h4]
      by_cases h5 : i < 12
      · rw [if_pos (by omega), if_pos h5]
      · rw [if_neg (by omega), if_neg h5, if_neg h, if_neg (by omega)]
theorem start2_succ (key nonce : ByteArray) (c k : Nat) : upd (start2 key nonce c k) (13 + k) (lw nonce (4 * k)) = start2 key nonce c (k + 1) := by
  funext i
  unfold upd start2
  by_cases h : i = 13 + k
  · rw [if_pos h, if_neg (by omega), if_neg (by omega), if_neg (by omega), if_pos (by omega), h]; congr 1; omega
  · rw [if_neg h]
    by_cases h4 : i < 4
    · rw [if_pos h4, if_pos h4]
    · rw [if_neg h4, if_neg h4]
      by_cases h5 : i < 12
      · rw [if_pos h5, if_pos h5]
      · rw [if_neg h5, if_neg h5]
        by_cases h6 : i = 12
        · rw [if_pos h6, if_pos h6]
        · rw [if_neg h6, if_neg h6]
          by_cases h7 : i < 13 + k
          · rw [if_pos h7, if_pos (by omega)]
          · rw [if_neg h7, if_neg (by omega)]
theorem start2_w32 (key nonce : ByteArray) (c k : Nat) (hc : c < 4294967296) : W32 (start2 key nonce c k) := by
  intro i
  unfold start2
  have hs : ∀ i, sigma i < 4294967296 := by intro i; unfold sigma; match i with | 0 => decide | 1 => decide | 2 => decide | 3 => decide | n + 4 => simp
  by_cases h4 : i < 4
  · rw [if_pos h4]; exact hs i
  · rw [if_neg h4]
    by_cases h5 : i < 12
    · rw [if_pos h5]; exact lw_lt _ _
    · rw [if_neg h5]
      by_cases h6 : i = 12
      · rw [if_pos h6]; exact hc
      · rw [if_neg h6]
        by_cases h7 : i < 13 + k
        · rw [if_pos h7]; exact lw_lt _ _
        · rw [if_neg h7]; decide
theorem at8_extract (s : ByteArray) (a b i : Nat) (h : a + i < b) (hb : b ≤ s.size) : at8 (s.extract a b) i = at8 s (a + i) := by
  unfold at8
  have : (s.extract a b).data.toList[i]? = s.data.toList[a + i]? := by
    simp [ByteArray.data_extract, List.getElem?_drop, List.getElem?_take]
    omega
  rw [List.getD_eq_getElem?_getD, List.getD_eq_getElem?_getD, this]
theorem lw_extract (s : ByteArray) (a i : Nat) (h : a + i + 4 ≤ s.size) : lw (s.extract a s.size) i = lw s (a + i) := by
  unfold lw
  rw [at8_extract _ _ _ _ (by omega) (Nat.le_refl _), at8_extract _ _ _ _ (by omega) (Nat.le_refl _), at8_extract _ _ _ _ (by omega) (Nat.le_refl _), at8_extract _ _ _ _ (by omega) (Nat.le_refl _)]
  rfl


/-- the state behind k calls of one kind. -/
def cols (f : Nat → Nat) : Nat → (Nat → Nat)
  | 0 => f
  | k + 1 => qr (cols f k) k (4 + k) (8 + k) (12 + k)
def diags (f : Nat → Nat) : Nat → (Nat → Nat)
  | 0 => f
  | k + 1 => qr (diags f k) k (4 + (k + 1) % 4) (8 + (k + 2) % 4) (12 + (k + 3) % 4)
def rounds20 (f : Nat → Nat) : Nat → (Nat → Nat)
  | 0 => f
  | k + 1 => diags (cols (rounds20 f k) 4) 4
theorem W32.cols {f : Nat → Nat} (h : W32 f) (k : Nat) : W32 (cols f k) := by
  induction k with
  | zero => exact h
  | succ k ih => exact ih.qr _ _ _ _
theorem W32.diags {f : Nat → Nat} (h : W32 f) (k : Nat) : W32 (diags f k) := by
  induction k with
  | zero => exact h
  | succ k ih => exact ih.qr _ _ _ _
theorem W32.rounds20 {f : Nat → Nat} (h : W32 f) (k : Nat) : W32 (rounds20 f k) := by
  induction k with
  | zero => exact h
  | succ k ih => exact (ih.cols 4).diags 4
/-- the words of a block of the stream. -/
def blockW (key nonce : ByteArray) (c : Nat) : Nat → Nat := fun i => addw (rounds20 (start2 key nonce c 3) 10 i) (start2 key nonce c 3 i)
/-- its bytes. -/
def blockB (key nonce : ByteArray) (c : Nat) : Nat → Nat := fun j => blockW key nonce c (j / 4) / 256 ^ (j % 4) % 256
/-- the first 4 k bytes are laid. -/
def outK (b : Nat → Nat) (k : Nat) : Nat → Nat := fun j => if j < 4 * k then b j else 0
theorem outK_succ (W : Nat → Nat) (k : Nat) : row8 64 (upd (upd (upd (upd (outK (fun j => W (j / 4) / 256 ^ (j % 4) % 256) k) (4 * k) (W k % 256)) (4 * k + 1) (W k / 256 % 256)) (4 * k + 2) (W k / 65536 % 256)) (4 * k + 3) (W k / 16777216 % 256)) = row8 64 (outK (fun j => W (j / 4) / 256 ^ (j % 4) % 256) (k + 1)) := by
  apply row8_congr
  intro i _
  unfold upd outK
  dsimp only
  by_cases h3 : i = 4 * k + 3
  · subst h3; rw [if_pos rfl, if_pos (by omega), show (4 * k + 3) / 4 = k by omega, show (4 * k + 3) % 4 = 3 by omega]
  · rw [if_neg h3]
    by_cases h2 : i = 4 * k + 2
    · subst h2; rw [if_pos rfl, if_pos (by omega), show (4 * k + 2) / 4 = k by omega, show (4 * k + 2) % 4 = 2 by omega]
    · rw [if_neg h2]
      by_cases h1 : i = 4 * k + 1
      · subst h1; rw [if_pos rfl, if_pos (by omega), show (4 * k + 1) / 4 = k by omega, show (4 * k + 1) % 4 = 1 by omega, Nat.pow_one]
      · rw [if_neg h1]
        by_cases h0 : i = 4 * k
        · subst h0; rw [if_pos rfl, if_pos (by omega), show (4 * k) / 4 = k by omega, show (4 * k) % 4 = 0 by omega, Nat.pow_zero, Nat.div_one]
        · rw [if_neg h0]
          by_cases h : i < 4 * k
          · rw [if_pos h, if_pos (by omega)]
          · rw [if_neg h, if_neg (by omega)]
theorem outK_all (b : Nat → Nat) : row8 64 (outK b 16) = row8 64 b := row8_congr fun i hi => by unfold outK; rw [if_pos (by omega)]
theorem row8_all (n : Nat) (f : Nat → Nat) : (row8 n f).all (·.oneCell') = true := by
  rw [Array.all_eq_true_iff_forall_mem]
  intro v hv
  obtain ⟨i, _, rfl⟩ : ∃ i, i < n ∧ Value.int .u8 (f i : Nat) = v := by simpa [row8] using hv
  rfl
theorem row32_all (f : Nat → Nat) : (row32 f).all (·.oneCell') = true := by
  rw [Array.all_eq_true_iff_forall_mem]
  intro v hv
  obtain ⟨i, _, rfl⟩ : ∃ i, i < 16 ∧ Value.int .u32 (f i : Nat) = v := by simpa [row32] using hv
  rfl
theorem zero64 : row8 64 (fun _ => 0) = Array.replicate 64 (.int .u8 0) := by
  simp [row8, List.range, List.range.loop, Array.replicate, List.replicate]

theorem info121 (f : Nat → Nat) : (Tryz.prog.info? 176).map (·.size) = some (row32 f).size := by rw [row32_size]; kernel_rfl
theorem info125 (f : Nat → Nat) : (Tryz.prog.info? 160).map (·.size) = some (row8 64 f).size := by rw [row8_size]; kernel_rfl
theorem zero16 : row32 (fun _ => 0) = #[.int .u32 0, .int .u32 0, .int .u32 0, .int .u32 0, .int .u32 0, .int .u32 0, .int .u32 0, .int .u32 0, .int .u32 0, .int .u32 0, .int .u32 0, .int .u32 0, .int .u32 0, .int .u32 0, .int .u32 0, .int .u32 0] := by
  simp [row32, List.range, List.range.loop]
def SB1 (w : World) (f : Nat → Nat) (wr : World) : Prop := Below w.heap.size w wr ∧ wr.heap.size = w.heap.size + 2 ∧ Blk wr w.heap.size 160 (row8 64 fun _ => 0) ∧ Blk wr (w.heap.size + 1) 176 (row32 f)
theorem SB1.store {w wr : World} {f : Nat → Nat} (h : SB1 w f wr) (n i v : Nat) : SB1 w (upd f i v) ((wr.drewN n).setCell ⟨w.heap.size + 1, i, none⟩ (.int .u32 (v : Nat))) := by
  obtain ⟨h1, h2, h3, h4⟩ := h
  refine ⟨(below_drewN h1 n).setCell (by simp) _, by simpa [World.setCell] using h2, ?_, ?_⟩
  · exact Blk.only (w := wr) h3 (only_set (only_drewN (only_refl wr _) n) i _) (by omega)
  · rw [← row32_set]; exact Blk.set (w := wr.drewN n) h4 i _

def SB3 (w : World) (g : Nat) (S f : Nat → Nat) (wr : World) : Prop := Below w.heap.size w wr ∧ g < wr.heap.size ∧ w.heap.size + 2 ≤ g ∧ Blk wr w.heap.size 160 (row8 64 fun _ => 0) ∧ Blk wr (w.heap.size + 1) 176 (row32 S) ∧ Blk wr g 176 (row32 f)
theorem SB3.next {w wr w' : World} {g : Nat} {S f f' : Nat → Nat} (h : SB3 w g S f wr) (h1 : Blk w' g 176 (row32 f')) (h2 : wr.grownBy w' (some g)) : SB3 w g S f' w' := by
  obtain ⟨a, b, c, d, e, _⟩ := h
  exact ⟨only_below a h2 a.size (by omega), Nat.lt_of_lt_of_le b h2.size, c, d.only h2 (by omega), e.only h2 (by omega), h1⟩
theorem SB1.copy {w wr : World} {S f : Nat → Nat} {old : Array Value} {g : Nat} (h : SB1 w S wr) (hg : wr.heap.size = g) (hn : Blk (wr.alloc (.cells old 176)) g 176 old) : SB3 w g S f ((wr.alloc (.cells old 176)).setRow g (row32 f)) := by
  obtain ⟨a, b, c, d⟩ := h
  subst hg
  have hoth : ∀ k, k < wr.heap.size → ((wr.alloc (.cells old 176)).setRow wr.heap.size (row32 f)).heap[k]? = wr.heap[k]? := fun k hk => by
    rw [setRow_other _ _ _ _ (by omega)]; exact Below.heap_alloc _ _ _ hk
  refine ⟨⟨a.os, a.tape, a.output, ?_, fun k hk => (hoth k (by omega)).trans (a.block k hk)⟩, ?_, by omega, (hoth _ (by omega)).trans c, (hoth _ (by omega)).trans d, ?_⟩
  · simp; omega
  · simp
  · exact setRow_heap _ _ _ _ _ _ hn

theorem out_step {wr : World} {b : Nat} {f : Nat → Nat} (t W nq : Nat) (hW : W < 4294967296) (h : Blk wr b 160 (row8 64 f)) :
    Blk (((((wr.drewN nq).setCell ⟨b, 4 * t, none⟩ (.int .u8 ((W : Int) % 256))).setCell ⟨b, 4 * t + 1, none⟩ (.int .u8 ((W : Int) / 256 % 256))).setCell ⟨b, 4 * t + 2, none⟩ (.int .u8 ((W : Int) / 65536 % 256))).setCell ⟨b, 4 * t + 3, none⟩ (.int .u8 ((W : Int) / 16777216))) b 160
      (row8 64 (upd (upd (upd (upd f (4 * t) (W % 256)) (4 * t + 1) (W / 256 % 256)) (4 * t + 2) (W / 65536 % 256)) (4 * t + 3) (W / 16777216 % 256))) := by
  have h0 : Blk (wr.drewN nq) b 160 (row8 64 f) := h
  have h1 := (((h0.set (4 * t) (.int .u8 ((W % 256 : Nat) : Int))).set (4 * t + 1) (.int .u8 ((W / 256 % 256 : Nat) : Int))).set (4 * t + 2) (.int .u8 ((W / 65536 % 256 : Nat) : Int))).set (4 * t + 3) (.int .u8 ((W / 16777216 % 256 : Nat) : Int))
  rw [row8_set, row8_set, row8_set, row8_set] at h1
  have e : ((W / 16777216 % 256 : Nat) : Int) = (W : Int) / 16777216 := by omega
  rw [e] at h1
  exact h1
theorem below_setRow {B g : Nat} {a w : World} {cs : Array Value} (h : Below B a w) (hg : B ≤ g) : Below B a (w.setRow g cs) :=
  h.trans ⟨rfl, rfl, rfl, by simp, fun k hk => setRow_other _ _ _ _ (by omega)⟩
theorem quarterI (f : Nat → Nat) (a b c d : Nat) (A B C D : Int) (g : Nat) (w : World) (eA : A = a) (eB : B = b) (eC : C = c) (eD : D = d) (hf : W32 f) (ha : a < 16) (hb : b < 16) (hc : c < 16) (hd : d < 16) (h : Blk w g 176 (row32 f)) :
    Calls Tryz.prog 128 #[.pointer (some ⟨g, 0, none⟩), .int .i64 A, .int .i64 B, .int .i64 C, .int .i64 D] w fun e w' => e = .returned (.tuple #[]) ∧ Blk w' g 176 (row32 (qr f a b c d)) ∧ w.grownBy w' (some g) := by
  subst eA eB eC eD; exact quarter104 f a b c d g w hf ha hb hc hd h

set_option maxRecDepth 100000 in
set_option maxHeartbeats 8000000 in
theorem streamBlock85 (key nonce : ByteArray) (c : Nat) (w : World) (hk : key.size = 32) (hn : nonce.size = 12) (hc : c < 4294967296) :
    Calls Tryz.prog 108 #[.string key, .string nonce, .int .u32 c] w fun e w' => e = .returned (.agg (row8 64 (blockB key nonce c))) ∧ Below w.heap.size w w' := by
  have hk1 : key.size ≤ 32 := by omega
  have hk2 : 32 ≤ key.size := by omega
  have hn1 : nonce.size ≤ 12 := by omega
  have hn2 : 12 ≤ nonce.size := by omega
  clear hk hn
  go_enter Tryz.func108, Tryz.ntmps108
  go_wp2
  have hst : SB1 w (start1 key 0) ((w.alloc (.cells (Array.replicate 64 (.int .u8 0)) 160)).alloc (.cells (row32 (start1 key 0)) 176)) := by
    refine ⟨((Below.refl _ _).alloc (Nat.le_refl _) _).alloc (by simp) _, by simp, ?_, ?_⟩
    · rw [zero64]
      exact Blk.below (Blk.new w 160 _) ((Below.refl _ _).alloc (Nat.le_refl _) _) (by simp)
    · have := Blk.new (w.alloc (.cells (Array.replicate 64 (.int .u8 0)) 160)) 176 (row32 (start1 key 0))
      simpa using this
  rw [start1_zero] at hst
  go_loopw [17] (fun i wr => ∃ k : Nat, k ≤ 8 ∧ i = .int .i64 k ∧ SB1 w (start1 key k) wr) (fun i _ => 8 - (intOf i).toNat)
  case atStart => exact ⟨0, by omega, rfl, hst⟩
  case round =>
    clear hst
    obtain ⟨k, hk8, rfl, hsb⟩ := hrel
    have HS := Lib.hid hsb
    clear hsb
    by_cases hlt : k < 8
    · have hd : decide ((k : Int) < 8) = true := decide_eq_true (by omega)
      have hz := HS.out.2.2.2.frozen (4 + k)
      have hce := (HS.out.2.2.2.cell (4 + k)).trans (row32_at _ (4 + k) (by omega))
      go_wp2_with fail
      refine (littleWord86 _ _ ?_).mono ?_
      · simp; omega
      rintro e w' ⟨rfl, n, rfl⟩
      have e1 : lw (key.extract (4 * k) key.size) 0 = lw key (4 * k) := lw_extract key (4 * k) 0 (by omega)
      go_wp2
      go_roundw
      case rel =>
        refine ⟨k + 1, by omega, by go_num, ?_⟩
        rw [← start1_succ]
        exact HS.out.store n (4 + k) (lw key (4 * k))
      case measure => simp [intOf]; omega
    · have hd8 : decide ((k : Int) < 8) = false := decide_eq_false (by omega)
      have hz := HS.out.2.2.2.frozen 12
      have hce := (HS.out.2.2.2.cell 12).trans (row32_at _ 12 (by omega))
      go_wp2
      have HS2 : SB1 w (start2 key nonce c 0) (wr.setCell ⟨w.heap.size + 1, 12, none⟩ (.int .u32 (c : Nat))) := by
        obtain rfl : k = 8 := by omega
        have := HS.out.store 0 12 c
        unfold SB1 at this ⊢
        rw [start2_zero key nonce c] at this
        exact this
      clear hz hce HS
      go_loopw [31] (fun i wr => ∃ k : Nat, k ≤ 3 ∧ i = .int .i64 k ∧ SB1 w (start2 key nonce c k) wr) (fun i _ => 3 - (intOf i).toNat)
      case atStart => exact ⟨0, by omega, rfl, HS2⟩
      case round =>
        clear HS2
        obtain ⟨j, hk3, rfl, hsb⟩ := hrel
        have HS := Lib.hid hsb
        clear hsb
        by_cases hlt3 : j < 3
        · have hd : decide ((j : Int) < 3) = true := decide_eq_true (by omega)
          have hz := HS.out.2.2.2.frozen (13 + j)
          have hce := (HS.out.2.2.2.cell (13 + j)).trans (row32_at _ (13 + j) (by omega))
          go_wp2_with fail
          refine (littleWord86 _ _ ?_).mono ?_
          · simp; omega
          rintro e w' ⟨rfl, n, rfl⟩
          have e1 : lw (nonce.extract (4 * j) nonce.size) 0 = lw nonce (4 * j) := lw_extract nonce (4 * j) 0 (by omega)
          go_wp2
          go_roundw
          case rel =>
            refine ⟨j + 1, by omega, by go_num, ?_⟩
            rw [← start2_succ]
            exact HS.out.store n (13 + j) (lw nonce (4 * j))
          case measure => simp [intOf]; omega
        · have hd3 : decide ((j : Int) < 3) = false := decide_eq_false (by omega)
          have hnew := Blk.new wr 176 (row32 fun _ => 0)
          rw [zero16] at hnew
          have HN := Lib.hid hnew
          clear hnew
          go_wp2_with (first | (refine wpList_load_row rfl 176 _ rfl (w.heap.size + 1) rfl 176 (row32 (start2 key nonce c j)) (0, 0) _ HS.out.2.2.2 Tryz.underlying176 rfl (info121 _) ?_) | (refine wpList_store_row rfl 176 _ _ rfl wr.heap.size (row32 (start2 key nonce c j)) rfl rfl 176 _ HN.out (info121 _) (by rw [row32_size]; rfl) (row32_all _) ?_))
          have HS3 := Lib.hid (HS.out.copy (f := start2 key nonce c j) rfl HN.out)
          have HSS := Lib.hid (show start2 key nonce c j = start2 key nonce c 3 by rw [show j = 3 by omega])
          clear HS HN
          generalize wr.heap.size = g at *
          have HW := Lib.hid (start2_w32 key nonce c j hc)
          generalize start2 key nonce c j = S at *
          generalize ((wr.alloc _).setRow g (row32 S)) = w3 at *
          go_loopw [44] (fun i wr => ∃ m : Nat, m ≤ 10 ∧ i = .int .i64 m ∧ SB3 w g S (rounds20 S m) wr) (fun i _ => 10 - (intOf i).toNat)
          case atStart => exact ⟨0, by omega, rfl, HS3.out⟩
          case round =>
            clear HS3
            obtain ⟨m, hm, rfl, hsb⟩ := hrel
            have HS := Lib.hid hsb
            clear hsb
            by_cases hlm : m < 10
            · have hdm : decide ((m : Int) < 10) = true := decide_eq_true (by omega)
              have HWm := Lib.hid (HW.out.rounds20 m)
              generalize hF : rounds20 S m = F at *
              have HFF := Lib.hid hF
              clear hF
              obtain ⟨wo, hwo⟩ : ∃ wo : World, wo = wr := ⟨_, rfl⟩
              subst hwo
              go_wp2_with fail
              go_loopw [46] (fun i wr => ∃ q : Nat, q ≤ 4 ∧ i = .int .i64 q ∧ SB3 w g S (cols F q) wr) (fun i _ => 4 - (intOf i).toNat)
              case atStart => exact ⟨0, by omega, rfl, HS.out⟩
              case round =>
                clear HS
                obtain ⟨q, hq, rfl, hsb⟩ := hrel
                have HS := Lib.hid hsb
                clear hsb
                by_cases hlq : q < 4
                · have hdq : decide ((q : Int) < 4) = true := decide_eq_true (by omega)
                  have Q := quarterI (cols F q) q (4 + q) (8 + q) (12 + q) q (4 + q) (8 + q) (12 + q) g wr rfl (by omega) (by omega) (by omega) (HWm.out.cols q) (by omega) (by omega) (by omega) (by omega) HS.out.2.2.2.2.2
                  have HQ := Lib.hid Q
                  clear Q
                  go_wp2_with fail
                  refine HQ.out.mono ?_
                  rintro e w' ⟨rfl, hb, ho⟩
                  have HS' := Lib.hid (HS.out.next hb ho)
                  clear hb ho HQ HS
                  go_wp2
                  go_roundw
                  case rel => exact ⟨q + 1, by omega, by go_num, HS'.out⟩
                  case measure => simp [intOf]; omega
                · have hdq : decide ((q : Int) < 4) = false := decide_eq_false (by omega)
                  obtain ⟨wp, hwp⟩ : ∃ wp : World, wp = wr := ⟨_, rfl⟩
                  subst hwp
                  have HWd := Lib.hid (HWm.out.cols 4)
                  have HSd := Lib.hid (show SB3 w g S (cols F 4) wp from by
                    obtain rfl : q = 4 := by omega
                    exact HS.out)
                  clear HS
                  generalize hG : cols F 4 = G at *
                  have HG := Lib.hid hG
                  clear hG
                  go_wp2_with fail
                  go_loopw [58] (fun i wr => ∃ r : Nat, r ≤ 4 ∧ i = .int .i64 r ∧ SB3 w g S (diags G r) wr) (fun i _ => 4 - (intOf i).toNat)
                  case atStart => exact ⟨0, by omega, rfl, HSd.out⟩
                  case round =>
                    clear HSd
                    obtain ⟨r, hr, rfl, hsb⟩ := hrel
                    have HS := Lib.hid hsb
                    clear hsb
                    by_cases hlr : r < 4
                    · have hdr : decide ((r : Int) < 4) = true := decide_eq_true (by omega)
                      have Q := quarterI (diags G r) r (4 + (r + 1) % 4) (8 + (r + 2) % 4) (12 + (r + 3) % 4) r (4 + ((r : Int) + 1) % 4) (8 + ((r : Int) + 2) % 4) (12 + ((r : Int) + 3) % 4) g wr rfl (by omega) (by omega) (by omega) (HWd.out.diags r) (by omega) (by omega) (by omega) (by omega) HS.out.2.2.2.2.2
                      have HQ := Lib.hid Q
                      clear Q
                      go_wp2_with fail
                      refine HQ.out.mono ?_
                      rintro e w' ⟨rfl, hb, ho⟩
                      have HS' := Lib.hid (HS.out.next hb ho)
                      clear hb ho HQ HS
                      go_wp2
                      go_roundw
                      case rel => exact ⟨r + 1, by omega, by go_num, HS'.out⟩
                      case measure => simp [intOf]; omega
                    · have hdr : decide ((r : Int) < 4) = false := decide_eq_false (by omega)
                      have HSe := Lib.hid (show SB3 w g S (rounds20 S (m + 1)) wr from by
                        obtain rfl : r = 4 := by omega
                        show SB3 w g S (diags (cols (rounds20 S m) 4) 4) wr
                        rw [HFF.out, HG.out]
                        exact HS.out)
                      clear HS
                      go_wp2_with fail
                      go_roundw
                      case rel => exact ⟨m + 1, by omega, by go_num, HSe.out⟩
                      case measure => simp [intOf]; omega
            · have hdm : decide ((m : Int) < 10) = false := decide_eq_false (by omega)
              have hz64 : row8 64 (fun _ => 0) = Array.replicate 64 (.int .u8 0) := zero64
              have HT := Lib.hid (show SB3 w g S (rounds20 S 10) wr from by
                obtain rfl : m = 10 := by omega
                exact HS.out)
              clear HS hz64
              have HF := Lib.hid (HW.out.rounds20 10)
              generalize hR : rounds20 S 10 = F at *
              have HR := Lib.hid hR
              clear hR
              have hnew := Blk.new wr 160 (row8 64 fun _ => 0)
              have hlt0 := Nat.lt_of_lt_of_le (Nat.lt_succ_self _) HT.out.2.1
              rw [zero64] at hnew
              have HN := Lib.hid hnew
              clear hnew
              obtain ⟨wo, hwo⟩ : ∃ wo : World, wo = wr := ⟨_, rfl⟩
              subst hwo
              go_wp2_with fail
              go_loopw [77] (fun i wr => ∃ t : Nat, t ≤ 16 ∧ i = .int .i64 t ∧ Below wo.heap.size wo wr ∧ wo.heap.size < wr.heap.size ∧ Blk wr wo.heap.size 160 (row8 64 (outK (fun j => addw (F (j / 4)) (S (j / 4)) / 256 ^ (j % 4) % 256) t))) (fun i _ => 16 - (intOf i).toNat)
              case atStart =>
                refine ⟨0, by omega, rfl, (Below.refl _ _).alloc (Nat.le_refl _) _, by simp, ?_⟩
                have e0 : row8 64 (outK (fun j => addw (F (j / 4)) (S (j / 4)) / 256 ^ (j % 4) % 256) 0) = row8 64 (fun _ => 0) := row8_congr fun i _ => by simp [outK]
                rw [e0, zero64]
                exact HN.out
              case round =>
                obtain ⟨t, ht, rfl, hb, hsz, hbl⟩ := hrel
                have HB := Lib.hid hb
                have HBL := Lib.hid hbl
                clear hb hbl HN
                by_cases hlt16 : t < 16
                · have hdt : decide ((t : Int) < 16) = true := decide_eq_true (by omega)
                  have hgw := HT.out.2.2.1
                  have c1 := ((HT.out.2.2.2.2.2.below HB.out (by omega)).cell t).trans (row32_at _ t hlt16)
                  have c2 := ((HT.out.2.2.2.2.1.below HB.out (by omega)).cell t).trans (row32_at _ t hlt16)
                  have e1 := add_w (F t) (S t)
                  have e2 := add_w' (F t) (S t)
                  clear hgw
                  have z0 := HBL.out.frozen (4 * t)
                  have z1 := HBL.out.frozen (4 * t + 1)
                  have z2 := HBL.out.frozen (4 * t + 2)
                  have z3 := HBL.out.frozen (4 * t + 3)
                  have d0 := (HBL.out.cell (4 * t)).trans (row8_at 64 _ (4 * t) (by omega))
                  have d1 := (HBL.out.cell (4 * t + 1)).trans (row8_at 64 _ (4 * t + 1) (by omega))
                  have d2 := (HBL.out.cell (4 * t + 2)).trans (row8_at 64 _ (4 * t + 2) (by omega))
                  have d3 := (HBL.out.cell (4 * t + 3)).trans (row8_at 64 _ (4 * t + 3) (by omega))
                  have hA := addw_lt (F t) (S t)
                  generalize hW : addw (F t) (S t) = W at *
                  have HWW := Lib.hid hW
                  clear hW
                  go_wp2_with fail
                  go_quiet (fail)
                  go_wp2_with fail
                  go_roundw
                  case rel =>
                    refine ⟨t + 1, by omega, by go_num, ?_, ?_, ?_⟩
                    · exact ((((below_drewN HB.out nq).setCell (Nat.le_refl _) _).setCell (Nat.le_refl _) _).setCell (Nat.le_refl _) _).setCell (Nat.le_refl _) _
                    · simpa [World.setCell] using hsz
                    · have := out_step t W nq hA HBL.out
                      rw [← HWW.out] at this ⊢
                      rw [outK_succ (fun i => addw (F i) (S i)) t] at this
                      exact this
                  case measure => simp [intOf]; omega
                · have hdt : decide ((t : Int) < 16) = false := decide_eq_false (by omega)
                  have HL := Lib.hid (show Blk wr wo.heap.size 160 (row8 64 fun j => addw (F (j / 4)) (S (j / 4)) / 256 ^ (j % 4) % 256) from by
                    obtain rfl : t = 16 := by omega
                    have := HBL.out
                    rwa [outK_all] at this)
                  have H6 := Lib.hid (show Blk wr w.heap.size 160 (row8 64 fun _ => 0) from HT.out.2.2.2.1.below HB.out (by have := HT.out.2.2.1; omega))
                  generalize hO : (fun j => addw (F (j / 4)) (S (j / 4)) / 256 ^ (j % 4) % 256) = O at *
                  have HO := Lib.hid hO
                  clear hO
                  go_wp2_with (first | (refine wpList_load_row rfl 160 _ rfl wo.heap.size rfl 160 (row8 64 O) (0, 0) _ HL.out Tryz.underlying160 rfl (info125 _) ?_) | (refine wpList_store_row rfl 160 _ _ rfl w.heap.size (row8 64 O) rfl rfl 160 _ H6.out (info125 _) (by rw [row8_size, row8_size]) (row8_all _ _) ?_))
                  refine bodyPost_ret (v := .agg (row8 64 (blockB key nonce c))) (results_cell_row (p := 6) Tryz.results108 _ _ w.heap.size 160 _ (0, 0) _ rfl ?_ Tryz.underlying160 rfl (info125 _)) rfl ⟨rfl, ?_⟩
                  · have e1 : blockB key nonce c = O := by
                      rw [← HO.out, ← HR.out, HSS.out]
                      rfl
                    rw [e1]
                    exact setRow_heap _ _ _ _ _ _ H6.out
                  · exact below_setRow (below_step HT.out.1 (Nat.le_refl _) HB.out) (Nat.le_refl _)
end Go.Proofs.YtoomhlbebifklaaGreatDoor.Cha
