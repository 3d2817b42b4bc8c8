import Derived.Test.YtnjmcppljbkhnaaYh
set_option linter.unusedVariables false
set_option linter.unusedSimpArgs false
namespace Go.Proofs.Ytnjmcppljbkhnaa
open Go.RowKit
theorem i64_or_nat (a b : Nat) (ha : a < 9223372036854775808) (hb : b < 9223372036854775808) : bits .or .i64 (a : Int) (b : Int) = ((a ||| b : Nat) : Int) := by
  have hx : a ||| b < 2 ^ 63 := Nat.or_lt_two_pow ha hb
  show IntKind.i64.wrap ((BitVec.ofInt 64 (a : Int) ||| BitVec.ofInt 64 (b : Int)).toNat : Nat) = _
  rw [BitVec.toNat_or, BitVec.ofInt_natCast, BitVec.ofInt_natCast, BitVec.toNat_ofNat, BitVec.toNat_ofNat, Nat.mod_eq_of_lt (by omega), Nat.mod_eq_of_lt (by omega)]
  exact wraps_i64 _ (Int.natCast_nonneg _) (by omega)
theorem or_high (x y : Nat) (hx : x < 256) (hy : y < 256) : x / 4 ||| y * 64 % 256 = x / 4 + y % 4 * 64 := by
  have e : y * 64 % 256 = 64 * (y % 4) := by omega
  have h := Nat.two_pow_add_eq_or_of_lt (i := 6) (b := x / 4) (by omega) (y % 4)
  rw [e, Nat.or_comm]
  simp only [show 2 ^ 6 = 64 by rfl] at h
  omega
def lowL (L : List Nat) (i : Nat) : List Nat := (List.range (min i 17)).map (lowD L)
theorem lowL_len (L : List Nat) (i : Nat) : (lowL L i).length = min i 17 := by simp [lowL]
theorem lowL_succ (L : List Nat) (i : Nat) (h : i < 17) : lowL L (i + 1) = lowL L i ++ [lowD L i] := by
  unfold lowL
  rw [Nat.min_eq_left (by omega), Nat.min_eq_left (by omega), List.range_succ]
  simp
theorem lowL_stay (L : List Nat) (i : Nat) (h : 17 ≤ i) : lowL L (i + 1) = lowL L i := by
  unfold lowL
  rw [Nat.min_eq_right (by omega), Nat.min_eq_right (by omega)]
def highL (L : List Nat) (j : Nat) : List Nat := (List.range j).map (highD L)
theorem highL_len (L : List Nat) (j : Nat) : (highL L j).length = j := by simp [highL]
theorem highL_succ (L : List Nat) (j : Nat) : highL L (j + 1) = highL L j ++ [highD L j] := by simp [highL, List.range_succ]
theorem highL_at (L : List Nat) (n k : Nat) (h : k < n) : (highL L n).getD k 0 = highD L k := by
  simp [highL, List.getD_eq_getElem?_getD, h]
theorem lowD_lt (L : List Nat) (hd : ∀ d ∈ L, d < 256) (i : Nat) : lowD L i < 256 := by
  have := getD_lt L hd i
  have := getD_lt L hd 16
  unfold lowD
  split
  · omega
  · split <;> omega
theorem highD_lt (L : List Nat) (hd : ∀ d ∈ L, d < 256) (i : Nat) : highD L i < 256 := by
  have := getD_lt L hd (16 + i)
  unfold highD
  omega
theorem lowL_dig (L : List Nat) (hd : ∀ d ∈ L, d < 256) (i : Nat) : ∀ d ∈ lowL L i, d < 256 := by
  intro d h
  simp only [lowL, List.mem_map, List.mem_range] at h
  obtain ⟨k, _, rfl⟩ := h
  exact lowD_lt L hd k
theorem highL_dig (L : List Nat) (hd : ∀ d ∈ L, d < 256) (i : Nat) : ∀ d ∈ highL L i, d < 256 := by
  intro d h
  simp only [highL, List.mem_map, List.mem_range] at h
  obtain ⟨k, _, rfl⟩ := h
  exact highD_lt L hd k
theorem leB_more (f : Nat → Nat) (n m : Nat) (h : n ≤ m) (h0 : ∀ i, n ≤ i → i < m → f i = 0) : leB f n = leB f m := by
  induction m with
  | zero => rw [show n = 0 by omega]
  | succ m ih =>
    by_cases e : n = m + 1
    · rw [e]
    · rw [leB, ← ih (by omega) (fun i h1 h2 => h0 i h1 (by omega)), h0 m (by omega) (by omega)]
      simp
theorem valD_lowL (L : List Nat) : valD (lowL L L.length) = leB (lowD L) 17 := by
  unfold lowL
  rw [valD_map]
  refine leB_more _ _ _ (by omega) (fun i h1 h2 => ?_)
  have := getD_none L i (by omega)
  have h16 := getD_none L 16
  unfold lowD
  split
  · exact this
  · split
    · rw [this]
    · rfl
theorem valD_highL (L : List Nat) (j : Nat) : valD (highL L j) = leB (highD L) j := by
  unfold highL
  rw [valD_map]
/-- the parts of a number, and what becomes of it. -/
theorem red_parts (L : List Nat) (hd : ∀ d ∈ L, d < 256) : valD L = valD (lowL L L.length) + 1361129467683753853853498429727072845824 * valD (highL L (L.length - 16)) := by
  rw [valD_lowL, valD_highL]
  exact low_high L _ (by omega) hd
theorem leB_lt' (f : Nat → Nat) (hf : ∀ i, f i < 256) (n : Nat) : leB f n < 256 ^ n := by
  induction n with
  | zero => simp [leB]
  | succ n ih =>
    rw [leB, Nat.pow_succ]
    have := hf n
    have h2 : f n * 256 ^ n ≤ 255 * 256 ^ n := Nat.mul_le_mul_right _ (by omega)
    omega
theorem lowL_lt (L : List Nat) (hd : ∀ d ∈ L, d < 256) : valD (lowL L L.length) < 1361129467683753853853498429727072845824 := by
  rw [valD_lowL, leB]
  have h1 := leB_lt' (lowD L) (lowD_lt L hd) 16
  have h2 : lowD L 16 < 4 := by unfold lowD; simp; omega
  omega
theorem valD_five : valD [5] = 5 := by simp [valD]
theorem red_mod (V l h : Nat) (e : V = l + 1361129467683753853853498429727072845824 * h) : (l + h * 5) % P130 = V % P130 := by
  unfold P130
  omega
theorem red_last (V : Nat) (L : List Nat) (hd : ∀ d ∈ L, d < 256) (hl : L.length ≤ 18) (hv : valD L = V + 5) (hV : V < 1361129467683753853853498429727072845824) :
    (¬ (16 < L.length ∧ 4 ≤ L.getD 16 0) → V % P130 = V) ∧ (4 ≤ L.getD 16 0 → leB (upd (fun k => L.getD k 0) 16 (L.getD 16 0 % 4)) 17 = V % P130) := by
  have h1 := valD_getD L 18 hl
  rw [leB, leB] at h1
  have h2 := leB_lt' (fun k => L.getD k 0) (getD_lt L hd) 16
  have h3 : leB (upd (fun k => L.getD k 0) 16 (L.getD 16 0 % 4)) 17 = leB (fun k => L.getD k 0) 16 + L.getD 16 0 % 4 * 256 ^ 16 := by
    rw [leB, leB_congr' _ (fun k => L.getD k 0) 16 (fun i hi => by unfold upd; rw [if_neg (by omega)])]
    congr 1
  rw [h3]
  have h4 := getD_none L 16
  generalize leB (fun k => L.getD k 0) 16 = A at *
  generalize L.getD 16 0 = B at *
  generalize L.getD 17 0 = C at *
  unfold P130
  constructor
  · intro h
    by_cases h16 : 16 < L.length
    · omega
    · have := h4 h16
      omega
  · intro h
    have hC : C = 0 := by omega
    subst hC
    have hB : B = 4 := by omega
    subst hB
    omega
theorem own_open {w : World} {base n : Nat} {v : Value} {L : List Nat} (h : w.ownsRow base 3 1 v n (digV L)) (hl : L.length = n) (h0 : 0 < n) :
    ∃ g cap, v = .slice (some ⟨g, 0, none⟩) n cap ∧ base ≤ g ∧ n ≤ cap ∧ IR w g n (fun k => L.getD k 0) := by
  obtain ⟨h1, h2⟩ := h
  rcases h2 with ⟨rfl, h3⟩ | ⟨g, cap, cur, rfl, hb, hg, hc, hm, hs, ht⟩
  · omega
  · have hB : Blk w g 3 cur := hg
    refine ⟨g, cap, rfl, hb, hc, hB.lt, fun k hk => ⟨?_, hB.frozen k⟩⟩
    rw [hB.cell k]
    have h3 : (cur.toList.take (n * 1))[k]? = cur.toList[k]? := by rw [List.getElem?_take_of_lt (by omega)]
    rw [ht] at h3
    unfold digV at h3
    rw [List.getElem?_map] at h3
    have hk' : k < L.length := by omega
    simp [List.getD_eq_getElem?_getD, hk'] at h3 ⊢
    simpa using h3.symm
theorem Rd.own' {w : World} {base n : Nat} {v : Value} {L : List Nat} (h : w.ownsRow base 3 1 v n (digV L)) (hl : L.length = n) : Rd w v L := by
  subst hl
  exact Rd.own h
theorem Rd.ofIR {w : World} {g n cap : Nat} {f : Nat → Nat} (h : IR w g n f) : Rd w (.slice (some ⟨g, 0, none⟩) n cap) ((List.range n).map f) := by
  refine ⟨some ⟨g, 0, none⟩, cap, by simp, fun k hk => ⟨g, rfl, h.1, ?_⟩⟩
  simp at hk
  rw [(h.2 k hk).1]
  simp [List.getD_eq_getElem?_getD, hk]
/-- whether one of the first digits is not 0. -/
def anyD (f : Nat → Nat) (k : Nat) : Bool := decide (0 < leB f k)
theorem anyD_succ (f : Nat → Nat) (k : Nat) : anyD f (k + 1) = (anyD f k || decide (0 < f k)) := by
  unfold anyD
  rw [leB]
  have hp : 0 < 256 ^ k := Nat.pow_pos (by omega)
  have h1 : 0 < f k * 256 ^ k ↔ 0 < f k := by
    constructor
    · intro h; exact Nat.pos_of_mul_pos_right h
    · intro h; exact Nat.mul_pos h hp
  rw [Bool.eq_iff_iff]
  simp only [decide_eq_true_eq, Bool.or_eq_true]
  omega
theorem five_dig : ∀ d ∈ [5], d < 256 := by decide
theorem rd_five (W : World) : Rd (W.alloc (.cells #[Value.int IntKind.i64 5] 3)) (.slice (some ⟨W.heap.size, 0, none⟩) 1 1) [5] := by
  refine ⟨_, 1, rfl, fun k hk => ⟨W.heap.size, rfl, by simp, ?_⟩⟩
  obtain rfl : k = 0 := by simp at hk; omega
  rw [(Blk.new W 3 #[Value.int IntKind.i64 5]).cell 0]
  rfl
theorem IR.less {w : World} {g n m : Nat} {f : Nat → Nat} (h : IR w g n f) (hm : m ≤ n) : IR w g m f := ⟨h.1, fun i hi => h.2 i (by omega)⟩
end Go.Proofs.Ytnjmcppljbkhnaa
