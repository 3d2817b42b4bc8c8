import Derived.Test.YtnjmcppljbkhnaaYe
set_option linter.unusedVariables false
set_option linter.unusedSimpArgs false
namespace Go.Proofs.Ytnjmcppljbkhnaa
open Go.RowKit
def IS (w : World) (n : Nat) (f : Nat → Nat) (wr : World) : Prop := Below w.heap.size w wr ∧ IR wr w.heap.size n f
theorem IS.drew {w wr : World} {n : Nat} {f : Nat → Nat} (h : IS w n f wr) : IS w n f wr.drew := ⟨below_drew h.1, h.2.drew⟩
theorem IS.store {w wr : World} {n : Nat} {f : Nat → Nat} (h : IS w n f wr) (i v : Nat) (hi : i < n) : IS w n (upd f i v) (wr.setCell ⟨w.heap.size, i, none⟩ (.int .i64 (v : Nat))) := ⟨h.1.setCell (Nat.le_refl _) _, h.2.set i v hi⟩
theorem valD_map (f : Nat → Nat) (n : Nat) : valD ((List.range n).map f) = leB f n := by
  induction n with
  | zero => rfl
  | succ n ih => rw [List.range_succ, List.map_append, List.map_cons, List.map_nil, valD_snoc, ih, leB]; simp [Nat.mul_comm]
set_option maxRecDepth 100000 in
set_option maxHeartbeats 2000000 in
theorem product58 (a b : List Nat) (va vb : Value) (w : World) (ha : Rd w va a) (hb : Rd w vb b) (hla : a.length ≤ 1000) (hlb : b.length ≤ 1000) (hda : ∀ d ∈ a, d < 256) (hdb : ∀ d ∈ b, d < 256) :
    Calls Try.prog 58 #[va, vb] w fun e w' => ∃ (v : Value) (L : List Nat), e = .returned v ∧ Rd w' v L ∧ (∀ d ∈ L, d < 256) ∧ valD L = valD a * valD b ∧ L.length = a.length + b.length + 1 ∧ Below w.heap.size w w' := by
  obtain ⟨pa, ca, rfl, hca⟩ := ha
  obtain ⟨pb, cb, rfl, hcb⟩ := hb
  have HCA := Lib.hid hca
  have HCB := Lib.hid hcb
  clear hca hcb
  have hmk := run_madeI w (a.length + b.length + 1) (by omega)
  have hmk2 : (Instr.makeSlice 89 (.int .i64 ((a.length : Int) + (b.length : Int) + 1)) (.int .i64 ((a.length : Int) + (b.length : Int) + 1))).run Try.prog w = .ok (.slice (some ⟨w.heap.size, 0, none⟩) (a.length + b.length + 1) (a.length + b.length + 1)) (madeI w (a.length + b.length + 1)) := by
    simpa using hmk
  have HW0 := Lib.hid (show IS w (a.length + b.length + 1) (fun _ => 0) (madeI w (a.length + b.length + 1)) from ⟨madeI_below w _, madeI_row w _⟩)
  generalize madeI w (a.length + b.length + 1) = w0 at *
  go_enter Try.func58, Try.ntmps58
  go_wp2_with fail
  clear hmk hmk2
  go_loopw [23] (fun iv wr => ∃ (i : Nat) (f : Nat → Nat), i ≤ a.length ∧ iv = .int .i64 i ∧ Hid (ProdAt a b f i 0 0) ∧ IS w (a.length + b.length + 1) f wr) (fun iv _ => a.length - (intOf iv).toNat)
  case atStart => exact ⟨0, _, by omega, rfl, Lib.hid (ProdAt.start a b), HW0.out⟩
  case round =>
    clear HW0
    obtain ⟨i, f, hi, rfl, HP, hws⟩ := hrel
    have HWS := Lib.hid hws
    clear hws
    by_cases hlt : i < a.length
    · have hd : decide ((i : Int) < (a.length : Int)) = true := decide_eq_true (by omega)
      obtain ⟨ga, rfl, hga, hcla⟩ := HCA.out i hlt
      have hclA : wr.cell? ⟨ga, i, none⟩ = some (.int .i64 (a.getD i 0 : Nat)) := by rw [← hcla]; exact HWS.out.1.cell hga
      clear hcla
      have xa := getD_lt a hda i
      generalize hxa : a.getD i 0 = x at *
      go_wp2_with fail
      go_loopw [8, 30] (fun cv kv wq => ∃ (k c : Nat) (f : Nat → Nat), k ≤ b.length ∧ kv = .int .i64 k ∧ cv = .int .i64 c ∧ Hid (ProdAt a b f i k c) ∧ IS w (a.length + b.length + 1) f wq) (fun _ kv _ => b.length - (intOf kv).toNat)
      case atStart => exact ⟨0, 0, f, by omega, rfl, rfl, HP, HWS.out⟩
      case round =>
        clear HP HWS
        obtain ⟨k, c, f, hk, rfl, rfl, HP, hws⟩ := hrel
        have HWS := Lib.hid hws
        clear hws
        by_cases hkl : k < b.length
        · have hdk : decide ((k : Int) < (b.length : Int)) = true := decide_eq_true (by omega)
          obtain ⟨gb, rfl, hgb, hclb⟩ := HCB.out k hkl
          have hclB : wr.cell? ⟨gb, k, none⟩ = some (.int .i64 (b.getD k 0 : Nat)) := by rw [← hclb]; exact HWS.out.1.cell hgb
          clear hclb
          have HN := Lib.hid (HP.out.next hda hdb hlt hkl)
          have hc : c < 256 := HP.out.2.1
          have hz : f (i + k) < 256 := HP.out.1 _
          have z0 := (HWS.out.2.2 (i + k) (by omega)).1
          have z1 := (HWS.out.2.2 (i + k) (by omega)).2
          have xb := getD_lt b hdb k
          rw [hxa] at HN
          generalize hxb : b.getD k 0 = y at *
          have HST := Lib.hid (fun v => HWS.out.store (i + k) v (by omega))
          have HK1 := Lib.hid (show k + 1 ≤ b.length from hkl)
          generalize hzz : f (i + k) = z at *
          have hxy : x * y ≤ 255 * 255 := Nat.mul_le_mul (by omega) (by omega)
          have hxi : (x : Int) * (y : Int) = ((x * y : Nat) : Int) := by simp
          generalize hq : x * y = q at *
          have hand : bits .and .i64 ((z : Int) + (q : Int) + (c : Int)) 255 = (((z + q + c) % 256 : Nat) : Int) := by
            have h := i64_and_nat (z + q + c) 255 (by omega) (by omega)
            rw [Nat.and_two_pow_sub_one_eq_mod _ 8] at h
            simpa using h
          have i1 : (i : Int) + (k : Int) < ((a.length + b.length + 1 : Nat) : Int) := by omega
          go_wp2_with fail
          go_roundw
          case rel => exact ⟨k + 1, (z + q + c) / 256, _, HK1.out, by go_num, by go_num, HN, by simpa using HST.out ((z + q + c) % 256)⟩
          case measure => simp [intOf]; omega
        · have hdk : decide ((k : Int) < (b.length : Int)) = false := decide_eq_false (by omega)
          obtain rfl : k = b.length := by omega
          have HC := Lib.hid (HP.out.carry hda hdb)
          clear HP
          go_wp2_with fail
          go_loopw [8, 12] (fun cv kv wp => ∃ (k c : Nat) (f : Nat → Nat), kv = .int .i64 k ∧ cv = .int .i64 c ∧ Hid (CarryAt a b f i k c) ∧ k ≤ 3000 ∧ IS w (a.length + b.length + 1) f wp) (fun _ kv _ => 3001 - (intOf kv).toNat)
          case atStart => exact ⟨i + b.length, c, f, by go_num, rfl, HC, by omega, HWS.out⟩
          case round =>
            clear HC HWS
            obtain ⟨k, c, f, rfl, rfl, HC, hk3, hws⟩ := hrel
            have HWS := Lib.hid hws
            clear hws
            by_cases hc0 : 0 < c
            · have hd0 : decide ((0 : Int) < (c : Int)) = true := decide_eq_true (by omega)
              have hd1 : decide ((c : Int) > 0) = true := decide_eq_true (by omega)
              have HN := Lib.hid (HC.out.next hda hdb hlt hc0)
              have hc : c < 256 := HC.out.2.1
              have hkb := HC.out.2.2.2 hc0
              have hz : f k < 256 := HC.out.1 _
              have z0 := (HWS.out.2.2 k (by omega)).1
              have z1 := (HWS.out.2.2 k (by omega)).2
              have HST := Lib.hid (fun v => HWS.out.store k v (by omega))
              generalize hzz : f k = z at *
              have hand : bits .and .i64 ((z : Int) + (c : Int)) 255 = (((z + c) % 256 : Nat) : Int) := by
                have h := i64_and_nat (z + c) 255 (by omega) (by omega)
                rw [Nat.and_two_pow_sub_one_eq_mod _ 8] at h
                simpa using h
              have i1 : (k : Int) < ((a.length + b.length + 1 : Nat) : Int) := by omega
              go_wp2_with fail
              go_roundw
              case rel => exact ⟨k + 1, (z + c) / 256, _, by go_num, by go_num, HN, by omega, by simpa using HST.out ((z + c) % 256)⟩
              case measure => simp [intOf]; omega
            · have hd0 : decide ((0 : Int) < (c : Int)) = false := decide_eq_false (by omega)
              have hd1 : decide ((c : Int) > 0) = false := decide_eq_false (by omega)
              obtain rfl : c = 0 := by omega
              have HD := Lib.hid HC.out.done
              go_wp2_with fail
              go_roundw
              case rel => exact ⟨i + 1, f, by omega, by go_num, HD, HWS.out⟩
              case measure => simp [intOf]; omega
    · have hd : decide ((i : Int) < (a.length : Int)) = false := decide_eq_false (by omega)
      obtain rfl : i = a.length := by omega
      have HL := Lib.hid HP.out.done
      have HF := Lib.hid HP.out.1
      go_wp2_with fail
      go_ret
      refine ⟨_, (List.range (a.length + b.length + 1)).map f, rfl, ⟨_, _, by simp; rfl, fun j hj => ⟨_, rfl, HWS.out.2.1, ?_⟩⟩, ?_, ?_, by simp, HWS.out.1⟩
      · simp at hj
        rw [(HWS.out.2.2 j hj).1]
        simp [List.getD_eq_getElem?_getD, hj]
      · intro d hd
        simp at hd
        obtain ⟨j, _, rfl⟩ := hd
        exact HF.out j
      · rw [← HL.out, ← valD_map]
end Go.Proofs.Ytnjmcppljbkhnaa

set_option linter.unusedVariables false
set_option linter.unusedSimpArgs false
namespace Go.Proofs.Ytnjmcppljbkhnaa
open Go.RowKit
/-- digit i of a number modulo 2^130. -/
def lowD (a : List Nat) (i : Nat) : Nat := if i < 16 then a.getD i 0 else if i = 16 then a.getD i 0 % 4 else 0
/-- digit i of a number over 2^130. -/
def highD (a : List Nat) (i : Nat) : Nat := a.getD (16 + i) 0 / 4 + a.getD (16 + i + 1) 0 % 4 * 64
theorem valD_take_drop (a : List Nat) (k : Nat) : valD a = valD (a.take k) + 256 ^ k * valD (a.drop k) := by
  induction k generalizing a with
  | zero => simp [valD]
  | succ k ih =>
    cases a with
    | nil => simp [valD]
    | cons d t =>
      simp only [List.take_succ_cons, List.drop_succ_cons, valD, Nat.pow_succ]
      rw [ih t, Nat.mul_add, Nat.add_assoc, ← Nat.mul_assoc, Nat.mul_comm 256 (256 ^ k)]
/-- the digits shifted by two bits. -/
theorem valD_shift (f : Nat → Nat) (n : Nat) (h : ∀ j, f j < 256) (h0 : f n = 0) : 4 * leB (fun i => f i / 4 + f (i + 1) % 4 * 64) n + f 0 % 4 = leB f n := by
  have key : ∀ m, 4 * leB (fun i => f i / 4 + f (i + 1) % 4 * 64) m + f 0 % 4 = leB f m + 256 ^ m * (f m % 4) := by
    intro m
    induction m with
    | zero => simp [leB]
    | succ m ih =>
      rw [leB, leB, Nat.mul_add, Nat.pow_succ]
      have e : 4 * ((f m / 4 + f (m + 1) % 4 * 64) * 256 ^ m) + 256 ^ m * (f m % 4) = f m * 256 ^ m + 256 ^ m * 256 * (f (m + 1) % 4) := by
        generalize 256 ^ m = P
        have hm : f m = 4 * (f m / 4) + f m % 4 := by omega
        generalize f m / 4 = q at *
        generalize f m % 4 = r at *
        generalize f (m + 1) % 4 = s at *
        rw [hm, Nat.add_mul, Nat.add_mul, Nat.mul_add]
        have e1 : 4 * (q * P) = 4 * q * P := by rw [Nat.mul_assoc]
        have e2 : 4 * (s * 64 * P) = P * 256 * s := by
          rw [show P * 256 * s = 256 * (s * P) by ac_rfl, show 4 * (s * 64 * P) = 4 * (64 * (s * P)) by ac_rfl]; omega
        rw [e1, e2, Nat.mul_comm P r]; omega
      omega
  have := key n
  rw [h0] at this
  simpa using this
theorem leB_add (f : Nat → Nat) (m n : Nat) : leB f (m + n) = leB f m + 256 ^ m * leB (fun i => f (m + i)) n := by
  induction n with
  | zero => simp [leB]
  | succ n ih =>
    rw [← Nat.add_assoc, leB, ih, leB, Nat.mul_add, Nat.pow_add]
    rw [show 256 ^ m * (f (m + n) * 256 ^ n) = f (m + n) * (256 ^ m * 256 ^ n) by ac_rfl]
    omega
theorem valD_getD (a : List Nat) (n : Nat) (h : a.length ≤ n) : valD a = leB (fun i => a.getD i 0) n := by
  have key : ∀ m, leB (fun i => a.getD i 0) m = valD (a.take m) := by
    intro m
    induction m with
    | zero => rfl
    | succ m ih => rw [leB, ih, valD_take, Nat.mul_comm]
  rw [key, List.take_of_length_le h]
/-- a number is its low part and 2^130 times its high part. -/
theorem low_high (a : List Nat) (n : Nat) (h : a.length ≤ 16 + n) (hd : ∀ d ∈ a, d < 256) : valD a = leB (lowD a) 17 + 1361129467683753853853498429727072845824 * leB (highD a) n := by
  rw [valD_getD a (16 + n) h, leB_add]
  have h1 := valD_shift (fun i => a.getD (16 + i) 0) n (fun j => getD_lt a hd _) (getD_none a _ (by omega))
  have h2 : leB (lowD a) 17 = leB (fun i => a.getD i 0) 16 + a.getD 16 0 % 4 * 256 ^ 16 := by
    rw [leB]
    congr 1
  rw [h2, ← h1]
  have h3 : leB (fun i => a.getD (16 + i) 0 / 4 + a.getD (16 + (i + 1)) 0 % 4 * 64) n = leB (highD a) n := rfl
  rw [h3]
  generalize leB (highD a) n = H
  simp only [Nat.add_zero]
  generalize a.getD 16 0 % 4 = g
  omega
end Go.Proofs.Ytnjmcppljbkhnaa

set_option linter.unusedVariables false
set_option linter.unusedSimpArgs false
namespace Go.Proofs.Ytnjmcppljbkhnaa
open Go.RowKit
/-- the number that a slice's cells bear: the measure of a loop over such slices. -/
def numAt (w : World) (v : Value) : Nat := match v with
  | .slice (some p) n _ => leB (fun k => (intOf ((w.cell? ⟨p.block, k, none⟩).getD (.int .i64 0))).toNat) n
  | _ => 0
theorem Rd.num {w : World} {v : Value} {L : List Nat} (h : Rd w v L) : numAt w v = valD L := by
  obtain ⟨p, cap, rfl, hc⟩ := h
  rw [valD_getD L L.length (Nat.le_refl _)]
  match p with
  | none =>
    have : L.length = 0 := by
      rcases Nat.eq_zero_or_pos L.length with h | h
      · exact h
      · obtain ⟨g, hg, _⟩ := hc 0 h; cases hg
    rw [this]; rfl
  | some q =>
    show leB _ L.length = _
    refine leB_congr' _ _ _ (fun k hk => ?_)
    obtain ⟨g, hg, _, hcl⟩ := hc k hk
    cases hg
    rw [hcl]
    simp [intOf]
end Go.Proofs.Ytnjmcppljbkhnaa

set_option linter.unusedVariables false
set_option linter.unusedSimpArgs false
namespace Go.Proofs.Ytnjmcppljbkhnaa
open Go.RowKit
theorem i64_or_nat (a b : Nat) (ha : a < 9223372036854775808) (hb : b < 9223372036854775808) : bits .or .i64 (a : Int) (b : Int) = ((a ||| b : Nat) : Int) := by
  have hx : a ||| b < 2 ^ 63 := Nat.or_lt_two_pow ha hb
  show IntKind.i64.wrap ((BitVec.ofInt 64 (a : Int) ||| BitVec.ofInt 64 (b : Int)).toNat : Nat) = _
  rw [BitVec.toNat_or, BitVec.ofInt_natCast, BitVec.ofInt_natCast, BitVec.toNat_ofNat, BitVec.toNat_ofNat, Nat.mod_eq_of_lt (by omega), Nat.mod_eq_of_lt (by omega)]
  exact wraps_i64 _ (Int.natCast_nonneg _) (by omega)
theorem or_high (x y : Nat) (hx : x < 256) (hy : y < 256) : x / 4 ||| y * 64 % 256 = x / 4 + y % 4 * 64 := by
  have e : y * 64 % 256 = 64 * (y % 4) := by omega
  have h := Nat.two_pow_add_eq_or_of_lt (i := 6) (b := x / 4) (by omega) (y % 4)
  rw [e, Nat.or_comm]
  simp only [show 2 ^ 6 = 64 by rfl] at h
  omega
def lowL (L : List Nat) (i : Nat) : List Nat := (List.range (min i 17)).map (lowD L)
theorem lowL_len (L : List Nat) (i : Nat) : (lowL L i).length = min i 17 := by simp [lowL]
theorem lowL_succ (L : List Nat) (i : Nat) (h : i < 17) : lowL L (i + 1) = lowL L i ++ [lowD L i] := by
  unfold lowL
  rw [Nat.min_eq_left (by omega), Nat.min_eq_left (by omega), List.range_succ]
  simp
theorem lowL_stay (L : List Nat) (i : Nat) (h : 17 ≤ i) : lowL L (i + 1) = lowL L i := by
  unfold lowL
  rw [Nat.min_eq_right (by omega), Nat.min_eq_right (by omega)]
def highL (L : List Nat) (j : Nat) : List Nat := (List.range j).map (highD L)
theorem highL_len (L : List Nat) (j : Nat) : (highL L j).length = j := by simp [highL]
theorem highL_succ (L : List Nat) (j : Nat) : highL L (j + 1) = highL L j ++ [highD L j] := by simp [highL, List.range_succ]
theorem highL_at (L : List Nat) (n k : Nat) (h : k < n) : (highL L n).getD k 0 = highD L k := by
  simp [highL, List.getD_eq_getElem?_getD, h]
theorem lowD_lt (L : List Nat) (hd : ∀ d ∈ L, d < 256) (i : Nat) : lowD L i < 256 := by
  have := getD_lt L hd i
  have := getD_lt L hd 16
  unfold lowD
  split
  · omega
  · split <;> omega
theorem highD_lt (L : List Nat) (hd : ∀ d ∈ L, d < 256) (i : Nat) : highD L i < 256 := by
  have := getD_lt L hd (16 + i)
  unfold highD
  omega
theorem lowL_dig (L : List Nat) (hd : ∀ d ∈ L, d < 256) (i : Nat) : ∀ d ∈ lowL L i, d < 256 := by
  intro d h
  simp only [lowL, List.mem_map, List.mem_range] at h
  obtain ⟨k, _, rfl⟩ := h
  exact lowD_lt L hd k
theorem highL_dig (L : List Nat) (hd : ∀ d ∈ L, d < 256) (i : Nat) : ∀ d ∈ highL L i, d < 256 := by
  intro d h
  simp only [highL, List.mem_map, List.mem_range] at h
  obtain ⟨k, _, rfl⟩ := h
  exact highD_lt L hd k
theorem leB_more (f : Nat → Nat) (n m : Nat) (h : n ≤ m) (h0 : ∀ i, n ≤ i → i < m → f i = 0) : leB f n = leB f m := by
  induction m with
  | zero => rw [show n = 0 by omega]
  | succ m ih =>
    by_cases e : n = m + 1
    · rw [e]
    · rw [leB, ← ih (by omega) (fun i h1 h2 => h0 i h1 (by omega)), h0 m (by omega) (by omega)]
      simp
theorem valD_lowL (L : List Nat) : valD (lowL L L.length) = leB (lowD L) 17 := by
  unfold lowL
  rw [valD_map]
  refine leB_more _ _ _ (by omega) (fun i h1 h2 => ?_)
  have := getD_none L i (by omega)
  have h16 := getD_none L 16
  unfold lowD
  split
  · exact this
  · split
    · rw [this]
    · rfl
theorem valD_highL (L : List Nat) (j : Nat) : valD (highL L j) = leB (highD L) j := by
  unfold highL
  rw [valD_map]
/-- the parts of a number, and what becomes of it. -/
theorem red_parts (L : List Nat) (hd : ∀ d ∈ L, d < 256) : valD L = valD (lowL L L.length) + 1361129467683753853853498429727072845824 * valD (highL L (L.length - 16)) := by
  rw [valD_lowL, valD_highL]
  exact low_high L _ (by omega) hd
theorem leB_lt' (f : Nat → Nat) (hf : ∀ i, f i < 256) (n : Nat) : leB f n < 256 ^ n := by
  induction n with
  | zero => simp [leB]
  | succ n ih =>
    rw [leB, Nat.pow_succ]
    have := hf n
    have h2 : f n * 256 ^ n ≤ 255 * 256 ^ n := Nat.mul_le_mul_right _ (by omega)
    omega
theorem lowL_lt (L : List Nat) (hd : ∀ d ∈ L, d < 256) : valD (lowL L L.length) < 1361129467683753853853498429727072845824 := by
  rw [valD_lowL, leB]
  have h1 := leB_lt' (lowD L) (lowD_lt L hd) 16
  have h2 : lowD L 16 < 4 := by unfold lowD; simp; omega
  omega
theorem valD_five : valD [5] = 5 := by simp [valD]
theorem red_mod (V l h : Nat) (e : V = l + 1361129467683753853853498429727072845824 * h) : (l + h * 5) % P130 = V % P130 := by
  unfold P130
  omega
theorem red_last (V : Nat) (L : List Nat) (hd : ∀ d ∈ L, d < 256) (hl : L.length ≤ 18) (hv : valD L = V + 5) (hV : V < 1361129467683753853853498429727072845824) :
    (¬ (16 < L.length ∧ 4 ≤ L.getD 16 0) → V % P130 = V) ∧ (4 ≤ L.getD 16 0 → leB (upd (fun k => L.getD k 0) 16 (L.getD 16 0 % 4)) 17 = V % P130) := by
  have h1 := valD_getD L 18 hl
  rw [leB, leB] at h1
  have h2 := leB_lt' (fun k => L.getD k 0) (getD_lt L hd) 16
  have h3 : leB (upd (fun k => L.getD k 0) 16 (L.getD 16 0 % 4)) 17 = leB (fun k => L.getD k 0) 16 + L.getD 16 0 % 4 * 256 ^ 16 := by
    rw [leB, leB_congr' _ (fun k => L.getD k 0) 16 (fun i hi => by unfold upd; rw [if_neg (by omega)])]
    congr 1
  rw [h3]
  have h4 := getD_none L 16
  generalize leB (fun k => L.getD k 0) 16 = A at *
  generalize L.getD 16 0 = B at *
  generalize L.getD 17 0 = C at *
  unfold P130
  constructor
  · intro h
    by_cases h16 : 16 < L.length
    · omega
    · have := h4 h16
      omega
  · intro h
    have hC : C = 0 := by omega
    subst hC
    have hB : B = 4 := by omega
    subst hB
    omega
theorem own_open {w : World} {base n : Nat} {v : Value} {L : List Nat} (h : w.ownsRow base 3 1 v n (digV L)) (hl : L.length = n) (h0 : 0 < n) :
    ∃ g cap, v = .slice (some ⟨g, 0, none⟩) n cap ∧ base ≤ g ∧ n ≤ cap ∧ IR w g n (fun k => L.getD k 0) := by
  obtain ⟨h1, h2⟩ := h
  rcases h2 with ⟨rfl, h3⟩ | ⟨g, cap, cur, rfl, hb, hg, hc, hm, hs, ht⟩
  · omega
  · have hB : Blk w g 3 cur := hg
    refine ⟨g, cap, rfl, hb, hc, hB.lt, fun k hk => ⟨?_, hB.frozen k⟩⟩
    rw [hB.cell k]
    have h3 : (cur.toList.take (n * 1))[k]? = cur.toList[k]? := by rw [List.getElem?_take_of_lt (by omega)]
    rw [ht] at h3
    unfold digV at h3
    rw [List.getElem?_map] at h3
    have hk' : k < L.length := by omega
    simp [List.getD_eq_getElem?_getD, hk'] at h3 ⊢
    simpa using h3.symm
theorem Rd.own' {w : World} {base n : Nat} {v : Value} {L : List Nat} (h : w.ownsRow base 3 1 v n (digV L)) (hl : L.length = n) : Rd w v L := by
  subst hl
  exact Rd.own h
theorem Rd.ofIR {w : World} {g n cap : Nat} {f : Nat → Nat} (h : IR w g n f) : Rd w (.slice (some ⟨g, 0, none⟩) n cap) ((List.range n).map f) := by
  refine ⟨some ⟨g, 0, none⟩, cap, by simp, fun k hk => ⟨g, rfl, h.1, ?_⟩⟩
  simp at hk
  rw [(h.2 k hk).1]
  simp [List.getD_eq_getElem?_getD, hk]
/-- whether one of the first digits is not 0. -/
def anyD (f : Nat → Nat) (k : Nat) : Bool := decide (0 < leB f k)
theorem anyD_succ (f : Nat → Nat) (k : Nat) : anyD f (k + 1) = (anyD f k || decide (0 < f k)) := by
  unfold anyD
  rw [leB]
  have hp : 0 < 256 ^ k := Nat.pow_pos (by omega)
  have h1 : 0 < f k * 256 ^ k ↔ 0 < f k := by
    constructor
    · intro h; exact Nat.pos_of_mul_pos_right h
    · intro h; exact Nat.mul_pos h hp
  rw [Bool.eq_iff_iff]
  simp only [decide_eq_true_eq, Bool.or_eq_true]
  omega
theorem five_dig : ∀ d ∈ [5], d < 256 := by decide
theorem rd_five (W : World) : Rd (W.alloc (.cells #[Value.int IntKind.i64 5] 3)) (.slice (some ⟨W.heap.size, 0, none⟩) 1 1) [5] := by
  refine ⟨_, 1, rfl, fun k hk => ⟨W.heap.size, rfl, by simp, ?_⟩⟩
  obtain rfl : k = 0 := by simp at hk; omega
  rw [(Blk.new W 3 #[Value.int IntKind.i64 5]).cell 0]
  rfl
theorem IR.less {w : World} {g n m : Nat} {f : Nat → Nat} (h : IR w g n f) (hm : m ≤ n) : IR w g m f := ⟨h.1, fun i hi => h.2 i (by omega)⟩
end Go.Proofs.Ytnjmcppljbkhnaa
