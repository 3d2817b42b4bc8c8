import Derived.Test.YtoomhlbebifklaaGreatDoorAe
import Derived.Test.YtoomhlbebifklaaGreatDoorXg
import Derived.Lib.BufferWrite
set_option linter.unusedVariables false
set_option linter.unusedSimpArgs false
namespace Go.Proofs.YtoomhlbebifklaaGreatDoor
open Go.RowKit
/-- the table of powers of ten is as laid. -/
def P10 (w : World) : Prop := Lib.TabIs Tryz.prog w "internal/strconv.uint64pow10" .u64 Lib.pow10Tab
theorem P10.below {w w' : World} (h : P10 w) (hb : Below w.heap.size w w') : P10 w' := by
  have hg : Tryz.prog.globalNamed "internal/strconv.uint64pow10" = some 5 := by kernel_rfl
  unfold P10 Lib.TabIs World.var? at h ⊢
  rw [hg] at h ⊢
  simp only [Option.bind_some] at h ⊢
  have hlt : 5 < w.heap.size := by
    rcases Nat.lt_or_ge 5 w.heap.size with h' | h'
    · exact h'
    · rw [Array.getElem?_eq_none h'] at h; cases h
  rw [hb.block _ hlt]
  exact h
theorem below_grow' (w : World) (k : Nat) (os : Array Obj) : Below w.heap.size w (Sort.grow (w.drewN k) os) :=
  (((Kp.refl [] w).drewN k).below (Nat.le_refl _) (by simp)).trans ⟨rfl, rfl, rfl, by simp [Sort.grow], fun i hi => by
    have h1 : i < (w.drewN k).heap.size := Nat.lt_of_lt_of_le hi (((Kp.refl [] w).drewN k).size)
    simp [Sort.grow, Array.getElem?_append, h1]; omega⟩
/-- the digits of a number. -/
abbrev decS (n : Nat) : ByteArray := ⟨(Lib.decDigits n).toArray⟩
theorem itoa_w (n : Nat) (hn : n ≤ 999999) (w : World) (hp : P10 w) : Calls Tryz.prog 87 #[.int .i64 (n : Int)] w fun e w' => e = .returned (.string (decS n)) ∧ Below w.heap.size w w' := by
  refine (Tryz.strconv_Itoa (n : Int) (by omega) (by omega) w hp).mono ?_
  rintro e w' ⟨rfl, k, os, rfl⟩
  refine ⟨?_, below_grow' w k os⟩
  have : Lib.itoa (n : Int) = Lib.decDigits n := by unfold Lib.itoa; rw [if_neg (by omega)]; rfl
  rw [this]
theorem decS_size (n : Nat) (hn : n ≤ 999999) : 1 ≤ (decS n).size ∧ (decS n).size ≤ 6 := by
  have h1 : (decS n).size = (Lib.decDigits n).length := by simp [ByteArray.size]
  rw [h1, Lib.decDigits_length]
  refine ⟨Lib.nDigits_pos n, ?_⟩
  by_cases h2 : n < 10
  · rw [Lib.nDigits_small h2]; omega
  rw [Lib.nDigits_big h2]
  by_cases h3 : n / 10 < 10
  · rw [Lib.nDigits_small h3]; omega
  rw [Lib.nDigits_big h3]
  by_cases h4 : n / 10 / 10 < 10
  · rw [Lib.nDigits_small h4]; omega
  rw [Lib.nDigits_big h4]
  by_cases h5 : n / 10 / 10 / 10 < 10
  · rw [Lib.nDigits_small h5]; omega
  rw [Lib.nDigits_big h5]
  by_cases h6 : n / 10 / 10 / 10 / 10 < 10
  · rw [Lib.nDigits_small h6]; omega
  rw [Lib.nDigits_big h6, Lib.nDigits_small (by omega)]; omega
set_option maxRecDepth 100000 in
set_option maxHeartbeats 4000000 in
theorem sha256_ok (t : ByteArray) (w : World) (g : Gl w) (ht : t.size ≤ 1048576) : Calls Tryz.prog 138 #[.string t] w fun e w' => ∃ s : ByteArray, e = .returned (.string s) ∧ s.size = 32 ∧ Below w.heap.size w w' := by
  have HT := Lib.hid (fun wx (hb : Below w.heap.size w wx) => (g.below hb).tabW)
  have hgw : 10 < w.heap.size := by
    obtain ⟨v, _, hc⟩ := g.tab 0 (by decide)
    exact World.block_lt_of_cell? _ _ hc
  clear g
  go_enter Tryz.func138, Tryz.ntmps138
  go_wp2_with fail
  refine (newStream_ok w).mono ?_
  rintro e w2 ⟨st, eb, rfl, hS, hb⟩
  have HB := Lib.hid hb
  have HS := Lib.hid hS
  have hsz := hb.size
  clear hb hS
  go_wp2_with fail
  refine (write_ok t w2 hsz hgw (HT.out _ HB.out) HS.out (by omega)).mono ?_
  rintro e w3 ⟨rfl, hS3, hb3, hk3⟩
  have HB3 := Lib.hid (HB.out.trans hb3)
  have HS3 := Lib.hid hS3
  have hsz3 := HB3.out.size
  clear hS3 hb3 hk3 HB HS
  go_wp2_with fail
  refine (sum_ok w3 hsz3 (by omega) (HT.out _ HB3.out) HS3.out).mono ?_
  rintro e w4 ⟨s, rfl, h32, hb4⟩
  have HB4 := Lib.hid (HB3.out.trans (hb4.mono hsz3))
  clear hb4
  go_wp2_with fail
  go_ret
  exact ⟨_, rfl, h32, HB4.out⟩
set_option maxRecDepth 100000 in
set_option maxHeartbeats 4000000 in
theorem Sha256_ok (t : ByteArray) (w : World) (g : Gl w) (ht : t.size ≤ 1048576) : Calls Tryz.prog 124 #[.string t] w fun e w' => ∃ s : ByteArray, e = .returned (.string s) ∧ s.size = 32 ∧ Below w.heap.size w w' := by
  have C := Lib.hid (sha256_ok t w g ht)
  clear g
  go_enter Tryz.func124, Tryz.ntmps124
  go_wp2_with fail
  refine C.out.mono ?_
  rintro e w2 ⟨s, rfl, h32, hb⟩
  go_wp2_with fail
  go_ret
  exact ⟨_, rfl, h32, hb⟩
/-- n bytes. -/
def BRow (n : Nat) (X : Array Value) : Prop := X.size = n ∧ ∀ i, i < n → ∃ b : Nat, b < 256 ∧ X[i]? = some (.int .u8 (b : Int))
theorem BRow.set {n : Nat} {X : Array Value} (h : BRow n X) (k b : Nat) (hb : b < 256) : BRow n (X.setIfInBounds k (.int .u8 (b : Int))) := by
  refine ⟨by simp [h.1], fun i hi => ?_⟩
  obtain ⟨c, hc, hx⟩ := h.2 i hi
  by_cases e : k = i
  · subst e
    exact ⟨b, hb, by simp [Array.getElem?_setIfInBounds, h.1, hi]⟩
  · exact ⟨c, hc, by simp [Array.getElem?_setIfInBounds, e, hx]⟩
theorem BRow.list {n : Nat} {X : Array Value} (h : BRow n X) : ∃ l : List UInt8, l.length = n ∧ X.toList = Lib.byteCells l := by
  have key : ∀ (L : List Value), (∀ v ∈ L, ∃ b : Nat, b < 256 ∧ v = .int .u8 (b : Int)) → ∃ l : List UInt8, l.length = L.length ∧ L = Lib.byteCells l := by
    intro L
    induction L with
    | nil => intro _; exact ⟨[], rfl, rfl⟩
    | cons v L ih =>
      intro hv
      obtain ⟨b, hb, rfl⟩ := hv v (by simp)
      obtain ⟨l, hl, he⟩ := ih (fun x hx => hv x (by simp [hx]))
      refine ⟨UInt8.ofNat b :: l, by simp [hl], ?_⟩
      rw [he]
      have : (UInt8.ofNat b).toNat = b := by simp; omega
      simp [Lib.byteCells, this]
  obtain ⟨l, hl, he⟩ := key X.toList (fun v hv => by
    obtain ⟨i, hi, hx⟩ := List.mem_iff_getElem.1 hv
    obtain ⟨b, hb, hc⟩ := h.2 i (by rw [← h.1]; simpa using hi)
    refine ⟨b, hb, ?_⟩
    have : X[i]? = some v := by rw [← hx]; simp
    rw [hc] at this
    exact (Option.some.inj this).symm)
  exact ⟨l, by rw [hl]; simpa using h.1, he⟩
theorem BRow.of_bytes (l : List UInt8) : BRow l.length (Lib.byteCells l).toArray := by
  refine ⟨by simp [Lib.byteCells], fun i hi => ⟨(l[i]'hi).toNat, (l[i]'hi).toNat_lt, ?_⟩⟩
  simp [Lib.byteCells, hi]
/-- a key that stands ahead of zeros. -/
theorem pad_row (key : ByteArray) (hk : key.size = 32) : BRow 64 ((Array.replicate 64 (Value.int .u8 0)).toList.take 0 ++ Lib.byteCells key.data.toList ++ (Array.replicate 64 (Value.int .u8 0)).toList.drop (0 + key.size)).toArray := by
  have hl : key.data.toList.length = 32 := by rw [← Lib.size_eq]; exact hk
  have e : (Array.replicate 64 (Value.int .u8 0)).toList.take 0 ++ Lib.byteCells key.data.toList ++ (Array.replicate 64 (Value.int .u8 0)).toList.drop (0 + key.size) = Lib.byteCells (key.data.toList ++ List.replicate 32 0) := by
    rw [hk]
    simp [Lib.byteCells, List.map_append]
  rw [e]
  have := BRow.of_bytes (key.data.toList ++ List.replicate 32 0)
  rw [List.length_append, hl] at this
  simpa using this
set_option maxRecDepth 100000 in
set_option maxHeartbeats 4000000 in
theorem hmac1_ok (b kb : Nat) (key : ByteArray) (w : World) (hb : b < 256) (hk : key.size = 32) (hc : w.cell? ⟨kb, 0, none⟩ = some (.string key)) : Calls Tryz.prog 125 #[.int .u8 (b : Int), pt kb] w fun e w' => ∃ s : ByteArray, e = .returned (.string s) ∧ s.size = 64 ∧ Below w.heap.size w w' := by
  have hmk : ∀ x : World, (Instr.makeSlice 149 (.int .i64 64) (.int .i64 64)).run Tryz.prog x = .ok (.slice (some ⟨x.heap.size, 0, none⟩) 64 64) (x.alloc (.cells (Array.replicate 64 (.int .u8 0)) 5)) := fun _ => by kernel_rfl
  have PR := Lib.hid (pad_row key hk)
  obtain ⟨P, hP⟩ : ∃ P, ((Array.replicate 64 (Value.int .u8 0)).toList.take 0 ++ Lib.byteCells key.data.toList ++ (Array.replicate 64 (Value.int .u8 0)).toList.drop (0 + key.size)).toArray = P := ⟨_, rfl⟩
  have hcp : ∀ (x : World) (g : Nat) (ty : TypeId), Blk x g 5 (Array.replicate 64 (.int .u8 0)) → (Builtin.copy_ #[149, 9] ty #[.slice (some ⟨g, 0, none⟩) 64 64, .string key]).run Tryz.prog x = .ok (goInt key.size) (x.setRow g P) := fun x g ty h => by
    rw [← hP]
    exact Lib.run_copy_row_string (P := Tryz.prog) x 149 9 ty 5 g 0 64 64 key (Array.replicate 64 (.int .u8 0)) 5 Tryz.underlying149 (by kernel_rfl) h (by omega) (by rw [hk]; simp)
  rw [hP] at PR
  have hcx := (cell_old2 (o := .cells (Array.replicate 64 (.int .u8 0)) 5) (World.block_lt_of_cell? _ _ hc)).trans hc
  have CP := Lib.hid (hcp (w.alloc (.cells (Array.replicate 64 (.int .u8 0)) 5)) w.heap.size)
  have CP1 := CP.out
  have hB1 := Blk.new w 5 (Array.replicate 64 (.int .u8 0))
  have hcp1 : ∀ ty, (Builtin.copy_ #[149, 9] ty #[.slice (some ⟨w.heap.size, 0, none⟩) 64 64, .string key]).run Tryz.prog (w.alloc (.cells (Array.replicate 64 (.int .u8 0)) 5)) = .ok (goInt key.size) ((w.alloc (.cells (Array.replicate 64 (.int .u8 0)) 5)).setRow w.heap.size P) := fun ty => CP.out ty hB1
  have HB := Lib.hid (below_setRow (g := w.heap.size) (cs := P) ((Below.refl w.heap.size w).alloc (Nat.le_refl _) (.cells (Array.replicate 64 (.int .u8 0)) 5)) (Nat.le_refl _))
  have HK := Lib.hid (show Blk _ w.heap.size 5 P from setRow_heap _ _ _ _ _ _ hB1)
  clear CP CP1 hcp hB1 hP
  go_enter Tryz.func125, Tryz.ntmps125
  go_upto_region 3 with (fail)
  clear hcp1 hmk hcx hc
  generalize (World.setRow _ w.heap.size P) = w2 at *
  go_wp2_with fail
  go_loopw [12] (fun x wr => ∃ (i : Nat) (X : Array Value), x = .int .i64 (i : Int) ∧ i ≤ 64 ∧ BRow 64 X ∧ Blk wr w.heap.size 5 X ∧ Below w.heap.size w wr) (fun x _ => 64 - (intOf x).toNat)
  case atStart => exact ⟨0, P, rfl, by omega, PR.out, HK.out, HB.out⟩
  case round =>
    clear HK HB PR
    obtain ⟨i, X, rfl, hi, hX, hbk, hbl⟩ := hrel
    have HX := Lib.hid hX
    have HK := Lib.hid hbk
    have HB := Lib.hid hbl
    clear hX hbk hbl
    by_cases hlt : i < 64
    · have hd : decide ((i : Int) < 64) = true := decide_eq_true (by omega)
      obtain ⟨c, hc, hcc⟩ := HX.out.2 i hlt
      have c0 := (HK.out.cell i).trans hcc
      have f0 := HK.out.frozen i
      have hx := u8_xor_nat c b hc hb
      have hlx : c ^^^ b < 256 := Nat.xor_lt_two_pow (n := 8) hc hb
      have HN := Lib.hid (HX.out.set i (c ^^^ b) hlx)
      have HKN := Lib.hid (HK.out.set i (.int .u8 ((c ^^^ b : Nat) : Int)))
      have HBN := Lib.hid (HB.out.setCell (p := ⟨w.heap.size, i, none⟩) (Nat.le_refl _) (.int .u8 ((c ^^^ b : Nat) : Int)))
      generalize c ^^^ b = y at *
      clear hcc HX HK HB
      go_wp2_with fail
      go_roundw
      case rel => exact ⟨i + 1, _, by go_num, by omega, HN.out, HKN.out, HBN.out⟩
      case measure => simp [intOf]; omega
    · have hd : decide ((i : Int) < 64) = false := decide_eq_false (by omega)
      obtain ⟨l, hl, he⟩ := HX.out.list
      have hcv := conv_block (cap := 64) HK.out he
      rw [hl] at hcv
      have HL := Lib.hid hl
      clear hl he
      go_wp2_with fail
      go_ret
      exact ⟨_, rfl, by rw [Lib.size_eq]; exact HL.out, HB.out⟩
theorem join_nil2 (a b : List UInt8) : Lib.join [a, b] [] = a ++ b := by simp [Lib.join]
set_option maxRecDepth 100000 in
set_option maxHeartbeats 4000000 in
theorem concat2_ok (a b : ByteArray) (g : Nat) (w : World) (hB : Blk w g 9 #[.string a, .string b]) (ha : a.size ≤ 1048576) (hb : b.size ≤ 1048576) : Calls Tryz.prog 126 #[sl g 2 2] w fun e w' => ∃ s : ByteArray, e = .returned (.string s) ∧ s.size = a.size + b.size ∧ Below w.heap.size w w' := by
  have HJ := Lib.hid (Tryz.strings_Join g 0 2 [a, b] ⟨#[]⟩ w (by
    intro j x hx
    match j, hx with
    | 0, hx => simp at hx; subst hx; exact hB.cell 0
    | 1, hx => simp at hx; subst hx; exact hB.cell 1) hB.lt (by simp) (by simp) (by
      show (Lib.join [a.data.toList, b.data.toList] []).length ≤ _
      rw [join_nil2, List.length_append, ← Lib.size_eq, ← Lib.size_eq]; omega))
  have es : RowKit.Hid ((⟨(Lib.join ([a, b].map (·.data.toList)) (⟨#[]⟩ : ByteArray).data.toList).toArray⟩ : ByteArray).size = a.size + b.size) := by
    show (⟨(Lib.join [a.data.toList, b.data.toList] []).toArray⟩ : ByteArray).size = _
    rw [join_nil2, Lib.size_eq a, Lib.size_eq b, Lib.size_eq]
    simp
  generalize (⟨(Lib.join ([a, b].map (·.data.toList)) (⟨#[]⟩ : ByteArray).data.toList).toArray⟩ : ByteArray) = s at *
  clear hB
  go_enter Tryz.func126, Tryz.ntmps126
  go_wp2_with fail
  refine HJ.out.mono ?_
  rintro e w4 ⟨rfl, hb4⟩
  go_wp2_with fail
  go_ret
  exact ⟨_, rfl, es.out, hb4⟩
set_option maxRecDepth 100000 in
set_option maxHeartbeats 4000000 in
theorem hmac_ok (key t : ByteArray) (w : World) (g : Gl w) (hk : key.size = 32) (ht : t.size ≤ 1000) : Calls Tryz.prog 105 #[.string key, .string t] w fun e w' => ∃ s : ByteArray, e = .returned (.string s) ∧ s.size = 32 ∧ Below w.heap.size w w' := by
  have G := Lib.hid (fun wx (hb : Below w.heap.size w wx) => g.below hb)
  clear g
  have hk1 : ¬ (key.size : Int) > 64 := by omega
  have hk2 : decide ((key.size : Int) > 64) = false := decide_eq_false hk1
  go_enter Tryz.func105, Tryz.ntmps105
  go_wp2_with fail
  have HK := Lib.hid (Blk.new w 9 #[.string key])
  have HB := Lib.hid ((Below.refl w.heap.size w).alloc (Nat.le_refl _) (.cells #[.string key] 9))
  generalize (w.alloc (.cells #[.string key] 9)) = w1 at *
  generalize hkb : w.heap.size = kb at *
  have HKB := Lib.hid hkb
  clear hkb
  refine (hmac1_ok 92 kb key w1 (by decide) hk (HK.out.cell 0)).mono ?_
  rintro e w2 ⟨s1, rfl, hs1, hb⟩
  have HK2 := Lib.hid (HK.out.below hb HK.out.lt)
  have HB2 := Lib.hid (HB.out.trans (hb.mono (Nat.le_of_lt HK.out.lt)))
  clear hb HK HB
  go_wp2_with fail
  refine (hmac1_ok 54 kb key w2 (by decide) hk (HK2.out.cell 0)).mono ?_
  rintro e w3 ⟨s2, rfl, hs2, hb⟩
  have HK3 := Lib.hid (HK2.out.below hb HK2.out.lt)
  have HB3 := Lib.hid (HB2.out.trans (hb.mono (Nat.le_of_lt HK2.out.lt)))
  have hz3 := Nat.le_of_lt HK3.out.lt
  clear hb HK2 HB2
  go_wp2_with fail
  refine (concat2_ok s2 t w3.heap.size (w3.alloc (.cells #[.string s2, .string t] 9)) (Blk.new _ _ _) (by omega) (by omega)).mono ?_
  rintro e w4 ⟨s3, rfl, hs3, hb⟩
  have HB4 := Lib.hid ((HB3.out.alloc hz3 _).trans (hb.mono (by simp; omega)))
  have hz4 : kb ≤ w4.heap.size := by have := hb.size; simp at this; omega
  clear hb HB3 HK3
  go_wp2_with fail
  refine (Sha256_ok s3 w4 (G.out _ HB4.out) (by omega)).mono ?_
  rintro e w5 ⟨s4, rfl, hs4, hb⟩
  have HB5 := Lib.hid (HB4.out.trans (hb.mono hz4))
  have hz5 : kb ≤ w5.heap.size := Nat.le_trans hz4 hb.size
  clear hb HB4
  go_wp2_with fail
  refine (concat2_ok s1 s4 w5.heap.size (w5.alloc (.cells #[.string s1, .string s4] 9)) (Blk.new _ _ _) (by omega) (by omega)).mono ?_
  rintro e w6 ⟨s5, rfl, hs5, hb⟩
  have HB6 := Lib.hid ((HB5.out.alloc hz5 _).trans (hb.mono (by simp; omega)))
  have hz6 : kb ≤ w6.heap.size := by have := hb.size; simp at this; omega
  clear hb HB5
  go_wp2_with fail
  refine (Sha256_ok s5 w6 (G.out _ HB6.out) (by omega)).mono ?_
  rintro e w7 ⟨s6, rfl, hs6, hb⟩
  have HB7 := Lib.hid (HB6.out.trans (hb.mono hz6))
  clear hb HB6
  go_wp2_with fail
  go_ret
  exact ⟨_, rfl, hs6, by rw [HKB.out]; exact HB7.out⟩
/-- the cells of keys. -/
abbrev kC (a b c : ByteArray) : Array Value := #[.string a, .string b, .string c]
set_option maxRecDepth 100000 in
set_option maxHeartbeats 4000000 in
theorem nameTag_ok (a b c t : ByteArray) (w : World) (g : Gl w) (hb : b.size = 32) (hc : c.size = 16) (ht : t.size ≤ 255) : Calls Tryz.prog 83 #[.agg (kC a b c), .string t] w fun e w' => ∃ s : ByteArray, e = .returned (.string s) ∧ s.size = 16 ∧ Below w.heap.size w w' := by
  have hsum : c.size + t.size ≤ 1000 := by omega
  have hsz : (c ++ t).size ≤ 1000 := by rw [ByteArray.size_append]; omega
  have G := Lib.hid (fun wx (hb : Below w.heap.size w wx) => hmac_ok b (c ++ t) wx (g.below hb) (by assumption) hsz)
  clear g hsz
  go_enter Tryz.func83, Tryz.ntmps83
  go_wp2_with fail
  have HB := Lib.hid ((Below.refl w.heap.size w).alloc (Nat.le_refl _) (.cells (kC a b c) 23))
  generalize (w.alloc (.cells (kC a b c) 23)) = w1 at *
  refine (G.out _ HB.out).mono ?_
  rintro e w2 ⟨s, rfl, hs, hb2⟩
  have HB2 := Lib.hid (HB.out.trans (hb2.mono HB.out.size))
  have hs1 : 16 ≤ s.size := by omega
  have hs2 : (16 : Int) ≤ (s.size : Int) := by omega
  clear hb2
  go_wp2_with fail
  go_ret
  exact ⟨_, rfl, by simp; omega, HB2.out⟩
end Go.Proofs.YtoomhlbebifklaaGreatDoor
