import Derived.Test.YtobiacdeoeogaaaGreatDoorAy
import Derived.Test.YtobiacdeoeogaaaGreatDoorAz
set_option linter.unusedVariables false
set_option linter.unusedSimpArgs false
namespace Go.Proofs.YtobiacdeoeogaaaGreatDoor
open Go.RowKit
theorem dig_val (k : Nat) (h : k < 10) : (UInt8.ofNat (48 + k)).toNat - 48 = k := by rw [toNat_dig k h]; omega
theorem dec6_back (n : Nat) (hn : n ≤ 999999) : 10 * (10 * (10 * (10 * (10 * (10 * 0 + n / 100000) + n / 10000 % 10) + n / 1000 % 10) + n / 100 % 10) + n / 10 % 10) + n % 10 = n := by omega
theorem decV_six (n : Nat) (hn : n ≤ 999999) : decV 0 (six n) = n := by
  refine Eq.trans ?_ (dec6_back n hn)
  have h := dig_val (n / 100000) (by omega)
  have h1 := dig_val (n / 10000 % 10) (by omega)
  have h2 := dig_val (n / 1000 % 10) (by omega)
  have h3 := dig_val (n / 100 % 10) (by omega)
  have h4 := dig_val (n / 10 % 10) (by omega)
  have h5 := dig_val (n % 10) (by omega)
  show 10 * (10 * (10 * (10 * (10 * (10 * 0 + ((UInt8.ofNat (48 + n / 100000)).toNat - 48)) + ((UInt8.ofNat (48 + n / 10000 % 10)).toNat - 48)) + ((UInt8.ofNat (48 + n / 1000 % 10)).toNat - 48)) + ((UInt8.ofNat (48 + n / 100 % 10)).toNat - 48)) + ((UInt8.ofNat (48 + n / 10 % 10)).toNat - 48)) + ((UInt8.ofNat (48 + n % 10)).toNat - 48) = _
  rw [h, h1, h2, h3, h4, h5]
theorem rn_fun {t x y x' y' : ByteArray} {k c k' c' : Int} (h : RnPost t x y k c) (h' : RnPost t x' y' k' c') : x = x' ∧ y = y' ∧ k = k' ∧ c = c' := by
  unfold RnPost at h h'
  cases hr : rdP nmL dgL t.data.toList with
  | none =>
    rw [hr] at h h'
    obtain ⟨rfl, rfl, rfl, rfl⟩ := h
    obtain ⟨rfl, rfl, rfl, rfl⟩ := h'
    exact ⟨rfl, rfl, rfl, rfl⟩
  | some v =>
    obtain ⟨a, b, n⟩ := v
    rw [hr] at h h'
    obtain ⟨rfl, rfl, rfl, rfl⟩ := h
    obtain ⟨rfl, rfl, rfl, rfl⟩ := h'
    exact ⟨rfl, rfl, rfl, rfl⟩
/-- what is read of a right name. -/
theorem rn_back (name digest : ByteArray) (n : Nat) (h1 : nameB name = true) (h2 : (digest.data.toList.all hexB && ((digest.size : Int) == 16)) = true) (hn : n ≤ 999999) (h8 : ¬ 255 < (chunkS name digest n).size) :
    RnPost (chunkS name digest n) name digest (n : Int) 0 := by
  have hd : digest.size = 16 := by
    rw [Bool.and_eq_true] at h2
    have := beq_iff_eq.1 h2.2
    omega
  have hsz := chunkS_size name digest n
  have hls : name.data.toList.length = name.size := (Lib.size_eq name).symm
  have hld : digest.data.toList.length = 16 := by rw [← Lib.size_eq]; exact hd
  have hne : 1 ≤ name.size := by
    unfold nameB at h1
    rw [Bool.and_eq_true] at h1
    rcases Nat.eq_zero_or_pos name.size with h0 | h0
    · exfalso
      have h3 := h1.1
      rw [Lib.toList_data] at h3
      have : name.data.toList = [] := List.length_eq_zero_iff.1 (by rw [hls]; exact h0)
      rw [this] at h3
      simp at h3
    · exact h0
  have hl : (chunkS name digest n).data.toList = name.data.toList ++ ([46, 119, 99, 46] ++ (digest.data.toList ++ ([46] ++ six n))) := by
    unfold chunkS chunkL
    simp
  have e1 : (chunkS name digest n).extract 0 name.size = name := bytes_eq (by
    rw [ex_list, hl, List.drop_zero, Nat.sub_zero, ← hls, List.take_left])
  have e2 : (chunkS name digest n).extract (name.size + 4) (name.size + 20) = digest := bytes_eq (by
    rw [ex_list, hl, ← List.drop_drop, ← hls, List.drop_left, show (4 : Nat) = ([46, 119, 99, 46] : List UInt8).length from rfl, List.drop_left]
    rw [show name.data.toList.length + 20 - (name.data.toList.length + ([46, 119, 99, 46] : List UInt8).length) = digest.data.toList.length by rw [hld]; simp, List.take_left])
  have e3 : ((chunkS name digest n).extract (name.size + 21) (chunkS name digest n).size).data.toList = six n := by
    rw [ex_list, hl, List.take_of_length_le]
    · rw [show name.size + 21 = name.data.toList.length + (([46, 119, 99, 46] : List UInt8).length + (digest.data.toList.length + ([46] : List UInt8).length)) by rw [hld, hls]; rfl]
      rw [← List.drop_drop, List.drop_left, ← List.drop_drop, List.drop_left, ← List.drop_drop, List.drop_left, List.drop_left]
    · simp only [List.length_drop, List.length_append, hld, hls, List.length_cons, List.length_nil]
      rw [hsz, hd]
      have : (six n).length = 6 := rfl
      omega
  have hck : ckN name digest (n : Int) = (chunkS name digest n, 0) := by
    unfold ckN
    rw [if_neg (by rw [h1]; simp), if_neg (by rw [h2]; simp), if_neg (by omega), Int.toNat_natCast, if_neg h8]
  have h := rn_yes (t := chunkS name digest n) (n := name.size) (v := (n : Int)) (by rw [hsz, hd]) hne (by
    rw [e3, atoi_dig (six_dig n hn) (by unfold six; simp), decV_six n hn]) (by omega) (by rw [e1, e2, hck]) (by rw [e1, e2, hck])
  rw [e1, e2] at h
  exact h
end Go.Proofs.YtobiacdeoeogaaaGreatDoor

set_option linter.unusedVariables false
set_option linter.unusedSimpArgs false
namespace Go.Proofs.YtobiacdeoeogaaaGreatDoor
open Go.RowKit
/-- what the law wants, ahead of the length. -/
def want0 (name digest : ByteArray) (number : Int) : Int :=
  if nameB name = false then 2 else if (digest.data.toList.all hexB && ((digest.size : Int) == 16)) = false then 6 else if (decide (0 ≤ number) && decide (number ≤ 999999)) = false then 7 else 0
theorem first_want (name digest : ByteArray) (number : Int) : (if (if (!nameB name) = true then (2 : Int) else 0) ≠ 0 then (if (!nameB name) = true then (2 : Int) else 0) else if (if (!(digest.data.toList.all hexB && ((digest.size : Int) == 16))) = true then (6 : Int) else 0) ≠ 0 then (if (!(digest.data.toList.all hexB && ((digest.size : Int) == 16))) = true then (6 : Int) else 0) else (if (!(decide (0 ≤ number) && decide (number ≤ 999999))) = true then (7 : Int) else 0)) = want0 name digest number := by
  unfold want0
  cases nameB name <;> cases (digest.data.toList.all hexB && ((digest.size : Int) == 16)) <;> cases (decide (0 ≤ number) && decide (number ≤ 999999)) <;> rfl
/-- the two readings of a text agree. -/
theorem tail_or {t a b x y : ByteArray} {k f m : Int} {is : Bool} (h : RnPost t a b k f) (h' : RdPost t x y m is) : (is = false ∧ a = ⟨#[]⟩ ∧ b = ⟨#[]⟩ ∧ k = 0 ∧ f = 6) ∨ (is = true ∧ a = x ∧ b = y ∧ k = m ∧ f = 0) := by
  unfold RnPost at h
  unfold RdPost at h'
  rw [rd_eq] at h
  cases hr : rdR nmL dgL t.data.toList with
  | none =>
    rw [hr] at h h'
    exact Or.inl ⟨h', h.1, h.2.1, h.2.2.1, h.2.2.2⟩
  | some v =>
    obtain ⟨a1, b1, n1⟩ := v
    rw [hr] at h h'
    obtain ⟨rfl, rfl, rfl, rfl⟩ := h
    obtain ⟨rfl, rfl, rfl, rfl⟩ := h'
    exact Or.inr ⟨rfl, rfl, rfl, rfl, rfl⟩
theorem ck_bad {name digest : ByteArray} {number v : Int} (h : want0 name digest number = v) (hv : v ≠ 0) : ckN name digest number = (⟨#[]⟩, v) := by
  subst h
  unfold want0 at hv ⊢
  unfold ckN
  by_cases h1 : nameB name = false
  · rw [if_pos h1, if_pos h1]
  rw [if_neg h1] at hv ⊢
  rw [if_neg h1]
  by_cases h2 : (digest.data.toList.all hexB && ((digest.size : Int) == 16)) = false
  · rw [if_pos h2, if_pos h2]
  rw [if_neg h2] at hv ⊢
  rw [if_neg h2]
  by_cases h3 : (decide (0 ≤ number) && decide (number ≤ 999999)) = false
  · have h3' : number < 0 ∨ 999999 < number := by
      by_cases h0 : 0 ≤ number
      · rw [decide_eq_true h0, Bool.true_and] at h3
        have := of_decide_eq_false h3
        omega
      · omega
    rw [if_pos h3, if_pos h3']
  · rw [if_neg h3] at hv
    exact absurd rfl hv
theorem ck_good {name digest : ByteArray} {number : Int} (h : want0 name digest number = 0) : nameB name = true ∧ (digest.data.toList.all hexB && ((digest.size : Int) == 16)) = true ∧ digest.size = 16 ∧ name.size ≤ 255 ∧ ∃ n : Nat, number = (n : Int) ∧ n ≤ 999999 := by
  unfold want0 at h
  by_cases h1 : nameB name = false
  · rw [if_pos h1] at h; exact absurd h (by decide)
  rw [if_neg h1] at h
  by_cases h2 : (digest.data.toList.all hexB && ((digest.size : Int) == 16)) = false
  · rw [if_pos h2] at h; exact absurd h (by decide)
  rw [if_neg h2] at h
  by_cases h3 : (decide (0 ≤ number) && decide (number ≤ 999999)) = false
  · rw [if_pos h3] at h; exact absurd h (by decide)
  have h1' := eq_true_of_ne_false h1
  have h2' := eq_true_of_ne_false h2
  have h3' := eq_true_of_ne_false h3
  refine ⟨h1', h2', ?_, ?_, number.toNat, ?_⟩
  · rw [Bool.and_eq_true] at h2'
    have := beq_iff_eq.1 h2'.2
    omega
  · rcases Nat.lt_or_ge 255 name.size with h | h
    · rw [nameB_big (by omega)] at h1'; cases h1'
    · exact h
  · rw [Bool.and_eq_true, decide_eq_true_iff, decide_eq_true_iff] at h3'
    omega
set_option maxRecDepth 100000 in
set_option maxHeartbeats 8000000 in
theorem law_ok (name digest : ByteArray) (number : Int) (text : ByteArray) (w : World) (g : Gl w) (hp : P10 w) (hse : SynE w) (h2 : digest.size ≤ 9000000000000000000) (h4 : text.size ≤ 9000000000000000000) :
    Calls Tryz.prog 5 #[.string name, .string digest, .int .i64 number, .string text] w fun e w' => e = .returned (.bool true) ∧ Below w.heap.size w w' := by
  have WW := Lib.hid (fun wx (hb : Below w.heap.size w wx) => wraps_ok wx (g.below hb))
  have GG := Lib.hid (fun wx (hb : Below w.heap.size w wx) => g.below hb)
  have PP := Lib.hid (fun wx (hb : Below w.heap.size w wx) => hp.below hb)
  have SS := Lib.hid (fun wx (hb : Below w.heap.size w wx) => hse.below hb)
  obtain ⟨s, c, hsc⟩ : ∃ s c, ckN name digest number = (s, c) := ⟨_, _, rfl⟩
  have HCK := Lib.hid (ChunkName_ok name digest number h2 w g hp)
  rw [hsc] at HCK
  dsimp only at HCK
  have HSC := Lib.hid hsc
  have hfw := first_want name digest number
  have HN := Lib.hid (fun w => refIsName_ok name w)
  have HX := Lib.hid (fun w => isHex_ok digest 16 w h2)
  have HW := Lib.hid (fun w => within_ok number 0 999999 w)
  have HR := Lib.hid (fun wx (hb : Below w.heap.size w wx) => readChunkName_ok text h4 wx (g.below hb) (hp.below hb) (hse.below hb))
  have HRR := Lib.hid (fun wx => readChunk_ok text wx h4)
  obtain ⟨v, hv⟩ : ∃ v, want0 name digest number = v := ⟨_, rfl⟩
  rw [hv] at hfw
  have HV := Lib.hid hv
  clear g hp hse hsc hv
  generalize nameB name = b1 at *
  generalize (digest.data.toList.all hexB && ((digest.size : Int) == 16)) = b2 at *
  generalize (decide (0 ≤ number) && decide (number ≤ 999999)) = b3 at *
  obtain ⟨x1, hx1⟩ : ∃ x : Int, (if (!b1) = true then (2 : Int) else 0) = x := ⟨_, rfl⟩
  obtain ⟨x2, hx2⟩ : ∃ x : Int, (if (!b2) = true then (6 : Int) else 0) = x := ⟨_, rfl⟩
  obtain ⟨x3, hx3⟩ : ∃ x : Int, (if (!b3) = true then (7 : Int) else 0) = x := ⟨_, rfl⟩
  rw [hx1, hx2, hx3] at hfw
  have HW1 := Lib.hid (fun w => when_ok (!b1) 2 w)
  have HW2 := Lib.hid (fun w => when_ok (!b2) 6 w)
  have HW3 := Lib.hid (fun w => when_ok (!b3) 7 w)
  rw [hx1] at HW1
  rw [hx2] at HW2
  rw [hx3] at HW3
  have HFI := Lib.hid (fun (w7 : World) => first3_ok w7.heap.size x1 x2 x3 (w7.alloc (.cells #[.int .i64 x1, .int .i64 x2, .int .i64 x3] 22)) (Blk.new _ _ _))
  rw [hfw] at HFI
  clear hx1 hx2 hx3 hfw
  go_enter Tryz.func5, Tryz.ntmps5
  go_wp2_with fail
  refine HCK.out.mono ?_
  rintro e w1 ⟨rfl, hb1⟩
  have HB1 := Lib.hid hb1
  clear hb1 HCK
  go_wp2_with fail
  refine (HN.out _).mono ?_
  rintro e w2 ⟨rfl, rfl⟩
  go_wp2_with fail
  refine (HW1.out _).mono ?_
  rintro e w3 ⟨rfl, rfl⟩
  go_wp2_with fail
  refine (HX.out _).mono ?_
  rintro e w4 ⟨rfl, rfl⟩
  go_wp2_with fail
  refine (HW2.out _).mono ?_
  rintro e w5 ⟨rfl, rfl⟩
  go_wp2_with fail
  refine (HW.out _).mono ?_
  rintro e w6 ⟨rfl, rfl⟩
  go_wp2_with fail
  refine (HW3.out _).mono ?_
  rintro e w7 ⟨rfl, rfl⟩
  go_wp2_with fail
  refine (HFI.out w7).mono ?_
  rintro e w8 ⟨rfl, rfl⟩
  have HB8 := Lib.hid (HB1.out.alloc HB1.out.size (.cells #[.int .i64 x1, .int .i64 x2, .int .i64 x3] 22))
  clear HB1 HFI HW1 HW2 HW3 HN HX HW
  generalize (w7.alloc (.cells #[.int .i64 x1, .int .i64 x2, .int .i64 x3] 22)) = w8 at *
  cases hv0 : (v == 0)
  · have hvne : v ≠ 0 := by simpa using hv0
    have hvn : (v != 0) = true := by simpa using hvne
    have hck := ck_bad HV.out hvne
    rw [HSC.out] at hck
    obtain ⟨rfl, rfl⟩ := Prod.mk.inj hck
    clear hck HSC HV hvne
    go_wp2_with fail
    refine (WW.out _ HB8.out).mono ?_
    rintro e w9 ⟨rfl, hb9⟩
    have HB9 := Lib.hid (HB8.out.trans (hb9.mono HB8.out.size))
    clear hb9 HB8
    go_wp2_with fail
    refine (HR.out _ HB9.out).mono ?_
    rintro e w20 ⟨a, b, k, f, rfl, hrn, hb20⟩
    have HB20 := Lib.hid (HB9.out.trans (hb20.mono HB9.out.size))
    clear hb20
    go_wp2_with fail
    refine (HRR.out _).mono ?_
    rintro e w21 ⟨x, y, m, is, rfl, hrd, hb21⟩
    have HB21 := Lib.hid (HB20.out.trans (hb21.mono HB20.out.size))
    clear hb21
    rcases tail_or hrn hrd with ⟨rfl, rfl, rfl, rfl, rfl⟩ | ⟨rfl, rfl, rfl, rfl, rfl⟩
    · go_wp2_with fail
      go_ret
      exact ⟨rfl, HB21.out⟩
    · go_wp2_with fail
      go_ret
      exact ⟨rfl, HB21.out⟩
  · have hv1 : v = 0 := by simpa using hv0
    subst hv1
    obtain ⟨g1, g2, g3, g4, n, rfl, hn⟩ := ck_good HV.out
    have HCN := Lib.hid (fun wx (hb : Below w.heap.size w wx) => chunkNameOf_ok name digest n hn (by omega) (by omega) wx (PP.out wx hb))
    have HBK := Lib.hid (fun h8 => rn_back name digest n g1 g2 hn h8)
    have hck : ckN name digest (n : Int) = if 255 < (chunkS name digest n).size then (⟨#[]⟩, 8) else (chunkS name digest n, 0) := by
      unfold ckN
      rw [if_neg (by rw [g1]; simp), if_neg (by rw [g2]; simp), if_neg (by omega), Int.toNat_natCast]
    rw [HSC.out] at hck
    have hcs := chunkS_size name digest n
    have hcs9 : (chunkS name digest n).size ≤ 9000000000000000000 := by omega
    have HRC := Lib.hid (fun wx (hb : Below w.heap.size w wx) => readChunkName_ok (chunkS name digest n) hcs9 wx (GG.out wx hb) (PP.out wx hb) (SS.out wx hb))
    clear hcs hcs9 HSC HV g1 g2
    generalize chunkS name digest n = cs at *
    by_cases h8 : 255 < cs.size
    · rw [if_pos h8] at hck
      obtain ⟨rfl, rfl⟩ := Prod.mk.inj hck
      have hd8 : decide ((255 : Int) < (cs.size : Int)) = true := decide_eq_true (by omega)
      have hd8' : (255 : Int) < (cs.size : Int) := by omega
      clear hck
      go_wp2_with fail
      refine (HCN.out _ HB8.out).mono ?_
      rintro e w9 ⟨rfl, hb9⟩
      have HB9 := Lib.hid (HB8.out.trans (hb9.mono HB8.out.size))
      clear hb9 HB8
      go_wp2_with fail
      refine (WW.out _ HB9.out).mono ?_
      rintro e w10 ⟨rfl, hb10⟩
      have HB10 := Lib.hid (HB9.out.trans (hb10.mono HB9.out.size))
      clear hb10 HB9
      go_wp2_with fail
      refine (HR.out _ HB10.out).mono ?_
      rintro e w20 ⟨a, b, k, f, rfl, hrn, hb20⟩
      have HB20 := Lib.hid (HB10.out.trans (hb20.mono HB10.out.size))
      clear hb20
      go_wp2_with fail
      refine (HRR.out _).mono ?_
      rintro e w21 ⟨x, y, m, is, rfl, hrd, hb21⟩
      have HB21 := Lib.hid (HB20.out.trans (hb21.mono HB20.out.size))
      clear hb21
      rcases tail_or hrn hrd with ⟨rfl, rfl, rfl, rfl, rfl⟩ | ⟨rfl, rfl, rfl, rfl, rfl⟩
      · go_wp2_with fail
        go_ret
        exact ⟨rfl, HB21.out⟩
      · go_wp2_with fail
        go_ret
        exact ⟨rfl, HB21.out⟩
    · rw [if_neg h8] at hck
      obtain ⟨rfl, rfl⟩ := Prod.mk.inj hck
      have hd8 : decide ((255 : Int) < (s.size : Int)) = false := decide_eq_false (by omega)
      have hd8' : ¬ (255 : Int) < (s.size : Int) := by omega
      clear hck
      go_wp2_with fail
      refine (HCN.out _ HB8.out).mono ?_
      rintro e w9 ⟨rfl, hb9⟩
      have HB9 := Lib.hid (HB8.out.trans (hb9.mono HB8.out.size))
      clear hb9 HB8
      go_wp2_with fail
      refine (WW.out _ HB9.out).mono ?_
      rintro e w10 ⟨rfl, hb10⟩
      have HB10 := Lib.hid (HB9.out.trans (hb10.mono HB9.out.size))
      clear hb10 HB9
      go_wp2_with fail
      refine (HRC.out _ HB10.out).mono ?_
      rintro e w11 ⟨a0, b0, k0, c0, rfl, hrn0, hb11⟩
      obtain ⟨rfl, rfl, rfl, rfl⟩ := rn_fun hrn0 (HBK.out h8)
      have HB11 := Lib.hid (HB10.out.trans (hb11.mono HB10.out.size))
      clear hb11 HB10 hrn0
      go_wp2_with fail
      refine (HCN.out _ HB11.out).mono ?_
      rintro e w12 ⟨rfl, hb12⟩
      have HB12 := Lib.hid (HB11.out.trans (hb12.mono HB11.out.size))
      clear hb12 HB11
      go_wp2_with fail
      refine (HR.out _ HB12.out).mono ?_
      rintro e w20 ⟨a, b, k, f, rfl, hrn, hb20⟩
      have HB20 := Lib.hid (HB12.out.trans (hb20.mono HB12.out.size))
      clear hb20
      go_wp2_with fail
      refine (HRR.out _).mono ?_
      rintro e w21 ⟨x, y, m, is, rfl, hrd, hb21⟩
      have HB21 := Lib.hid (HB20.out.trans (hb21.mono HB20.out.size))
      clear hb21
      rcases tail_or hrn hrd with ⟨rfl, rfl, rfl, rfl, rfl⟩ | ⟨rfl, rfl, rfl, rfl, rfl⟩
      · go_wp2_with fail
        go_ret
        exact ⟨rfl, HB21.out⟩
      · go_wp2_with fail
        go_ret
        exact ⟨rfl, HB21.out⟩
end Go.Proofs.YtobiacdeoeogaaaGreatDoor
