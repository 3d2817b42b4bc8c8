import Derived.Test.YtnjmcppljbkhnaaYl
set_option linter.unusedVariables false
set_option linter.unusedSimpArgs false
namespace Go.Proofs.Ytnjmcppljbkhnaa
open Go.RowKit
theorem macT_cat (extra S : ByteArray) : (extra ++ zerosB (padN extra.size)) ++ (S ++ zerosB (padN S.size)) ++ strB 8 (bytesN extra.size) ++ strB 8 (bytesN S.size) = macT extra S := by
  unfold macT catS
  apply ByteArray.ext
  apply Array.ext'
  simp [List.append_assoc]
theorem bkey_cut (key nonce : ByteArray) : (strB 64 (blockB key nonce 0)).extract 0 32 = bkey key nonce := by
  unfold bkey strB
  apply ByteArray.ext
  apply Array.ext'
  simp [← List.map_take, List.take_range]
set_option maxRecDepth 100000 in
set_option maxHeartbeats 2000000 in
theorem sealedBlock21 (key nonce extra text : ByteArray) (w : World) (hk : key.size = 32) (hn : nonce.size = 12) (he : extra.size ≤ 100000) (hs : text.size ≤ 100000) :
    Calls Try.prog 21 #[.string key, .string nonce, .string extra, .string text] w fun e w' => e = .returned (.string (sealB key nonce extra text)) ∧ Below w.heap.size w w' := by
  have HK := Lib.hid hk
  have HNn := Lib.hid hn
  clear hk hn
  go_enter Try.func21, Try.ntmps21
  go_wp2_with fail
  refine (streamed25 key nonce text 1 _ HK.out HNn.out (by decide) (by omega)).mono ?_
  rintro e w1 ⟨rfl, b1⟩
  have HB1 := Lib.hid b1
  clear b1
  have HFin := Lib.hid (show strmS key nonce 1 text ++ tagS (bkey key nonce) (macT extra (strmS key nonce 1 text)) = sealB key nonce extra text from rfl)
  have hSs : (strmS key nonce 1 text).size ≤ 100000 := by rw [strmS_size]; exact hs
  generalize strmS key nonce 1 text = S at *
  have C50 := Lib.hid (fun w => refBlock50 key nonce 0 w HK.out HNn.out (by decide))
  have HBK := Lib.hid (bkey_cut key nonce)
  have h64 : (strB 64 (blockB key nonce 0)).size = 64 := strB_size _ _
  have h64a := Nat.le_of_eq h64
  have h64b := Nat.le_of_eq h64.symm
  have hbk : (bkey key nonce).size = 32 := strB_size _ _
  have HMC := Lib.hid (macT_cat extra S)
  have HMS := Lib.hid (macT_size extra S)
  have C24 := Lib.hid (fun w => tagOf24 (bkey key nonce) (macT extra S) w hbk (by have := HMS.out; omega))
  have CE1 := Lib.hid (fun w => evened51 extra w (by omega))
  have CE2 := Lib.hid (fun w => evened51 S w (by omega))
  have CS1 := Lib.hid (fun w => sizeText52 extra.size w (by omega))
  have CS2 := Lib.hid (fun w => sizeText52 S.size w (by omega))
  have hp1 : padN extra.size < 16 := Nat.mod_lt _ (by decide)
  have hp2 : padN S.size < 16 := Nat.mod_lt _ (by decide)
  have hE1 : (extra ++ zerosB (padN extra.size)).size ≤ 100016 := by rw [ByteArray.size_append, zerosB_size]; omega
  have hE2 : (S ++ zerosB (padN S.size)).size ≤ 100016 := by rw [ByteArray.size_append, zerosB_size]; omega
  have hT1 : (strB 8 (bytesN extra.size)).size ≤ 8 := by rw [strB_size]; omega
  have hT2 : (strB 8 (bytesN S.size)).size ≤ 8 := by rw [strB_size]; omega
  have hTG : (tagS (bkey key nonce) (macT extra S)).size ≤ 16 := by unfold tagS; rw [strB_size]; omega
  clear h64 hbk hp1 hp2
  generalize strB 64 (blockB key nonce 0) = K64 at *
  generalize tagS (bkey key nonce) (macT extra S) = TG at *
  generalize extra ++ zerosB (padN extra.size) = E1 at *
  generalize S ++ zerosB (padN S.size) = E2 at *
  generalize strB 8 (bytesN extra.size) = T1 at *
  generalize strB 8 (bytesN S.size) = T2 at *
  have i0 : (32 : Int) ≤ (K64.size : Int) := by omega
  have i00 : ¬ (K64.size : Int) < 32 := by omega
  have a1 : E1.size + E2.size ≤ 9223372036854775807 := by (try simp only [ByteArray.size_append]); omega
  have b1 : E1.size + E2.size ≤ maxLen := by unfold maxLen; omega
  have c1 : ¬ maxLen < E1.size + E2.size := by unfold maxLen; omega
  have d1 : ¬ 9223372036854775807 < E1.size + E2.size := by omega
  have a2 : E1.size + E2.size + T1.size ≤ 9223372036854775807 := by (try simp only [ByteArray.size_append]); omega
  have b2 : E1.size + E2.size + T1.size ≤ maxLen := by unfold maxLen; omega
  have c2 : ¬ maxLen < E1.size + E2.size + T1.size := by unfold maxLen; omega
  have d2 : ¬ 9223372036854775807 < E1.size + E2.size + T1.size := by omega
  have a3 : (E1 ++ E2).size + T1.size ≤ 9223372036854775807 := by (try simp only [ByteArray.size_append]); omega
  have b3 : (E1 ++ E2).size + T1.size ≤ maxLen := by unfold maxLen; omega
  have c3 : ¬ maxLen < (E1 ++ E2).size + T1.size := by unfold maxLen; omega
  have d3 : ¬ 9223372036854775807 < (E1 ++ E2).size + T1.size := by omega
  have a4 : E1.size + E2.size + T1.size + T2.size ≤ 9223372036854775807 := by (try simp only [ByteArray.size_append]); omega
  have b4 : E1.size + E2.size + T1.size + T2.size ≤ maxLen := by unfold maxLen; omega
  have c4 : ¬ maxLen < E1.size + E2.size + T1.size + T2.size := by unfold maxLen; omega
  have d4 : ¬ 9223372036854775807 < E1.size + E2.size + T1.size + T2.size := by omega
  have a5 : (E1 ++ E2 ++ T1).size + T2.size ≤ 9223372036854775807 := by (try simp only [ByteArray.size_append]); omega
  have b5 : (E1 ++ E2 ++ T1).size + T2.size ≤ maxLen := by unfold maxLen; omega
  have c5 : ¬ maxLen < (E1 ++ E2 ++ T1).size + T2.size := by unfold maxLen; omega
  have d5 : ¬ 9223372036854775807 < (E1 ++ E2 ++ T1).size + T2.size := by omega
  have a6 : S.size + TG.size ≤ 9223372036854775807 := by (try simp only [ByteArray.size_append]); omega
  have b6 : S.size + TG.size ≤ maxLen := by unfold maxLen; omega
  have c6 : ¬ maxLen < S.size + TG.size := by unfold maxLen; omega
  have d6 : ¬ 9223372036854775807 < S.size + TG.size := by omega
  have C24' := Lib.hid (show ∀ w, Calls Try.prog 24 #[.string (K64.extract 0 32), .string (E1 ++ E2 ++ T1 ++ T2)] w fun e w' => e = .returned (.string TG) ∧ Below w.heap.size w w' from by
    rw [HBK.out, HMC.out]; exact C24.out)
  clear C24
  go_wp2_with fail


  go_region_held3 (fun w' => Below w.heap.size w w') (first | exact below_drew HB1.out | exact below_step (by assumption) (by first | exact Nat.le_refl _ | (have := HB1.out.size; simp; omega)) hbb | assumption)
    (first | (go_at_call 50; refine (C50.out _).mono ?_; rintro e w' ⟨rfl, hbb⟩) | (go_at_call_of 51 (Value.string extra); refine (CE1.out _).mono ?_; rintro e w' ⟨rfl, rfl⟩) | (go_at_call_of 51 (Value.string S); refine (CE2.out _).mono ?_; rintro e w' ⟨rfl, rfl⟩) | (go_at_call_of 52 (Value.int IntKind.i64 extra.size); refine (CS1.out _).mono ?_; rintro e w' ⟨rfl, hbb⟩) | (go_at_call_of 52 (Value.int IntKind.i64 S.size); refine (CS2.out _).mono ?_; rintro e w' ⟨rfl, hbb⟩) | (go_at_call 24; refine (C24'.out _).mono ?_; rintro e w' ⟨rfl, hbb⟩))
  all_goals
    have HF := Lib.hid (by assumption : Below w.heap.size w _)
    go_wp2_with fail
    go_ret
    exact ⟨by rw [← HFin.out]; rfl, HF.out⟩
end Go.Proofs.Ytnjmcppljbkhnaa
