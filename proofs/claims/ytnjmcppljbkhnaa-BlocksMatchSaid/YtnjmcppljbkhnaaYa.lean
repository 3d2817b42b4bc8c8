import Derived.Test.YtnjmcppljbkhnaaY
set_option linter.unusedVariables false
set_option linter.unusedSimpArgs false
namespace Go.Proofs.Ytnjmcppljbkhnaa
open Go.RowKit

theorem own_strs {w : World} {base : Nat} {v : Value} {n : Nat} {L : List ByteArray} (h : w.ownsRow base 9 1 v n (L.map Value.string)) (hl : L.length = n) :
    (n = 0 ∧ v = .slice none 0 0) ∨ ∃ g cap, v = .slice (some ⟨g, 0, none⟩) n cap ∧ base ≤ g ∧ g < w.heap.size ∧ ∀ k, k < n → w.cell? ⟨g, k, none⟩ = some (.string (L.getD k ByteArray.empty)) := by
  obtain ⟨h1, h2⟩ := h
  rcases h2 with ⟨rfl, h0⟩ | ⟨g, cap, cur, rfl, hb, hg, hc, hm, hs, ht⟩
  · exact Or.inl ⟨by omega, rfl⟩
  · refine Or.inr ⟨g, cap, rfl, hb, ?_, fun k hk => ?_⟩
    · rcases Nat.lt_or_ge g w.heap.size with hlt | hge
      · exact hlt
      · rw [Array.getElem?_eq_none hge] at hg; cases hg
    · have h3 : (cur.toList.take (n * 1))[k]? = cur.toList[k]? := by rw [List.getElem?_take_of_lt (by omega)]
      rw [ht, List.getElem?_map] at h3
      simp [World.cell?, hg]
      simp [List.getD_eq_getElem?_getD, show k < L.length by omega] at h3 ⊢
      simpa using h3.symm
theorem blkL_at (s : ByteArray) (sz n k : Nat) (hk : k < n) : (blkL s sz n).getD k ByteArray.empty = blkS s sz k := by
  simp [blkL, List.getD_eq_getElem?_getD, hk]
theorem blkS_size (s : ByteArray) (sz k : Nat) : (blkS s sz k).size = cutAt s sz (k + 1) - cutAt s sz k := by
  unfold blkS
  have := cutAt_le s sz (k + 1)
  simp
  omega
/-- a block of the reference joins on. -/
theorem streamed_join (key nonce : ByteArray) (c : Nat) (s : ByteArray) (k : Nat) (hk : 64 * k < s.size) :
    strB (cutAt s 64 k) (strm key nonce c s) ++ xorB (blkS s 64 k) ((strB 64 (blockB key nonce ((c + k) % 4294967296))).extract 0 (blkS s 64 k).size) = strB (cutAt s 64 (k + 1)) (strm key nonce c s) := by
  have e0 : cutAt s 64 k = 64 * k := by unfold cutAt; omega
  have e1 : cutAt s 64 (k + 1) = 64 * k + (blkS s 64 k).size := by
    rw [blkS_size, e0]; have := cutAt_next s 64 k; rw [e0] at this; omega
  have hsz : (blkS s 64 k).size ≤ 64 := by
    rw [blkS_size, e0]; unfold cutAt; omega
  have hle := cutAt_le s 64 (k + 1)
  rw [e1, e0]
  unfold xorB
  apply strB_join
  intro j hj
  have a1 : at8 (blkS s 64 k) j = at8 s (64 * k + j) := by
    unfold blkS
    rw [e0]
    exact at8_extract s _ _ j (by omega) hle
  have a2 : at8 ((strB 64 (blockB key nonce ((c + k) % 4294967296))).extract 0 (blkS s 64 k).size) j = blockB key nonce ((c + k) % 4294967296) j := by
    rw [at8_extract _ _ _ j (by omega) (by rw [strB_size]; exact hsz), Nat.zero_add]
    exact at8_strB 64 _ j (by omega) (blockB_lt _ _ _ _)
  rw [a1, a2]
  unfold strm
  rw [show (64 * k + j) / 64 = k by omega, show (64 * k + j) % 64 = j by omega]
set_option maxRecDepth 100000 in
set_option maxHeartbeats 2000000 in
theorem streamed25 (key nonce text : ByteArray) (c : Nat) (w : World) (hk : key.size = 32) (hn : nonce.size = 12) (hc : c < 4294967296) (hs : text.size ≤ 1048576) :
    Calls Try.prog 25 #[.string key, .string nonce, .int .i64 c, .string text] w fun e w' => e = .returned (.string (strmS key nonce c text)) ∧ Below w.heap.size w w' := by
  have HK := Lib.hid hk
  have HNn := Lib.hid hn
  clear hk hn
  go_enter Try.func25, Try.ntmps25
  go_wp2_with fail
  refine (blocks56 text 64 _ (by omega) (by decide) (by decide)).mono ?_
  rintro e w1 ⟨n, v, rfl, hcut, hpre, hns, hown, hb1⟩
  have HB1 := Lib.hid hb1
  have HCU := Lib.hid hcut
  have HPR := Lib.hid hpre
  clear hb1 hcut hpre
  rcases own_strs hown (blkL_len text 64 n) with ⟨rfl, rfl⟩ | ⟨g, cap, rfl, hg1, hg2, hcell⟩
  · have HE := Lib.hid (show strB 0 (strm key nonce c text) = strmS key nonce c text from by
      have h := HCU.out
      unfold cutAt at h
      unfold strmS
      rw [show text.size = 0 by omega])
    clear hown
    go_wp2_with fail
    go_loopw [9, 15] (fun ov iv wr => ov = .string ⟨#[]⟩ ∧ iv = .int .i64 0 ∧ Below w.heap.size w wr) (fun _ _ _ => 0)
    case atStart => exact ⟨rfl, rfl, HB1.out⟩
    case round =>
      obtain ⟨rfl, rfl, hb⟩ := hrel
      go_wp2_with fail
      go_ret
      exact ⟨by rw [← HE.out]; rfl, hb⟩
  · clear hown
    have HCE := Lib.hid (show ∀ k, k < n → w1.cell? ⟨g, k, none⟩ = some (.string (blkS text 64 k)) from fun k hk => by
      rw [← blkL_at text 64 n k hk]; exact hcell k hk)
    have HG1 := Lib.hid hg1
    have HG2 := Lib.hid hg2
    clear hg1 hg2 hcell
    go_wp2_with fail
    go_loopw [9, 15] (fun ov iv wr => ∃ k : Nat, k ≤ n ∧ ov = .string (strB (cutAt text 64 k) (strm key nonce c text)) ∧ iv = .int .i64 k ∧ Below w1.heap.size w1 wr) (fun _ iv _ => n - (intOf iv).toNat)
    case atStart => exact ⟨0, by omega, rfl, rfl, Below.refl _ _⟩
    case round =>
      obtain ⟨k, hkn, rfl, rfl, hb⟩ := hrel
      have HB := Lib.hid hb
      clear hb
      by_cases hlt : k < n
      · have hd : decide ((k : Int) < (n : Int)) = true := decide_eq_true (by omega)
        have hcl : wr.cell? ⟨g, k, none⟩ = some (.string (blkS text 64 k)) := by
          rw [← HCE.out k hlt]
          exact HB.out.cell HG2.out
        go_wp2_with fail
        refine (refBlock50 key nonce ((c + k) % 4294967296) _ HK.out HNn.out (by omega)).mono ?_
        rintro e w2 ⟨rfl, b2⟩
        have HJ := Lib.hid (streamed_join key nonce c text k (by
          have h := HPR.out k hlt
          unfold cutAt at h
          omega))
        have HB2 := Lib.hid b2
        have hbs : (blkS text 64 k).size ≤ 64 := by
          rw [blkS_size]; have := cutAt_next text 64 k; omega
        have hS64 : (strB 64 (blockB key nonce ((c + k) % 4294967296))).size = 64 := strB_size _ _
        have HE64 := Lib.hid (show (blkS text 64 k).size ≤ ((strB 64 (blockB key nonce ((c + k) % 4294967296))).extract 0 (blkS text 64 k).size).size from by simp; omega)
        have hoS : (strB (cutAt text 64 k) (strm key nonce c text)).size ≤ 1048576 := by
          rw [strB_size]; have := cutAt_le text 64 k; omega
        have HK1 := Lib.hid (show k + 1 ≤ n from by omega)
        clear b2
        go_wp2_with fail
        refine (xor60 _ _ _ HE64.out (by omega)).mono ?_
        rintro e w3 ⟨rfl, b3⟩
        have HB3 := Lib.hid b3
        have hxs : (xorB (blkS text 64 k) ((strB 64 (blockB key nonce ((c + k) % 4294967296))).extract 0 (blkS text 64 k).size)).size = (blkS text 64 k).size := by
          unfold xorB; rw [strB_size]
        clear b3
        go_wp2_with fail
        rw [HJ.out]
        go_roundw
        case rel => exact ⟨k + 1, HK1.out, rfl, by simp, (HB.out.trans (HB2.out.mono HB.out.size)).trans (HB3.out.mono (Nat.le_trans HB.out.size HB2.out.size))⟩
        case measure => simp [intOf]; omega
      · have hd : decide ((k : Int) < (n : Int)) = false := decide_eq_false (by omega)
        obtain rfl : k = n := by omega
        go_wp2_with fail
        go_ret
        exact ⟨by rw [HCU.out]; rfl, HB1.out.trans (HB.out.mono HB1.out.size)⟩
end Go.Proofs.Ytnjmcppljbkhnaa
