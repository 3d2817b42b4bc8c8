import Derived.Test.YtnjmcppljbkhnaaFd
set_option linter.unusedVariables false
set_option linter.unusedSimpArgs false
namespace Go.Proofs.Ytnjmcppljbkhnaa
open Go.RowKit
def markS : ByteArray := ⟨#[87, 72, 83, 69, 65, 76, 48, 49]⟩
def nparts (text : ByteArray) : Nat := max 1 ((text.size + 1023) / 1024)
/-- the file after k parts. -/
def fileN (c head text : ByteArray) (n : Nat) : Nat → ByteArray
  | 0 => head
  | k + 1 => fileN c head text n k ++ partB c head k (decide (k + 1 = n)) (blkS text 1024 k)
def fileB (c nonce text : ByteArray) : ByteArray := fileN c (markS ++ nonce) text (nparts text) (nparts text)
theorem blk_le (text : ByteArray) (k : Nat) : (blkS text 1024 k).size ≤ 1024 := by
  rw [blkS_size]; have := cutAt_next text 1024 k; omega
theorem fileN_size (c head text : ByteArray) (n k : Nat) : (fileN c head text n k).size ≤ head.size + k * 1040 := by
  induction k with
  | zero => simp [fileN]
  | succ k ih =>
    have := blk_le text k
    simp only [fileN]
    rw [ByteArray.size_append, partB_size]
    omega
theorem mark_head (nonce : ByteArray) : (markS ++ nonce).extract 8 (markS ++ nonce).size = nonce := extract_right markS nonce
theorem mark_size (nonce : ByteArray) : (markS ++ nonce).size = nonce.size + 8 := by
  rw [ByteArray.size_append]
  show 8 + nonce.size = _
  omega
theorem extra_cat (head : ByteArray) (i : Nat) (last : Bool) : head ++ beS 8 i ++ flagS last = pExtra head i last := by
  unfold pExtra catS
  apply ByteArray.ext
  apply Array.ext'
  simp [List.append_assoc]
theorem nparts_of (text : ByteArray) (n : Nat) (h : cutAt text 1024 n = text.size) (hp : ∀ k, k < n → cutAt text 1024 k < text.size) : nparts text = max 1 n := by
  unfold cutAt at h hp
  unfold nparts
  rcases Nat.eq_zero_or_pos n with rfl | hn
  · omega
  · have := hp (n - 1) (by omega)
    omega
theorem blk_empty (text : ByteArray) (h : text.size = 0) : blkS text 1024 0 = ⟨#[]⟩ := by
  apply ByteArray.ext
  apply Array.ext'
  unfold blkS cutAt
  simp [h]
theorem box_keep {wl W w' : World} {g : Nat} {x : Value} (h : Below wl.heap.size wl W ∧ g < wl.heap.size ∧ W.cell? ⟨g, 0, none⟩ = some x) (b : Below W.heap.size W w') : Below wl.heap.size wl w' ∧ g < wl.heap.size ∧ w'.cell? ⟨g, 0, none⟩ = some x :=
  ⟨below_step h.1 (Nat.le_refl _) b, h.2.1, (b.cell (p := ⟨g, 0, none⟩) (Nat.lt_of_lt_of_le h.2.1 h.1.size)).trans h.2.2⟩
set_option maxRecDepth 100000 in
set_option maxHeartbeats 4000000 in
theorem sealedFile37 (c n t nonce text : ByteArray) (w : World) (hc : c.size = 32) (hn : nonce.size = 12) (hs : text.size ≤ 100000) :
    Calls Try.prog 37 #[.agg #[.string c, .string n, .string t], .string nonce, .string text] w fun e w' => e = .returned (.string (fileB c nonce text)) ∧ Below w.heap.size w w' := by
  have HNEW := Lib.hid (Blk.new w 60 #[.string c, .string n, .string t])
  have HB0 := Lib.hid ((Below.refl w.heap.size w).alloc (Nat.le_refl _) (.cells #[Value.string c, Value.string n, Value.string t] 60))
  have HC := Lib.hid hc
  have HN := Lib.hid hn
  have hn12 : nonce.size ≤ 12 := by omega
  have hk1 : 8 + nonce.size ≤ 9223372036854775807 := by omega
  have HFB := Lib.hid (show fileB c nonce text = fileN c (markS ++ nonce) text (nparts text) (nparts text) from rfl)
  have hmh : (markS ++ nonce).size ≤ 20 := by rw [mark_size]; omega
  have HMH := Lib.hid (mark_head nonce)
  have hmk : (⟨#[87, 72, 83, 69, 65, 76, 48, 49]⟩ : ByteArray) ++ nonce = markS ++ nonce := rfl
  clear hc hn
  generalize markS ++ nonce = head at *
  go_enter Try.func37, Try.ntmps37
  go_wp2_with fail
  clear hmk
  refine (blocks56 text 1024 _ (by omega) (by decide) (by decide)).mono ?_
  rintro e w1 ⟨N, vb, rfl, hcut, hpre, hns, hown, hb1⟩
  have b0 : w1.cell? ⟨w.heap.size, 0, none⟩ = some (.string c) := (hb1.cell (p := ⟨w.heap.size, 0, none⟩) (by simp)).trans (HNEW.out.cell 0)
  have HSR := StrRow.ofBlocks hown
  have HNP := Lib.hid (nparts_of text N hcut hpre)
  have hz : w.heap.size < w1.heap.size := by have := hb1.size; simp at this; omega
  have HB1 := Lib.hid (show Below w.heap.size w w1 from HB0.out.trans (hb1.mono (by simp)))
  have HCU := Lib.hid hcut
  clear hown hb1 HNEW HB0 hcut hpre
  obtain ⟨p, cap, rfl, hss⟩ := HSR
  have HSS := Lib.hid hss
  clear hss
  by_cases hN0 : N = 0
  · subst hN0
    have HNQ := Lib.hid (show nparts text = 1 from by rw [HNP.out]; rfl)
    rw [HNQ.out] at HFB
    clear HNP HNQ
    have ht0 : text.size = 0 := by have := HCU.out; unfold cutAt at this; omega
    have HCE := Lib.hid (show ∀ k, k < 1 → (w1.alloc (.cells #[Value.string ⟨#[]⟩] 9)).cell? ⟨w1.heap.size, k, none⟩ = some (.string (blkS text 1024 k)) from fun k hk => by
      obtain rfl : k = 0 := by omega
      rw [(Blk.new w1 9 #[Value.string ⟨#[]⟩]).cell 0, blk_empty text ht0]
      rfl)
    have b0' : (w1.alloc (.cells #[Value.string ⟨#[]⟩] 9)).cell? ⟨w.heap.size, 0, none⟩ = some (.string c) := by
      rw [← b0]
      exact Below.cell ((Below.refl w1.heap.size w1).alloc (Nat.le_refl _) _) hz
    have hz' : w.heap.size < (w1.alloc (.cells #[Value.string ⟨#[]⟩] 9)).heap.size := by simp; omega
    have hz2 : w1.heap.size < (w1.alloc (.cells #[Value.string ⟨#[]⟩] 9)).heap.size := by simp
    have HBA := Lib.hid ((Below.refl w1.heap.size w1).alloc (Nat.le_refl _) (.cells #[Value.string ⟨#[]⟩] 9))
    clear ht0 b0 hz HCU
    go_wp2_with fail
    generalize (w1.alloc (.cells #[Value.string ⟨#[]⟩] 9)) = w2 at *
    have hz := hz'
    have b0 := b0'
    clear hz' b0'
    have hzz : w1.heap.size ≤ w2.heap.size := by omega
    go_loopw [8, 24] (fun ov kv wq => ∃ k : Nat, k ≤ 1 ∧ kv = .int .i64 k ∧ ov = .string (fileN c head text 1 k) ∧ Below w2.heap.size w2 wq) (fun _ kv _ => 1 - (intOf kv).toNat)
    case atStart => exact ⟨0, by omega, rfl, rfl, Below.refl _ _⟩
    case round =>
      obtain ⟨k, hk, rfl, rfl, hb⟩ := hrel
      have HB := Lib.hid hb
      clear hb
      by_cases hlt : k < 1
      · have hd : decide ((k : Int) < 1) = true := decide_eq_true (by omega)
        have hclA : wr.cell? ⟨w1.heap.size, k, none⟩ = some (.string (blkS text 1024 k)) := (HB.out.cell (p := ⟨w1.heap.size, k, none⟩) hz2).trans (HCE.out k hlt)
        have bb : wr.cell? ⟨w.heap.size, 0, none⟩ = some (.string c) := (HB.out.cell (p := ⟨w.heap.size, 0, none⟩) hz).trans b0
        have HS0 := Lib.hid (show Below w2.heap.size w2 wr ∧ w.heap.size < w2.heap.size ∧ wr.cell? ⟨w.heap.size, 0, none⟩ = some (.string c) from ⟨HB.out, hz, bb⟩)
        have C70 := Lib.hid (fun w => partNonce70 nonce k w HN.out (by omega))
        have C71 := Lib.hid (fun w => eight71 k w (by omega))
        have hbl := blk_le text k
        have hl : k + 1 = 1 := by omega
        have hq : ((k : Int) == 0) = true := by simp; omega
        have HE := Lib.hid (show fileN c head text 1 (k + 1) = fileN c head text 1 k ++ partB c head k true (blkS text 1024 k) from by
          show _ ++ partB c head k (decide (k + 1 = 1)) _ = _
          rw [decide_eq_true hl])
        have HP := Lib.hid (show sealB c (pNonce nonce k) (head ++ beS 8 k ++ ⟨#[1]⟩) (blkS text 1024 k) = partB c head k true (blkS text 1024 k) from by
          unfold partB
          rw [HMH.out, ← extra_cat]
          rfl)
        have hxs : (head ++ beS 8 k ++ (⟨#[1]⟩ : ByteArray)).size ≤ 100 := by
          rw [ByteArray.size_append, ByteArray.size_append, beS_size]
          show head.size + 8 + 1 ≤ 100
          omega
        have C21 := Lib.hid (fun w => sealedBlock21 c (pNonce nonce k) (head ++ beS 8 k ++ ⟨#[1]⟩) (blkS text 1024 k) w HC.out (pNonce_size _ _ HN.out) (by omega) (by omega))
        rw [HP.out] at C21
        have hps : (partB c head k true (blkS text 1024 k)).size ≤ 1040 := by rw [partB_size]; omega
        have hfs : (fileN c head text 1 k).size ≤ 200000000 := by have := fileN_size c head text 1 k; omega
        have hb8 : (beS 8 k).size ≤ 8 := by rw [beS_size]; omega
        clear HP
        generalize partB c head k true (blkS text 1024 k) = PB at *
        generalize fileN c head text 1 k = F at *
        generalize beS 8 k = B8 at *
        generalize pNonce nonce k = PN at *
        generalize blkS text 1024 k = bk at *
        have a1 : head.size + B8.size ≤ 9223372036854775807 := by omega
        have b1 : head.size + B8.size ≤ maxLen := by unfold maxLen; omega
        have c1 : ¬ maxLen < head.size + B8.size := by unfold maxLen; omega
        have d1 : ¬ 9223372036854775807 < head.size + B8.size := by omega
        have a2 : head.size + B8.size + 1 ≤ 9223372036854775807 := by omega
        have b2 : head.size + B8.size + 1 ≤ maxLen := by unfold maxLen; omega
        have c2 : ¬ maxLen < head.size + B8.size + 1 := by unfold maxLen; omega
        have d2 : ¬ 9223372036854775807 < head.size + B8.size + 1 := by omega
        have a3 : (head ++ B8).size + 1 ≤ 9223372036854775807 := by (try simp only [ByteArray.size_append]); omega
        have b3 : (head ++ B8).size + 1 ≤ maxLen := by unfold maxLen; (try simp only [ByteArray.size_append]); omega
        have c3 : ¬ maxLen < (head ++ B8).size + 1 := by unfold maxLen; (try simp only [ByteArray.size_append]); omega
        have d3 : ¬ 9223372036854775807 < (head ++ B8).size + 1 := by (try simp only [ByteArray.size_append]); omega
        have a4 : F.size + PB.size ≤ 9223372036854775807 := by omega
        have b4 : F.size + PB.size ≤ maxLen := by unfold maxLen; omega
        have c4 : ¬ maxLen < F.size + PB.size := by unfold maxLen; omega
        have d4 : ¬ 9223372036854775807 < F.size + PB.size := by omega
        go_wp2_with fail
        go_region_held3 (fun w' => Below w2.heap.size w2 w' ∧ w.heap.size < w2.heap.size ∧ w'.cell? ⟨w.heap.size, 0, none⟩ = some (.string c)) (first | exact box_keep (by assumption) hbb | exact box_keep HS0.out (below_drew (Below.refl _ _)) | assumption) (first | (go_at_call 70; refine (C70.out _).mono ?_; rintro e w' ⟨rfl, hbb⟩) | (go_at_call 71; refine (C71.out _).mono ?_; rintro e w' ⟨rfl, hbb⟩) | (go_at_call 21; refine (C21.out _).mono ?_; rintro e w' ⟨rfl, hbb⟩))
        all_goals
          have HF := Lib.hid (And.left (by assumption : Below w2.heap.size w2 _ ∧ _))
          go_wp2_with fail
          go_roundw
          case rel => exact ⟨k + 1, by omega, by go_num, by rw [HE.out], HF.out⟩
          case measure => simp [intOf]; omega
      · have hd : decide ((k : Int) < 1) = false := decide_eq_false (by omega)
        have HK := Lib.hid (show k = 1 from by omega)
        go_wp2_with fail
        go_ret
        exact ⟨by rw [HFB.out, ← HK.out]; rfl, below_step HB1.out (Nat.le_refl _) (HBA.out.trans (HB.out.mono hzz))⟩
  · have hNp : ((N : Int) == 0) = false := by simp; omega
    have HNQ := Lib.hid (show nparts text = N from by rw [HNP.out]; omega)
    rw [HNQ.out] at HFB
    clear HNP HNQ hN0
    have hN1 : 1 ≤ N := by have : ((N : Int) == 0) = false := hNp; simp at this; omega
    go_wp2_with fail
    go_loopw [8, 24] (fun ov kv wq => ∃ k : Nat, k ≤ N ∧ kv = .int .i64 k ∧ ov = .string (fileN c head text N k) ∧ Below w1.heap.size w1 wq) (fun _ kv _ => N - (intOf kv).toNat)
    case atStart => exact ⟨0, by omega, rfl, rfl, Below.refl _ _⟩
    case round =>
      obtain ⟨k, hk, rfl, rfl, hb⟩ := hrel
      have HB := Lib.hid hb
      clear hb
      by_cases hlt : k < N
      · have hd : decide (k < N) = true := decide_eq_true hlt
        obtain ⟨g, rfl, hg, hcl⟩ := HSS.out k hlt
        have hclA : wr.cell? ⟨g, k, none⟩ = some (.string (blkS text 1024 k)) := by rw [← hcl]; exact HB.out.cell hg
        have bb : wr.cell? ⟨w.heap.size, 0, none⟩ = some (.string c) := (HB.out.cell (p := ⟨w.heap.size, 0, none⟩) hz).trans b0
        have HS0 := Lib.hid (show Below w1.heap.size w1 wr ∧ w.heap.size < w1.heap.size ∧ wr.cell? ⟨w.heap.size, 0, none⟩ = some (.string c) from ⟨HB.out, hz, bb⟩)
        have C70 := Lib.hid (fun w => partNonce70 nonce k w HN.out (by omega))
        have C71 := Lib.hid (fun w => eight71 k w (by omega))
        have hbl := blk_le text k
        clear hcl
        by_cases hl : k + 1 = N
        · skip
          have hq : ((k : Int) == (N : Int) - 1) = true := by simp; omega
          have HE := Lib.hid (show fileN c head text N (k + 1) = fileN c head text N k ++ partB c head k true (blkS text 1024 k) from by
            show _ ++ partB c head k (decide (k + 1 = N)) _ = _
            rw [decide_eq_true hl])
          have HP := Lib.hid (show sealB c (pNonce nonce k) (head ++ beS 8 k ++ ⟨#[1]⟩) (blkS text 1024 k) = partB c head k true (blkS text 1024 k) from by
            unfold partB
            rw [HMH.out, ← extra_cat]
            rfl)
          have hxs : (head ++ beS 8 k ++ (⟨#[1]⟩ : ByteArray)).size ≤ 100 := by
            rw [ByteArray.size_append, ByteArray.size_append, beS_size]
            show head.size + 8 + 1 ≤ 100
            omega
          have C21 := Lib.hid (fun w => sealedBlock21 c (pNonce nonce k) (head ++ beS 8 k ++ ⟨#[1]⟩) (blkS text 1024 k) w HC.out (pNonce_size _ _ HN.out) (by omega) (by omega))
          rw [HP.out] at C21
          have hps : (partB c head k true (blkS text 1024 k)).size ≤ 1040 := by rw [partB_size]; omega
          have hfs : (fileN c head text N k).size ≤ 200000000 := by have := fileN_size c head text N k; omega
          have hb8 : (beS 8 k).size ≤ 8 := by rw [beS_size]; omega
          clear HP
          generalize partB c head k true (blkS text 1024 k) = PB at *
          generalize fileN c head text N k = F at *
          generalize beS 8 k = B8 at *
          generalize pNonce nonce k = PN at *
          generalize blkS text 1024 k = bk at *
          have a1 : head.size + B8.size ≤ 9223372036854775807 := by omega
          have b1 : head.size + B8.size ≤ maxLen := by unfold maxLen; omega
          have c1 : ¬ maxLen < head.size + B8.size := by unfold maxLen; omega
          have d1 : ¬ 9223372036854775807 < head.size + B8.size := by omega
          have a2 : head.size + B8.size + 1 ≤ 9223372036854775807 := by omega
          have b2 : head.size + B8.size + 1 ≤ maxLen := by unfold maxLen; omega
          have c2 : ¬ maxLen < head.size + B8.size + 1 := by unfold maxLen; omega
          have d2 : ¬ 9223372036854775807 < head.size + B8.size + 1 := by omega
          have a3 : (head ++ B8).size + 1 ≤ 9223372036854775807 := by (try simp only [ByteArray.size_append]); omega
          have b3 : (head ++ B8).size + 1 ≤ maxLen := by unfold maxLen; (try simp only [ByteArray.size_append]); omega
          have c3 : ¬ maxLen < (head ++ B8).size + 1 := by unfold maxLen; (try simp only [ByteArray.size_append]); omega
          have d3 : ¬ 9223372036854775807 < (head ++ B8).size + 1 := by (try simp only [ByteArray.size_append]); omega
          have a4 : F.size + PB.size ≤ 9223372036854775807 := by omega
          have b4 : F.size + PB.size ≤ maxLen := by unfold maxLen; omega
          have c4 : ¬ maxLen < F.size + PB.size := by unfold maxLen; omega
          have d4 : ¬ 9223372036854775807 < F.size + PB.size := by omega
          go_wp2_with fail
          go_region_held3 (fun w' => Below w1.heap.size w1 w' ∧ w.heap.size < w1.heap.size ∧ w'.cell? ⟨w.heap.size, 0, none⟩ = some (.string c)) (first | exact box_keep (by assumption) hbb | exact box_keep HS0.out (below_drew (Below.refl _ _)) | assumption) (first | (go_at_call 70; refine (C70.out _).mono ?_; rintro e w' ⟨rfl, hbb⟩) | (go_at_call 71; refine (C71.out _).mono ?_; rintro e w' ⟨rfl, hbb⟩) | (go_at_call 21; refine (C21.out _).mono ?_; rintro e w' ⟨rfl, hbb⟩))
          all_goals
            have HF := Lib.hid (And.left (by assumption : Below w1.heap.size w1 _ ∧ _))
            go_wp2_with fail
            go_roundw
            case rel => exact ⟨k + 1, by omega, by go_num, by rw [HE.out], HF.out⟩
            case measure => simp [intOf]; omega
        · skip
          have hq : ((k : Int) == (N : Int) - 1) = false := by simp; omega
          have HE := Lib.hid (show fileN c head text N (k + 1) = fileN c head text N k ++ partB c head k false (blkS text 1024 k) from by
            show _ ++ partB c head k (decide (k + 1 = N)) _ = _
            rw [decide_eq_false hl])
          have HP := Lib.hid (show sealB c (pNonce nonce k) (head ++ beS 8 k ++ ⟨#[0]⟩) (blkS text 1024 k) = partB c head k false (blkS text 1024 k) from by
            unfold partB
            rw [HMH.out, ← extra_cat]
            rfl)
          have hxs : (head ++ beS 8 k ++ (⟨#[0]⟩ : ByteArray)).size ≤ 100 := by
            rw [ByteArray.size_append, ByteArray.size_append, beS_size]
            show head.size + 8 + 1 ≤ 100
            omega
          have C21 := Lib.hid (fun w => sealedBlock21 c (pNonce nonce k) (head ++ beS 8 k ++ ⟨#[0]⟩) (blkS text 1024 k) w HC.out (pNonce_size _ _ HN.out) (by omega) (by omega))
          rw [HP.out] at C21
          have hps : (partB c head k false (blkS text 1024 k)).size ≤ 1040 := by rw [partB_size]; omega
          have hfs : (fileN c head text N k).size ≤ 200000000 := by have := fileN_size c head text N k; omega
          have hb8 : (beS 8 k).size ≤ 8 := by rw [beS_size]; omega
          clear HP
          generalize partB c head k false (blkS text 1024 k) = PB at *
          generalize fileN c head text N k = F at *
          generalize beS 8 k = B8 at *
          generalize pNonce nonce k = PN at *
          generalize blkS text 1024 k = bk at *
          have a1 : head.size + B8.size ≤ 9223372036854775807 := by omega
          have b1 : head.size + B8.size ≤ maxLen := by unfold maxLen; omega
          have c1 : ¬ maxLen < head.size + B8.size := by unfold maxLen; omega
          have d1 : ¬ 9223372036854775807 < head.size + B8.size := by omega
          have a2 : head.size + B8.size + 1 ≤ 9223372036854775807 := by omega
          have b2 : head.size + B8.size + 1 ≤ maxLen := by unfold maxLen; omega
          have c2 : ¬ maxLen < head.size + B8.size + 1 := by unfold maxLen; omega
          have d2 : ¬ 9223372036854775807 < head.size + B8.size + 1 := by omega
          have a3 : (head ++ B8).size + 1 ≤ 9223372036854775807 := by (try simp only [ByteArray.size_append]); omega
          have b3 : (head ++ B8).size + 1 ≤ maxLen := by unfold maxLen; (try simp only [ByteArray.size_append]); omega
          have c3 : ¬ maxLen < (head ++ B8).size + 1 := by unfold maxLen; (try simp only [ByteArray.size_append]); omega
          have d3 : ¬ 9223372036854775807 < (head ++ B8).size + 1 := by (try simp only [ByteArray.size_append]); omega
          have a4 : F.size + PB.size ≤ 9223372036854775807 := by omega
          have b4 : F.size + PB.size ≤ maxLen := by unfold maxLen; omega
          have c4 : ¬ maxLen < F.size + PB.size := by unfold maxLen; omega
          have d4 : ¬ 9223372036854775807 < F.size + PB.size := by omega
          go_wp2_with fail
          go_region_held3 (fun w' => Below w1.heap.size w1 w' ∧ w.heap.size < w1.heap.size ∧ w'.cell? ⟨w.heap.size, 0, none⟩ = some (.string c)) (first | exact box_keep (by assumption) hbb | exact box_keep HS0.out (below_drew (Below.refl _ _)) | assumption) (first | (go_at_call 70; refine (C70.out _).mono ?_; rintro e w' ⟨rfl, hbb⟩) | (go_at_call 71; refine (C71.out _).mono ?_; rintro e w' ⟨rfl, hbb⟩) | (go_at_call 21; refine (C21.out _).mono ?_; rintro e w' ⟨rfl, hbb⟩))
          all_goals
            have HF := Lib.hid (And.left (by assumption : Below w1.heap.size w1 _ ∧ _))
            go_wp2_with fail
            go_roundw
            case rel => exact ⟨k + 1, by omega, by go_num, by rw [HE.out], HF.out⟩
            case measure => simp [intOf]; omega
      · have hd : decide (k < N) = false := decide_eq_false hlt
        obtain rfl : k = N := by omega
        go_wp2_with fail
        go_ret
        exact ⟨by rw [HFB.out]; rfl, below_step HB1.out (Nat.le_refl _) HB.out⟩
end Go.Proofs.Ytnjmcppljbkhnaa

set_option linter.unusedVariables false
set_option linter.unusedSimpArgs false
namespace Go.Proofs.Ytnjmcppljbkhnaa
open Go.RowKit
/-- the cells of a sealer. -/
def slC (c n t head : ByteArray) (told done : Bool) (rest : ByteArray) (part rec : Nat) : Array Value := #[.string c, .string n, .string t, .string head, .bool told, .bool done, .string rest, .int .i64 (part : Nat), .int .i64 (rec : Nat)]
def SL (w : World) (g : Nat) (c n t head : ByteArray) (told done : Bool) (rest : ByteArray) (part rec : Nat) : Prop := Blk w g 112 (slC c n t head told done rest part rec)
set_option maxRecDepth 100000 in
set_option maxHeartbeats 1000000 in
theorem begin74_new (g : Nat) (c n t head : ByteArray) (done : Bool) (rest : ByteArray) (part rec : Nat) (w : World) (h : SL w g c n t head false done rest part rec) :
    Calls Try.prog 74 #[.pointer (some ⟨g, 0, none⟩)] w fun e w' => e = .returned (.string head) ∧ SL w' g c n t head true done rest part rec ∧ w.grownBy w' (some g) := by
  have HS := Lib.hid (Blk.set h 4 (.bool true))
  have HO := Lib.hid (only_set (only_refl w g) 4 (.bool true))
  have c4 : w.cell? ⟨g, 4, none⟩ = some (.bool false) := Blk.cell h 4
  have f4 : w.frozen? ⟨g, 4, none⟩ = false := Blk.frozen h 4
  have c3 : w.cell? ⟨g, 3, none⟩ = some (.string head) := Blk.cell h 3
  have c3' : (w.setCell ⟨g, 4, none⟩ (.bool true)).cell? ⟨g, 3, none⟩ = some (.string head) := HS.out.cell 3
  clear h
  go_enter Try.func74, Try.ntmps74
  go_wp2_with fail
  go_ret
  exact ⟨rfl, HS.out, HO.out⟩
set_option maxRecDepth 100000 in
set_option maxHeartbeats 1000000 in
theorem begin74_told (g : Nat) (c n t head : ByteArray) (done : Bool) (rest : ByteArray) (part rec : Nat) (w : World) (h : SL w g c n t head true done rest part rec) :
    Calls Try.prog 74 #[.pointer (some ⟨g, 0, none⟩)] w fun e w' => e = .returned (.string ByteArray.empty) ∧ w = w' := by
  have c4 : w.cell? ⟨g, 4, none⟩ = some (.bool true) := Blk.cell h 4
  clear h
  go_enter Try.func74, Try.ntmps74
  go_wp2_with fail
  go_ret
  exact ⟨rfl, rfl⟩
set_option maxRecDepth 100000 in
set_option maxHeartbeats 1000000 in
theorem newSealer39_ok (c n t nonce : ByteArray) (w : World) (hc : c.size = 32) (hn : n.size = 32) (ht : t.size = 16) (hnn : nonce.size = 12) :
    Calls Try.prog 39 #[.agg #[.string c, .string n, .string t], .string nonce] w fun e w' => ∃ g, e = .returned (.tuple #[.pointer (some ⟨g, 0, none⟩), .int .i64 0]) ∧ w.heap.size ≤ g ∧ SL w' g c n t (markS ++ nonce) false false ⟨#[]⟩ 0 0 ∧ Below w.heap.size w w' := by
  have HE := Lib.hid (show kyE c n t = 0 from if_neg (by omega))
  have HC := Lib.hid (fun w => checkKeys72 c n t w (by unfold maxLen; omega) (by unfold maxLen; omega) (by unfold maxLen; omega))
  rw [HE.out] at HC
  have d1 : ((nonce.size : Int) != 12) = false := by simp; omega
  have hk1 : 8 + nonce.size ≤ 9223372036854775807 := by omega
  have hmk : (⟨#[87, 72, 83, 69, 65, 76, 48, 49]⟩ : ByteArray) ++ nonce = markS ++ nonce := rfl
  generalize markS ++ nonce = head at *
  have HNEW := Lib.hid (Blk.new w 60 #[.string c, .string n, .string t])
  have HB0 := Lib.hid ((Below.refl w.heap.size w).alloc (Nat.le_refl _) (.cells #[Value.string c, Value.string n, Value.string t] 60))
  clear hc hn ht hnn
  go_enter Try.func39, Try.ntmps39
  go_wp2_with fail
  refine (HC.out _).mono ?_
  rintro e w1 ⟨rfl, hb1⟩
  have b0 : w1.cell? ⟨w.heap.size, 0, none⟩ = some (.string c) := (hb1.cell (p := ⟨w.heap.size, 0, none⟩) (by simp)).trans (HNEW.out.cell 0)
  have b1 : w1.cell? ⟨w.heap.size, 1, none⟩ = some (.string n) := (hb1.cell (p := ⟨w.heap.size, 1, none⟩) (by simp)).trans (HNEW.out.cell 1)
  have b2 : w1.cell? ⟨w.heap.size, 2, none⟩ = some (.string t) := (hb1.cell (p := ⟨w.heap.size, 2, none⟩) (by simp)).trans (HNEW.out.cell 2)
  have HB1 := Lib.hid (show Below w.heap.size w w1 from HB0.out.trans (hb1.mono (by simp)))
  clear hb1 HNEW HB0
  go_wp2_with fail
  go_ret2
  exact ⟨w1.heap.size, rfl, HB1.out.size, Blk.new w1 112 _, HB1.out.alloc HB1.out.size _⟩
theorem grow_below {W w' : World} (h : Below W.heap.size W w') (g : Nat) : W.grownBy w' (some g) := ⟨h.os, h.tape, h.output, h.size, fun k hk _ => h.block k hk⟩
/-- what a sealer's cells say, but for whether the head was told. -/
def SV (w0 : World) (g : Nat) (c n t head : ByteArray) (rest : ByteArray) (part : Nat) (w : World) : Prop := w0.grownBy w (some g) ∧ ∃ (told done : Bool) (rec : Nat), SL w g c n t head told done rest part rec
theorem SV.only {w0 W w' : World} {g : Nat} {c n t head rest : ByteArray} {part : Nat} (h : SV w0 g c n t head rest part W) (ho : W.grownBy w' (some g)) (hs : ∃ (told done : Bool) (rec : Nat), SL w' g c n t head told done rest part rec) : SV w0 g c n t head rest part w' := ⟨only_trans h.1 ho, hs⟩
theorem SV.below {w0 W w' : World} {g : Nat} {c n t head rest : ByteArray} {part : Nat} (h : SV w0 g c n t head rest part W) (hb : Below W.heap.size W w') : SV w0 g c n t head rest part w' := by
  obtain ⟨h1, told, done, rec, hs⟩ := h
  exact ⟨only_trans h1 (grow_below hb g), told, done, rec, Blk.below hs hb (Blk.lt hs)⟩
theorem SV.cells {w0 w : World} {g : Nat} {c n t head rest : ByteArray} {part : Nat} (h : SV w0 g c n t head rest part w) : w.cell? ⟨g, 0, none⟩ = some (.string c) ∧ w.cell? ⟨g, 1, none⟩ = some (.string n) ∧ w.cell? ⟨g, 2, none⟩ = some (.string t) ∧ w.cell? ⟨g, 3, none⟩ = some (.string head) ∧ w.cell? ⟨g, 6, none⟩ = some (.string rest) ∧ w.cell? ⟨g, 7, none⟩ = some (.int .i64 (part : Nat)) := by
  obtain ⟨h1, told, done, rec, hs⟩ := h
  exact ⟨Blk.cell hs 0, Blk.cell hs 1, Blk.cell hs 2, Blk.cell hs 3, Blk.cell hs 6, Blk.cell hs 7⟩
theorem SV.both {w0 w : World} {g : Nat} {c n t head rest : ByteArray} {part : Nat} (h : SV w0 g c n t head rest part w) : SV w0 g c n t head rest part w ∧ w.cell? ⟨g, 0, none⟩ = some (.string c) ∧ w.cell? ⟨g, 1, none⟩ = some (.string n) ∧ w.cell? ⟨g, 2, none⟩ = some (.string t) ∧ w.cell? ⟨g, 3, none⟩ = some (.string head) ∧ w.cell? ⟨g, 6, none⟩ = some (.string rest) ∧ w.cell? ⟨g, 7, none⟩ = some (.int .i64 (part : Nat)) := ⟨h, h.cells⟩
/-- begin, whether the head was told or not. -/
theorem begin74 (w0 : World) (g : Nat) (c n t head : ByteArray) (told done : Bool) (rest : ByteArray) (part rec : Nat) (w : World) (h : SL w g c n t head told done rest part rec) :
    Calls Try.prog 74 #[.pointer (some ⟨g, 0, none⟩)] w fun e w' => e = .returned (.string (if told = true then ByteArray.empty else head)) ∧ SL w' g c n t head true done rest part rec ∧ w.grownBy w' (some g) := by
  cases told
  · exact begin74_new g c n t head done rest part rec w h
  · exact (begin74_told g c n t head done rest part rec w h).mono fun e w' q => ⟨q.1, by rw [← q.2]; exact h, by rw [← q.2]; exact only_refl w g⟩
end Go.Proofs.Ytnjmcppljbkhnaa
