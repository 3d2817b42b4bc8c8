import Derived.Test.YtobiacdeoeogaaaGreatDoorAw
set_option linter.unusedVariables false
set_option linter.unusedSimpArgs false
namespace Go.Proofs.YtobiacdeoeogaaaGreatDoor
open Go.RowKit
/-- what ReadChunkName gives. -/
def RnPost (t x y : ByteArray) (k c : Int) : Prop :=
  match rdP nmL dgL t.data.toList with
  | none => x = ⟨#[]⟩ ∧ y = ⟨#[]⟩ ∧ k = 0 ∧ c = 6
  | some (a, b, n) => x = ⟨a.toArray⟩ ∧ y = ⟨b.toArray⟩ ∧ k = (n : Int) ∧ c = 0
/-- how ReadChunkName ends. -/
def RnOut (t : ByteArray) (w : World) (e : Ending) (w' : World) : Prop := ∃ x y k c, e = .returned (.tuple #[.string x, .string y, .int .i64 k, .int .i64 c]) ∧ RnPost t x y k c ∧ Below w.heap.size w w'
theorem rn_none {t : ByteArray} (h : rdP nmL dgL t.data.toList = none) : RnPost t ⟨#[]⟩ ⟨#[]⟩ 0 6 := by
  unfold RnPost
  rw [h]
  exact ⟨rfl, rfl, rfl, rfl⟩
theorem rn_short {t : ByteArray} (h : t.size < 28) : rdP nmL dgL t.data.toList = none := by
  unfold rdP
  rw [if_pos (by rw [← Lib.size_eq]; exact h)]
theorem rdP_at {t : ByteArray} {n : Nat} (hn : t.size = n + 27) (hn1 : 1 ≤ n) : rdP nmL dgL t.data.toList =
    match Lib.atoi (t.extract (n + 21) t.size).data.toList with
    | none => none
    | some v => if v < 0 then none else
      if nameB (t.extract 0 n) = true ∧ digB (t.extract (n + 4) (n + 20)) = true ∧ v ≤ 999999 ∧ t.size ≤ 255 ∧ chunkS (t.extract 0 n) (t.extract (n + 4) (n + 20)) v.toNat = t then some ((t.extract 0 n).data.toList, (t.extract (n + 4) (n + 20)).data.toList, v.toNat) else none := by
  have hl : t.data.toList.length = n + 27 := by rw [← Lib.size_eq]; exact hn
  have e1 : (t.extract 0 n).data.toList = t.data.toList.take n := by rw [ex_list]; simp
  have e2 : (t.extract (n + 4) (n + 20)).data.toList = (t.data.toList.drop (n + 4)).take 16 := by rw [ex_list, show n + 20 - (n + 4) = 16 by omega]
  have e3 : (t.extract (n + 21) t.size).data.toList = t.data.toList.drop (n + 21) := by rw [ex_list, List.take_of_length_le]; simp
  have m1 : nmL (t.data.toList.take n) = nameB (t.extract 0 n) := by unfold nmL; rw [← e1, mk_list]
  have m2 : dgL ((t.data.toList.drop (n + 4)).take 16) = digB (t.extract (n + 4) (n + 20)) := by unfold dgL; rw [← e2, mk_list]
  have m3 : ∀ k, chunkL (t.data.toList.take n) ((t.data.toList.drop (n + 4)).take 16) k = t.data.toList ↔ chunkS (t.extract 0 n) (t.extract (n + 4) (n + 20)) k = t := by
    intro k
    unfold chunkS
    rw [e1, e2]
    constructor
    · intro h; rw [h, mk_list]
    · intro h
      have h2 := congrArg (fun b : ByteArray => b.data.toList) h
      simpa using h2
  unfold rdP
  rw [hl, if_neg (by omega)]
  simp only [show n + 27 - 27 = n by omega]
  rw [m1, m2, e3, e1, e2]
  cases Lib.atoi (t.data.toList.drop (n + 21)) with
  | none => rfl
  | some v =>
    simp only [m3, hn]
theorem rn_err {t : ByteArray} {n : Nat} (hn : t.size = n + 27) (hn1 : 1 ≤ n) (h : Lib.atoi (t.extract (n + 21) t.size).data.toList = none) : rdP nmL dgL t.data.toList = none := by
  rw [rdP_at hn hn1, h]
theorem rn_neg {t : ByteArray} {n : Nat} {v : Int} (hn : t.size = n + 27) (hn1 : 1 ≤ n) (h : Lib.atoi (t.extract (n + 21) t.size).data.toList = some v) (hv : v < 0) : rdP nmL dgL t.data.toList = none := by
  rw [rdP_at hn hn1, h]
  simp only [if_pos hv]
theorem rn_no {t : ByteArray} {n : Nat} {v : Int} (hn : t.size = n + 27) (hn1 : 1 ≤ n) (h : Lib.atoi (t.extract (n + 21) t.size).data.toList = some v) (hv : ¬ v < 0)
    (hc : (ckN (t.extract 0 n) (t.extract (n + 4) (n + 20)) v).2 ≠ 0 ∨ (ckN (t.extract 0 n) (t.extract (n + 4) (n + 20)) v).1 ≠ t) : rdP nmL dgL t.data.toList = none := by
  rw [rdP_at hn hn1, h]
  simp only [if_neg hv]
  rw [if_neg]
  rintro ⟨h1, h2, h3, h4, h5⟩
  have h2' : ((t.extract (n + 4) (n + 20)).data.toList.all hexB && (((t.extract (n + 4) (n + 20)).size : Int) == 16)) = true := by
    unfold digB at h2
    rw [Bool.and_eq_true] at h2 ⊢
    exact ⟨h2.1, beq_iff_eq.2 (by have := of_decide_eq_true h2.2; omega)⟩
  have he : ckN (t.extract 0 n) (t.extract (n + 4) (n + 20)) v = (t, 0) := by
    unfold ckN
    rw [if_neg (by rw [h1]; simp), if_neg (by rw [h2']; simp), if_neg (by omega), if_neg (by rw [h5]; omega), h5]
  rw [he] at hc
  rcases hc with hc | hc
  · exact hc rfl
  · exact hc rfl
theorem rn_yes {t : ByteArray} {n : Nat} {v : Int} (hn : t.size = n + 27) (hn1 : 1 ≤ n) (h : Lib.atoi (t.extract (n + 21) t.size).data.toList = some v) (hv : ¬ v < 0)
    (h0 : (ckN (t.extract 0 n) (t.extract (n + 4) (n + 20)) v).2 = 0) (h1 : (ckN (t.extract 0 n) (t.extract (n + 4) (n + 20)) v).1 = t) : RnPost t (t.extract 0 n) (t.extract (n + 4) (n + 20)) v 0 := by
  unfold ckN at h0 h1
  unfold RnPost
  rw [rdP_at hn hn1, h]
  simp only [if_neg hv]
  by_cases a1 : nameB (t.extract 0 n) = false
  · rw [if_pos a1] at h0; exact absurd h0 (by decide)
  rw [if_neg a1] at h0 h1
  by_cases a2 : ((t.extract (n + 4) (n + 20)).data.toList.all hexB && (((t.extract (n + 4) (n + 20)).size : Int) == 16)) = false
  · rw [if_pos a2] at h0; exact absurd h0 (by decide)
  rw [if_neg a2] at h0 h1
  by_cases a3 : v < 0 ∨ 999999 < v
  · rw [if_pos a3] at h0; exact absurd h0 (by decide)
  rw [if_neg a3] at h0 h1
  by_cases a4 : 255 < (chunkS (t.extract 0 n) (t.extract (n + 4) (n + 20)) v.toNat).size
  · rw [if_pos a4] at h0; exact absurd h0 (by decide)
  rw [if_neg a4] at h1
  have h1' : chunkS (t.extract 0 n) (t.extract (n + 4) (n + 20)) v.toNat = t := h1
  have hd : digB (t.extract (n + 4) (n + 20)) = true := by
    have a2' := eq_true_of_ne_false a2
    rw [Bool.and_eq_true] at a2'
    unfold digB
    rw [Bool.and_eq_true]
    exact ⟨a2'.1, decide_eq_true (by have := beq_iff_eq.1 a2'.2; omega)⟩
  rw [if_pos ⟨eq_true_of_ne_false a1, hd, by omega, by rw [h1'] at a4; omega, h1'⟩]
  exact ⟨(mk_list _).symm, (mk_list _).symm, by omega, by first | trivial | rfl⟩
/-- strconv.ErrSyntax holds an error, or nil. -/
def SynE (w : World) : Prop := ∃ ev, w.cell? ⟨0, 0, none⟩ = some ev ∧ (ev = .nilIface ∨ ∃ te pe, ev = .iface te pe)
theorem SynE.below {w w' : World} (h : SynE w) (hb : Below w.heap.size w w') : SynE w' := by
  obtain ⟨ev, hc, he⟩ := h
  exact ⟨ev, (hb.cell (World.block_lt_of_cell? _ _ hc)).trans hc, he⟩
theorem below_freeze {B : Nat} {w w1 : World} (p : Addr) (n : Nat) (h : Below B w w1) (hp : B ≤ p.block) : Below B w (w1.freeze p n) := by
  refine h.trans ?_
  unfold World.freeze
  split
  · exact Below.refl _ _
  · exact ⟨rfl, rfl, rfl, by simp, fun i hi => by
      have : p.block ≠ i := by omega
      simp [Array.getElem?_modify, this]⟩
theorem below_bytes (w : World) (e : TypeId) (s : ByteArray) : Below w.heap.size w (Lib.bytesWorld w e s) := by
  unfold Lib.bytesWorld
  exact below_freeze _ _ ((Below.refl w.heap.size w).drew.alloc (Nat.le_refl _) _) (Nat.le_refl _)
theorem atoi_err (s : ByteArray) (hl : s.size ≤ 18) (h : Lib.atoi s.data.toList = none) (w : World) (hse : SynE w) : Calls Tryz.prog 46 #[.string s] w fun e w' => ∃ N, e = .returned (.tuple #[.int .i64 0, .iface 165 (pt N)]) ∧ Below w.heap.size w w' := by
  obtain ⟨ev, hev, hev2⟩ := hse
  refine (Tryz.strconv_Atoi_err s hl h ev w hev hev2).mono ?_
  rintro e w' ⟨N, rfl, _, _, hb⟩
  exact ⟨N, rfl, hb⟩
theorem atoi_okk (s : ByteArray) (v : Int) (hl : s.size ≤ 18) (h : Lib.atoi s.data.toList = some v) (w : World) : Calls Tryz.prog 46 #[.string s] w fun e w' => e = .returned (.tuple #[.int .i64 v, .nilIface]) ∧ Below w.heap.size w w' := by
  refine (Tryz.strconv_Atoi s v hl h w).mono ?_
  rintro e w' ⟨rfl, t, rfl⟩
  exact ⟨rfl, below_bytes _ _ _⟩
set_option maxRecDepth 100000 in
set_option maxHeartbeats 4000000 in
theorem readChunkName_ok (t : ByteArray) (ht : t.size ≤ 9000000000000000000) (w : World) (g : Gl w) (hp : P10 w) (hse : SynE w) : Calls Tryz.prog 19 #[.string t] w (RnOut t w) := by
  by_cases hs : t.size < 28
  · have hd : decide ((t.size : Int) - 4 - 16 - 1 - 6 < 1) = true := decide_eq_true (by omega)
    have hd' : (t.size : Int) - 4 - 16 - 1 - 6 < 1 := by omega
    go_enter Tryz.func19, Tryz.ntmps19
    go_wp2_with fail
    (try simp only [Exit.inBlock, Exit.then])
    refine bodyPost_ret (results_tmp4 rfl _ _ _) rfl ?_
    exact ⟨_, _, _, _, rfl, rn_none (rn_short hs), Below.refl _ _⟩
  obtain ⟨n, hn⟩ : ∃ n, t.size = n + 27 := ⟨t.size - 27, by omega⟩
  have hn1 : 1 ≤ n := by omega
  have hz : (t.size : Int) - 4 - 16 - 1 - 6 = (n : Int) := by omega
  have h7 : (t.size : Int) - 7 = (n : Int) + 20 := by omega
  have h6 : (t.size : Int) - 6 = (n : Int) + 21 := by omega
  have hd : decide ((n : Int) < 1) = false := decide_eq_false (by omega)
  have hd' : ¬ (n : Int) < 1 := by omega
  have HN := Lib.hid hn
  have hle : n + 27 = t.size := hn.symm
  have hl6 : (t.extract (n + 21) t.size).size ≤ 18 := by simp; omega
  have hdz : (t.extract (n + 4) (n + 20)).size ≤ 9000000000000000000 := by simp; omega
  have HCK := Lib.hid (fun v wx (hb : Below w.heap.size w wx) => ChunkName_ok (t.extract 0 n) (t.extract (n + 4) (n + 20)) v hdz wx (g.below hb) (hp.below hb))
  clear hn g hp hdz
  cases ha : Lib.atoi (t.extract (n + 21) t.size).data.toList with
  | none =>
    have HA := Lib.hid (fun wx (hb : Below w.heap.size w wx) => atoi_err _ hl6 ha wx (hse.below hb))
    have HAT := Lib.hid ha
    clear hse ha hl6
    go_enter Tryz.func19, Tryz.ntmps19
    go_wp2_with fail
    go_quiet (fail)
    have hb := ((Kp.refl [] w).drewN nq).below (Nat.le_refl _) (by simp)
    generalize w.drewN nq = w1 at *
    go_wp2_with fail
    refine (HA.out _ hb).mono ?_
    rintro e w2 ⟨N, rfl, hb2⟩
    go_wp2_with fail
    (try simp only [Exit.inBlock, Exit.then])
    refine bodyPost_ret (results_tmp4 rfl _ _ _) rfl ?_
    exact ⟨_, _, _, _, rfl, rn_none (rn_err HN.out hn1 HAT.out), hb.trans (hb2.mono hb.size)⟩
  | some v =>
    have HA := Lib.hid (fun wx => atoi_okk _ v hl6 ha wx)
    have HAT := Lib.hid ha
    clear ha hl6 hse
    cases hv : decide (v < 0)
    · have hv' : ¬ v < 0 := of_decide_eq_false hv
      obtain ⟨s, c, hsc⟩ : ∃ s c, ckN (t.extract 0 n) (t.extract (n + 4) (n + 20)) v = (s, c) := ⟨_, _, rfl⟩
      have HS := Lib.hid hsc
      have HC := Lib.hid (HCK.out v)
      rw [hsc] at HC
      dsimp only at HC
      clear hsc HCK
      cases hc : (c != 0)
      · cases hq : (s.toList == t.toList)
        · have HNE := Lib.hid (show s ≠ t by rintro rfl; simp at hq)
          go_enter Tryz.func19, Tryz.ntmps19
          go_wp2_with fail
          go_quiet (fail)
          have hb := ((Kp.refl [] w).drewN nq).below (Nat.le_refl _) (by simp)
          generalize w.drewN nq = w1 at *
          go_wp2_with fail
          refine (HA.out _).mono ?_
          rintro e w2 ⟨rfl, hb2⟩
          have hb3 := hb.trans (hb2.mono hb.size)
          clear hb hb2
          go_wp2_with fail
          refine (HC.out _ hb3).mono ?_
          rintro e w3 ⟨rfl, hb4⟩
          have hb5 := hb3.trans (hb4.mono hb3.size)
          clear hb3 hb4
          go_wp2_with fail
          (try simp only [Exit.inBlock, Exit.then])
          refine bodyPost_ret (results_tmp4 rfl _ _ _) rfl ?_
          exact ⟨_, _, _, _, rfl, rn_none (rn_no HN.out hn1 HAT.out (by omega) (Or.inr (by rw [HS.out]; exact HNE.out))), hb5⟩
        · have HEQ := Lib.hid (show s = t from bytes_eq (by have := beq_iff_eq.1 hq; rwa [Lib.toList_data, Lib.toList_data] at this))
          go_enter Tryz.func19, Tryz.ntmps19
          go_wp2_with fail
          go_quiet (fail)
          have hb := ((Kp.refl [] w).drewN nq).below (Nat.le_refl _) (by simp)
          generalize w.drewN nq = w1 at *
          go_wp2_with fail
          refine (HA.out _).mono ?_
          rintro e w2 ⟨rfl, hb2⟩
          have hb3 := hb.trans (hb2.mono hb.size)
          clear hb hb2
          go_wp2_with fail
          refine (HC.out _ hb3).mono ?_
          rintro e w3 ⟨rfl, hb4⟩
          have hb5 := hb3.trans (hb4.mono hb3.size)
          clear hb3 hb4
          go_wp2_with fail
          (try simp only [Exit.inBlock, Exit.then])
          refine bodyPost_ret (results_tmp4 rfl _ _ _) rfl ?_
          have h0 : c = 0 := by simpa using hc
          exact ⟨_, _, _, _, rfl, rn_yes HN.out hn1 HAT.out (by omega) (by rw [HS.out]; exact h0) (by rw [HS.out]; exact HEQ.out), hb5⟩
      · have HNZ := Lib.hid (show c ≠ 0 by simpa using hc)
        go_enter Tryz.func19, Tryz.ntmps19
        go_wp2_with fail
        go_quiet (fail)
        have hb := ((Kp.refl [] w).drewN nq).below (Nat.le_refl _) (by simp)
        generalize w.drewN nq = w1 at *
        go_wp2_with fail
        refine (HA.out _).mono ?_
        rintro e w2 ⟨rfl, hb2⟩
        have hb3 := hb.trans (hb2.mono hb.size)
        clear hb hb2
        go_wp2_with fail
        refine (HC.out _ hb3).mono ?_
        rintro e w3 ⟨rfl, hb4⟩
        have hb5 := hb3.trans (hb4.mono hb3.size)
        clear hb3 hb4
        go_wp2_with fail
        (try simp only [Exit.inBlock, Exit.then])
        refine bodyPost_ret (results_tmp4 rfl _ _ _) rfl ?_
        exact ⟨_, _, _, _, rfl, rn_none (rn_no HN.out hn1 HAT.out (by omega) (Or.inl (by rw [HS.out]; exact HNZ.out))), hb5⟩
    · have hv' : v < 0 := of_decide_eq_true hv
      go_enter Tryz.func19, Tryz.ntmps19
      go_wp2_with fail
      go_quiet (fail)
      have hb := ((Kp.refl [] w).drewN nq).below (Nat.le_refl _) (by simp)
      generalize w.drewN nq = w1 at *
      go_wp2_with fail
      refine (HA.out _).mono ?_
      rintro e w2 ⟨rfl, hb2⟩
      have hb3 := hb.trans (hb2.mono hb.size)
      clear hb hb2
      go_wp2_with fail
      (try simp only [Exit.inBlock, Exit.then])
      refine bodyPost_ret (results_tmp4 rfl _ _ _) rfl ?_
      exact ⟨_, _, _, _, rfl, rn_none (rn_neg HN.out hn1 HAT.out hv'), hb3⟩
end Go.Proofs.YtobiacdeoeogaaaGreatDoor

set_option linter.unusedVariables false
set_option linter.unusedSimpArgs false
namespace Go.Proofs.YtobiacdeoeogaaaGreatDoor
open Go.RowKit
def pz (n k : Nat) : ByteArray := ⟨(List.replicate k 48 ++ Lib.decDigits n).toArray⟩
theorem pz_zero (n : Nat) : decS n = pz n 0 := rfl
theorem pz_succ (n k : Nat) : (⟨#[48]⟩ : ByteArray) ++ pz n k = pz n (k + 1) := bytes_eq (by unfold pz; simp [ByteArray.data_append, List.replicate_succ])
theorem pz_size (n k : Nat) : (pz n k).size = k + (decS n).size := by
  unfold pz
  simp [ByteArray.size]
theorem pz_six (n k : Nat) (hn : n ≤ 999999) (hk : k + (decS n).size = 6) : (pz n k).data.toList = six n := by
  have h1 := six_of n hn
  rw [show 6 - (decS n).size = k by omega] at h1
  rw [← h1]
  rfl
set_option maxRecDepth 100000 in
set_option maxHeartbeats 4000000 in
theorem chunkNameOf_ok (name digest : ByteArray) (n : Nat) (hn : n ≤ 999999) (h1 : name.size ≤ 1000) (h2 : digest.size ≤ 16) (w : World) (hp : P10 w) : Calls Tryz.prog 18 #[.string name, .string digest, .int .i64 (n : Int)] w fun e w' => e = .returned (.string (chunkS name digest n)) ∧ Below w.heap.size w w' := by
  obtain ⟨d1, d2⟩ := decS_size n hn
  have HI := Lib.hid (itoa_w n hn w hp)
  have HSZ := Lib.hid (fun k => pz_size n k)
  have H6 := Lib.hid (fun k hk => pz_six n k hn hk)
  rw [pz_zero] at HI
  generalize hds : (decS n).size = d at *
  have HDS := Lib.hid hds
  clear hp hds
  go_enter Tryz.func18, Tryz.ntmps18
  go_wp2_with fail
  refine HI.out.mono ?_
  rintro e w1 ⟨rfl, hb⟩
  have HB := Lib.hid hb
  clear hb HI
  go_wp2_with fail
  go_loopg [7] (6 - d) (fun g x wx => ∃ k : Nat, x = .string (pz n k) ∧ k + d + g = 6 ∧ wx = w1)
  case atStart => exact ⟨0, rfl, by omega, rfl⟩
  case round =>
    obtain ⟨k, rfl, hk, rfl⟩ := hrel
    have hsz := HSZ.out k
    by_cases hlt : gk = 0
    · have hd : decide (((pz n k).size : Int) < 6) = false := decide_eq_false (by omega)
      have hd' : ¬ ((pz n k).size : Int) < 6 := by omega
      have HP := Lib.hid (H6.out k (by omega))
      have s1 : name.size + 4 ≤ 1004 := by omega
      have s2 : (name ++ ⟨#[46, 119, 99, 46]⟩).size + digest.size ≤ 1020 := by rw [ByteArray.size_append]; show name.size + 4 + _ ≤ _; omega
      have s3 : (name ++ ⟨#[46, 119, 99, 46]⟩ ++ digest).size + 1 ≤ 1021 := by rw [ByteArray.size_append, ByteArray.size_append]; show name.size + 4 + _ + _ ≤ _; omega
      have s4 : (name ++ ⟨#[46, 119, 99, 46]⟩ ++ digest ++ ⟨#[46]⟩).size + (pz n k).size ≤ 1027 := by rw [ByteArray.size_append, ByteArray.size_append, ByteArray.size_append]; show name.size + 4 + _ + 1 + _ ≤ _; omega
      generalize pz n k = ds at *
      go_wp2_with fail
      go_ret
      have he : name ++ ⟨#[46, 119, 99, 46]⟩ ++ digest ++ ⟨#[46]⟩ ++ ds = chunkS name digest n := bytes_eq (by
        unfold chunkS chunkL
        rw [← HP.out]
        simp [ByteArray.data_append])
      exact ⟨by rw [← he]; rfl, HB.out⟩
    · have hd : decide (((pz n k).size : Int) < 6) = true := decide_eq_true (by omega)
      have hd' : ((pz n k).size : Int) < 6 := by omega
      have hs1 : 1 + (pz n k).size ≤ 10 := by omega
      have HZ := Lib.hid (pz_succ n k)
      go_wp2_with fail
      go_roundg (gk - 1)
      case measure => omega
      case rel => exact ⟨k + 1, by rw [← HZ.out], by omega, by first | trivial | rfl⟩
end Go.Proofs.YtobiacdeoeogaaaGreatDoor
