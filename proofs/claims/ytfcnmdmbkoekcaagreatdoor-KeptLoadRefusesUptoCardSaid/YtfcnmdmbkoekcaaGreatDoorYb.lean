/-
  Small hexadecimal digits: wherryref2.IsHex, wrap.isSum.
-/
import Derived.Test.YtfcnmdmbkoekcaaGreatDoorAa
import Derived.Test.YtfcnmdmbkoekcaaGreatDoorKb
import Derived.Maps.OwnOps
set_option linter.unusedVariables false
set_option linter.unusedSimpArgs false
namespace Go.Proofs.YtfcnmdmbkoekcaaGreatDoor
open Go.RowKit
/-- a small hexadecimal digit. -/
def hexB (b : UInt8) : Bool := (decide (48 ≤ b.toNat) && decide (b.toNat ≤ 57)) || (decide (97 ≤ b.toNat) && decide (b.toNat ≤ 102))
theorem hdig_of {b : UInt8} (h : hexB b = true) : ∃ k, k < 16 ∧ hdig k = b := by
  unfold hexB at h
  rw [Bool.or_eq_true, Bool.and_eq_true, Bool.and_eq_true, decide_eq_true_iff, decide_eq_true_iff, decide_eq_true_iff, decide_eq_true_iff] at h
  rcases h with h | h
  · refine ⟨b.toNat - 48, by omega, ?_⟩
    apply UInt8.toNat_inj.1
    unfold hdig
    rw [if_pos (by omega), UInt8.toNat_ofNat']
    omega
  · refine ⟨b.toNat - 87, by omega, ?_⟩
    apply UInt8.toNat_inj.1
    unfold hdig
    rw [if_neg (by omega), UInt8.toNat_ofNat']
    omega
theorem hexB_hdig : ∀ k : Fin 16, hexB (hdig k) = true := by decide
set_option maxRecDepth 100000 in
set_option maxHeartbeats 4000000 in
theorem hexValue_ok (b : UInt8) (w : World) : Calls Tryz.prog 33 #[.int .u8 (b.toNat : Int)] w fun e w' => ∃ v : Int, e = .returned (.int .i64 v) ∧ decide (v < 0) = !hexB b ∧ w' = w := by
  have HIX := Lib.hid (fun (k : Nat) (h : k < 16) => hexIxI k h w)
  go_enter Tryz.func33, Tryz.ntmps33
  go_wp2_with fail
  go_loopw [4] (fun x wr => ∃ i : Nat, x = .int .i64 (i : Int) ∧ i ≤ 16 ∧ (∀ k, k < i → hdig k ≠ b) ∧ wr = w) (fun x _ => 16 - (intOf x).toNat)
  case atStart => exact ⟨0, rfl, by omega, fun k hk => absurd hk (Nat.not_lt_zero _), rfl⟩
  case round =>
    obtain ⟨i, rfl, hi, hno, rfl⟩ := hrel
    have HNO := Lib.hid hno
    clear hno
    by_cases hlt : i < 16
    · have hd : decide ((i : Int) < 16) = true := decide_eq_true (by omega)
      have hix := HIX.out i hlt
      cases hc : (((hdig i).toNat : Int) == (b.toNat : Int))
      · have HNE := Lib.hid (show hdig i ≠ b by rintro rfl; simp at hc)
        go_wp2_with fail
        go_roundw
        case rel =>
          refine ⟨i + 1, by go_num, hlt, ?_, by first | trivial | rfl⟩
          intro k hk
          by_cases hki : k = i
          · rw [hki]; exact HNE.out
          · exact HNO.out k (by omega)
        case measure => simp [intOf]; omega
      · have HE := Lib.hid (show hdig i = b from UInt8.toNat_inj.1 (by have := beq_iff_eq.1 hc; omega))
        go_wp2_with fail
        go_ret
        refine ⟨(i : Int), rfl, ?_, rfl⟩
        have h1 : hexB b = true := by rw [← HE.out]; exact hexB_hdig ⟨i, hlt⟩
        rw [h1]
        exact decide_eq_false (by omega)
    · have hd : decide ((i : Int) < 16) = false := decide_eq_false (by omega)
      go_wp2_with fail
      go_ret
      refine ⟨-1, rfl, ?_, rfl⟩
      have h1 : hexB b = false := by
        cases h : hexB b
        · rfl
        · obtain ⟨k, hk, e⟩ := hdig_of h
          exact absurd e (HNO.out k (by omega))
      rw [h1]
      rfl
theorem tkh_snoc {l : List UInt8} {i : Nat} {b : UInt8} (h : l[i]? = some b) : l.take (i + 1) = l.take i ++ [b] := by
  have hi := (List.getElem?_eq_some_iff.1 h).1
  rw [List.take_succ_eq_append_getElem hi]
  rw [(List.getElem?_eq_some_iff.1 h).2]
theorem all_snoc {p : UInt8 → Bool} {l : List UInt8} {i : Nat} {b : UInt8} (h : l[i]? = some b) (ha : (l.take i).all p = true) (hb : p b = true) : (l.take (i + 1)).all p = true := by
  rw [tkh_snoc h, List.all_append, ha]; simp [hb]
theorem all_not {p : UInt8 → Bool} {l : List UInt8} {i : Nat} {b : UInt8} (h : l[i]? = some b) (hb : p b = false) : l.all p = false := by
  cases he : l.all p
  · rfl
  · have := List.all_eq_true.1 he b (List.mem_of_getElem? h)
    rw [hb] at this
    cases this
set_option maxRecDepth 100000 in
set_option maxHeartbeats 4000000 in
theorem isHex_ok (s : ByteArray) (n : Int) (w : World) (hs : s.size ≤ 9000000000000000000) : Calls Tryz.prog 15 #[.string s, .int .i64 n] w fun e w' => e = .returned (.bool (s.data.toList.all hexB && ((s.size : Int) == n))) ∧ w' = w := by
  have HIX := Lib.hid (fun (k : Nat) (b : UInt8) (h : s.data.toList[k]? = some b) => index_at s k b h w)
  go_enter Tryz.func15, Tryz.ntmps15
  go_wp2_with fail
  go_loopw [8] (fun x wr => ∃ i : Nat, x = .int .i64 (i : Int) ∧ i ≤ s.size ∧ (s.data.toList.take i).all hexB = true ∧ wr = w) (fun x _ => s.size - (intOf x).toNat)
  case atStart => exact ⟨0, rfl, Nat.zero_le _, rfl, rfl⟩
  case round =>
    obtain ⟨i, rfl, hi, hno, rfl⟩ := hrel
    have HNO := Lib.hid hno
    clear hno
    by_cases hlt : i < s.size
    · have hd : decide ((i : Int) < (s.size : Int)) = true := decide_eq_true (by omega)
      have hl : i < s.data.toList.length := by rw [← Lib.size_eq]; exact hlt
      obtain ⟨b, hb⟩ : ∃ b, s.data.toList[i]? = some b := ⟨_, List.getElem?_eq_getElem hl⟩
      have hix := HIX.out i b hb
      have HBB := Lib.hid hb
      clear hb hl
      cases hc : hexB b
      · go_wp2_with fail
        refine (hexValue_ok b _).mono ?_
        rintro e w1 ⟨v, rfl, hv, rfl⟩
        rw [hc] at hv
        have hv1 : decide (v < 0) = true := hv
        have hv2 : v < 0 := of_decide_eq_true hv1
        clear hv
        go_wp2_with fail
        go_ret
        exact ⟨by rw [all_not HBB.out hc]; rfl, rfl⟩
      · go_wp2_with fail
        refine (hexValue_ok b _).mono ?_
        rintro e w1 ⟨v, rfl, hv, rfl⟩
        rw [hc] at hv
        have hv1 : decide (v < 0) = false := hv
        have hv2 : ¬ v < 0 := of_decide_eq_false hv1
        clear hv
        go_wp2_with fail
        go_roundw
        case rel => exact ⟨i + 1, by go_num, hlt, all_snoc HBB.out HNO.out hc, by first | trivial | rfl⟩
        case measure => simp [intOf]; omega
    · have hd : decide ((i : Int) < (s.size : Int)) = false := decide_eq_false (by omega)
      go_wp2_with fail
      go_ret
      have : s.data.toList.all hexB = true := by
        have h1 := HNO.out
        rw [List.take_of_length_le (by rw [← Lib.size_eq]; omega)] at h1
        exact h1
      exact ⟨by rw [this]; rfl, rfl⟩
/-- an entry of a map literal. -/
theorem wpList_insert_own {H : Type} {P : Program} (w : World) {ops : Array Oper} {rest : List Oper} {o : Oper} {a : Act} {Q : Exit → Act → World → Prop}
    (hg : o.guard = none) (m x v : Operand) (t : TypeId) (hop : o.op = Op.insert t m x v)
    (k e : TypeId) (K : Maps.Keyed P k) (ht : P.underlying t = some (.map k e)) (R : Value → Option (DataW H × List MemPlace)) (b n : Nat) (D : DataW H)
    (hm : a.eval m = .map (some b)) (hown : w.ownsMap P k R b n D) (hn : n < maxLen) (key val : Value) (kl : Lit) (hx : a.eval x = key) (hv : a.eval v = val) (hkey : keyOf P k key = some kl)
    (d : DataW H) (ps : List MemPlace) (hval : R val = some (d, ps))
    (hK : ∀ w', w'.ownsMap P k R b (n + 1) (D.put kl d) → w.grownBy w' (some b) → wpList P ops Q rest (a.put o.dst undef) w') :
    wpList P ops Q (o :: rest) a w := by
  refine wpList_plain hg fun K' hK' => ?_
  obtain ⟨w', hrun, r1, r2⟩ := hown.update K ht hn hkey hval
  unfold Oper.wp
  simp [execOp, hop, hm, hx, hv, hrun, Result.andThen]
  exact hK' _ _ (hK w' r1 r2)
abbrev dig5 : DataW Unit := (((((DataW.map []).put (.int .i64 1) (.lit (.int .i64 8))).put (.int .i64 2) (.lit (.int .i64 32))).put (.int .i64 3) (.lit (.int .i64 40))).put (.int .i64 4) (.lit (.int .i64 64))).put (.int .i64 5) (.lit (.int .i64 64))
theorem dig_1 : dig5.atKey (.int .i64 1) (.lit (.int .i64 0)) = .lit (.int .i64 8) := rfl
theorem dig_2 : dig5.atKey (.int .i64 2) (.lit (.int .i64 0)) = .lit (.int .i64 32) := rfl
set_option maxRecDepth 100000 in
set_option maxHeartbeats 4000000 in
theorem isSum_n (kind n : Int) (s : ByteArray) (w : World) (hs : s.size ≤ 9000000000000000000) (hk : (Lit.int .i64 kind).wf = true) (hd : dig5.atKey (.int .i64 kind) (.lit (.int .i64 0)) = .lit (.int .i64 n)) : Calls Tryz.prog 60 #[.int .i64 kind, .string s] w fun e w' => e = .returned (.bool (s.data.toList.all hexB && ((s.size : Int) == n))) ∧ Below w.heap.size w w' := by
  obtain ⟨r, hr⟩ : ∃ r, (s.data.toList.all hexB && ((s.size : Int) == n)) = r := ⟨_, rfl⟩
  rw [hr]
  have HR := Lib.hid hr
  clear hr
  have HIX := Lib.hid (fun (k : Nat) (b : UInt8) (h : s.data.toList[k]? = some b) (w : World) => index_at s k b h w)
  have KK := Lib.hid (Maps.int_keyed (P := Tryz.prog) Tryz.underlying3)
  have HD := Lib.hid hd
  clear hd
  cases hn : ((s.size : Int) == n)
  · have hne : ((s.size : Int) != n) = true := by simp at hn ⊢; exact hn
    have hmm := @run_makeMap Tryz.prog
    go_enter Tryz.func60, Tryz.ntmps60
    have hown := World.ownsMap_made (H := Unit) w Tryz.prog 3 (plainElem Tryz.prog 3)
    have hbe := (Below.refl w.heap.size w).alloc (Nat.le_refl _) (.map #[] 0)
    go_wp2_with (first
      | (at_lookup; refine wpList_lookup_own_int _ rfl _ _ 141 rfl 3 3 .i64 KK.out Tryz.underlying141 Tryz.underlying3 (Tryz.zeroValue3 _) w.heap.size _ _ rfl hown _ _ rfl (Maps.keyOf_int_mk Tryz.underlying3 hk) ?_; intro c hat hwc; have hcn : c = n := (by rw [HD.out] at hat; injection hat with hat; injection hat with _ hat; exact hat.symm); subst hcn; clear hat hwc)
      | (refine wpList_insert_own _ rfl _ _ _ 141 rfl 3 3 KK.out Tryz.underlying141 _ w.heap.size _ _ rfl hown (by decide) _ _ _ rfl rfl (Maps.keyOf_int_mk Tryz.underlying3 (by decide)) _ [] (plainElem_int Tryz.underlying3 (by decide)) ?_; intro wn hown2 hgr; have hbe2 := hbe.grown hgr hbe.size (fun j hj => by cases hj; exact Nat.le_refl _); clear hown hbe hgr; have hown := hown2; have hbe := hbe2; clear hown2 hbe2; go_frame))
    go_ret
    refine ⟨?_, hbe⟩
    rw [← HR.out, hn, Bool.and_false]; rfl
  · have hne : ((s.size : Int) != n) = false := by simp at hn ⊢; exact hn
    have hmm := @run_makeMap Tryz.prog
    go_enter Tryz.func60, Tryz.ntmps60
    have hown := World.ownsMap_made (H := Unit) w Tryz.prog 3 (plainElem Tryz.prog 3)
    have hbe := (Below.refl w.heap.size w).alloc (Nat.le_refl _) (.map #[] 0)
    go_wp2_with (first
      | (at_lookup; refine wpList_lookup_own_int _ rfl _ _ 141 rfl 3 3 .i64 KK.out Tryz.underlying141 Tryz.underlying3 (Tryz.zeroValue3 _) w.heap.size _ _ rfl hown _ _ rfl (Maps.keyOf_int_mk Tryz.underlying3 hk) ?_; intro c hat hwc; have hcn : c = n := (by rw [HD.out] at hat; injection hat with hat; injection hat with _ hat; exact hat.symm); subst hcn; clear hat hwc)
      | (refine wpList_insert_own _ rfl _ _ _ 141 rfl 3 3 KK.out Tryz.underlying141 _ w.heap.size _ _ rfl hown (by decide) _ _ _ rfl rfl (Maps.keyOf_int_mk Tryz.underlying3 (by decide)) _ [] (plainElem_int Tryz.underlying3 (by decide)) ?_; intro wn hown2 hgr; have hbe2 := hbe.grown hgr hbe.size (fun j hj => by cases hj; exact Nat.le_refl _); clear hown hbe hgr; have hown := hown2; have hbe := hbe2; clear hown2 hbe2; go_frame))
    have HB := Lib.hid hbe
    have hlw := hbe.size
    clear hbe hown
    go_loopw [18] (fun x wr => ∃ i : Nat, x = .int .i64 (i : Int) ∧ i ≤ s.size ∧ (s.data.toList.take i).all hexB = true ∧ Below w.heap.size w wr) (fun x _ => s.size - (intOf x).toNat)
    case atStart => exact ⟨0, rfl, Nat.zero_le _, rfl, HB.out⟩
    case round =>
      obtain ⟨i, rfl, hi, hno, hbr⟩ := hrel
      have HNO := Lib.hid hno
      have HBR := Lib.hid hbr
      have HNN := Lib.hid hn
      clear hno hbr hne hn
      by_cases hlt : i < s.size
      · have hd : decide ((i : Int) < (s.size : Int)) = true := decide_eq_true (by omega)
        have hl : i < s.data.toList.length := by rw [← Lib.size_eq]; exact hlt
        obtain ⟨b, hb⟩ : ∃ b, s.data.toList[i]? = some b := ⟨_, List.getElem?_eq_getElem hl⟩
        have hix := HIX.out i b hb
        have HBB := Lib.hid hb
        clear hb hl
        rcases (show (b.toNat < 48) ∨ (48 ≤ b.toNat ∧ b.toNat ≤ 57) ∨ (57 < b.toNat ∧ b.toNat < 97) ∨ (97 ≤ b.toNat ∧ b.toNat ≤ 102) ∨ (102 < b.toNat) by omega) with g1 | g1 | g1 | g1 | g1
        · have g2 := True.intro
          have fa : ¬ (48 : Int) ≤ (b.toNat : Int) := by omega
          have fa' : decide ((48 : Int) ≤ (b.toNat : Int)) = false := decide_eq_false fa
          have fa'' : decide ((b.toNat : Int) ≥ 48) = false := decide_eq_false (by omega)
          have fc : ¬ (97 : Int) ≤ (b.toNat : Int) := by omega
          have fc' : decide ((97 : Int) ≤ (b.toNat : Int)) = false := decide_eq_false fc
          have fc'' : decide ((b.toNat : Int) ≥ 97) = false := decide_eq_false (by omega)
          have HC := Lib.hid (show hexB b = false from by unfold hexB; simp; omega)
          clear g1 g2
          go_wp2_with fail
          go_ret
          refine ⟨?_, HBR.out⟩
          rw [← HR.out, all_not HBB.out HC.out]; rfl
        · have g2 := True.intro
          have fa : (48 : Int) ≤ (b.toNat : Int) := by omega
          have fa' : decide ((48 : Int) ≤ (b.toNat : Int)) = true := decide_eq_true fa
          have fa'' : decide ((b.toNat : Int) ≥ 48) = true := decide_eq_true (by omega)
          have fb : (b.toNat : Int) ≤ 57 := by omega
          have fb' : decide ((b.toNat : Int) ≤ 57) = true := decide_eq_true fb
          have fb'' : decide ((b.toNat : Int) ≤ 57) = true := decide_eq_true (by omega)
          have HC := Lib.hid (show hexB b = true from by unfold hexB; simp; omega)
          clear g1 g2
          go_wp2_with fail
          go_roundw
          case rel => exact ⟨i + 1, by go_num, hlt, all_snoc HBB.out HNO.out HC.out, HBR.out⟩
          case measure => simp [intOf]; omega
        · have g2 := True.intro
          have fa : (48 : Int) ≤ (b.toNat : Int) := by omega
          have fa' : decide ((48 : Int) ≤ (b.toNat : Int)) = true := decide_eq_true fa
          have fa'' : decide ((b.toNat : Int) ≥ 48) = true := decide_eq_true (by omega)
          have fb : ¬ (b.toNat : Int) ≤ 57 := by omega
          have fb' : decide ((b.toNat : Int) ≤ 57) = false := decide_eq_false fb
          have fb'' : decide ((b.toNat : Int) ≤ 57) = false := decide_eq_false (by omega)
          have fc : ¬ (97 : Int) ≤ (b.toNat : Int) := by omega
          have fc' : decide ((97 : Int) ≤ (b.toNat : Int)) = false := decide_eq_false fc
          have fc'' : decide ((b.toNat : Int) ≥ 97) = false := decide_eq_false (by omega)
          have HC := Lib.hid (show hexB b = false from by unfold hexB; simp; omega)
          clear g1 g2
          go_wp2_with fail
          go_ret
          refine ⟨?_, HBR.out⟩
          rw [← HR.out, all_not HBB.out HC.out]; rfl
        · have g2 := True.intro
          have fa : (48 : Int) ≤ (b.toNat : Int) := by omega
          have fa' : decide ((48 : Int) ≤ (b.toNat : Int)) = true := decide_eq_true fa
          have fa'' : decide ((b.toNat : Int) ≥ 48) = true := decide_eq_true (by omega)
          have fb : ¬ (b.toNat : Int) ≤ 57 := by omega
          have fb' : decide ((b.toNat : Int) ≤ 57) = false := decide_eq_false fb
          have fb'' : decide ((b.toNat : Int) ≤ 57) = false := decide_eq_false (by omega)
          have fc : (97 : Int) ≤ (b.toNat : Int) := by omega
          have fc' : decide ((97 : Int) ≤ (b.toNat : Int)) = true := decide_eq_true fc
          have fc'' : decide ((b.toNat : Int) ≥ 97) = true := decide_eq_true (by omega)
          have fd : (b.toNat : Int) ≤ 102 := by omega
          have fd' : decide ((b.toNat : Int) ≤ 102) = true := decide_eq_true fd
          have fd'' : decide ((b.toNat : Int) ≤ 102) = true := decide_eq_true (by omega)
          have HC := Lib.hid (show hexB b = true from by unfold hexB; simp; omega)
          clear g1 g2
          go_wp2_with fail
          go_roundw
          case rel => exact ⟨i + 1, by go_num, hlt, all_snoc HBB.out HNO.out HC.out, HBR.out⟩
          case measure => simp [intOf]; omega
        · have g2 := True.intro
          have fa : (48 : Int) ≤ (b.toNat : Int) := by omega
          have fa' : decide ((48 : Int) ≤ (b.toNat : Int)) = true := decide_eq_true fa
          have fa'' : decide ((b.toNat : Int) ≥ 48) = true := decide_eq_true (by omega)
          have fb : ¬ (b.toNat : Int) ≤ 57 := by omega
          have fb' : decide ((b.toNat : Int) ≤ 57) = false := decide_eq_false fb
          have fb'' : decide ((b.toNat : Int) ≤ 57) = false := decide_eq_false (by omega)
          have fc : (97 : Int) ≤ (b.toNat : Int) := by omega
          have fc' : decide ((97 : Int) ≤ (b.toNat : Int)) = true := decide_eq_true fc
          have fc'' : decide ((b.toNat : Int) ≥ 97) = true := decide_eq_true (by omega)
          have fd : ¬ (b.toNat : Int) ≤ 102 := by omega
          have fd' : decide ((b.toNat : Int) ≤ 102) = false := decide_eq_false fd
          have fd'' : decide ((b.toNat : Int) ≤ 102) = false := decide_eq_false (by omega)
          have HC := Lib.hid (show hexB b = false from by unfold hexB; simp; omega)
          clear g1 g2
          go_wp2_with fail
          go_ret
          refine ⟨?_, HBR.out⟩
          rw [← HR.out, all_not HBB.out HC.out]; rfl
      · have hd : decide ((i : Int) < (s.size : Int)) = false := decide_eq_false (by omega)
        go_wp2_with fail
        go_ret
        refine ⟨?_, HBR.out⟩
        have h2 := HNO.out
        rw [List.take_of_length_le (by rw [← Lib.size_eq]; omega)] at h2
        rw [← HR.out, h2, HNN.out]; rfl
end Go.Proofs.YtfcnmdmbkoekcaaGreatDoor
