import Derived.Test.YtdfloglicjocbaaBb
namespace Go.Proofs.Ytdfloglicjocbaa
open Go.RowKit

theorem ceil_facts (D R : Int) (hR : 0 < R) (hD : 0 < D) : 0 < (D + R - 1) / R ∧ (D + R - 1) / R ≤ D ∧ D ≤ R * ((D + R - 1) / R) ∧ ∀ j : Int, j < (D + R - 1) / R → R * j < D := by
  have h1 : R * ((D + R - 1) / R) + (D + R - 1) % R = D + R - 1 := Int.mul_ediv_add_emod _ _
  have h2 := Int.emod_nonneg (D + R - 1) (show R ≠ 0 by omega)
  have h3 := Int.emod_lt_of_pos (D + R - 1) hR
  generalize (D + R - 1) / R = Q at *
  have hQ : 0 < Q := by
    rcases Int.lt_or_le 0 Q with h | h
    · exact h
    · have : R * Q ≤ R * 0 := Int.mul_le_mul_of_nonneg_left h (by omega)
      omega
  refine ⟨hQ, ?_, by omega, ?_⟩
  · have h4 : 1 * (Q - 1) ≤ R * (Q - 1) := Int.mul_le_mul_of_nonneg_right (by omega) (by omega)
    have h5 : R * (Q - 1) = R * Q - R := by rw [Int.mul_sub, Int.mul_one]
    omega
  · intro j hj
    have h4 : R * j ≤ R * (Q - 1) := Int.mul_le_mul_of_nonneg_left (by omega) (by omega)
    have h5 : R * (Q - 1) = R * Q - R := by rw [Int.mul_sub, Int.mul_one]
    omega

theorem Row2.set {w : World} {B g i : Nat} {a : Option Addr} {xs : List (Int × Int)} {u : Value} (h : Row2 w B a xs) (hne : ∀ x, a = some x → x.block ≠ g) : Row2 (w.setCell ⟨g, i, none⟩ u) B a xs := by
  intro j hj
  obtain ⟨b, off, e, hb, c0, c1⟩ := h j hj
  have hbg := hne _ e
  refine ⟨b, off, e, hb, ?_, ?_⟩
  · rw [World.cell?_setCell_other _ _ _ _ (fun e => hbg (by injection e with e1; exact e1.symm))]; exact c0
  · rw [World.cell?_setCell_other _ _ _ _ (fun e => hbg (by injection e with e1; exact e1.symm))]; exact c1

/-- what Take answers, and what it leaves. -/
def TakeRes (g : Nat) (a : Option Addr) (ca : Nat) (xs : List (Int × Int)) (M l s need : Int) (k0 : Nat) (w : World) (e : Ending) (w' : World) : Prop :=
  (∃ n, takeAt xs M s l need k0 n ∧ e = .returned (.tuple #[.int .i64 (s + n), .int .i64 0]) ∧ Blk w' g 97 (bkC a xs.length ca M (leftF xs M s l need n) (s + n) (neverB xs)) ∧ w.grownBy w' (some g)) ∨
  (takeNo xs M s l need k0 ∧ e = .returned (.tuple #[.int .i64 0, .int .i64 3]) ∧ w = w')

set_option maxHeartbeats 400000 in
set_option maxRecDepth 100000 in
theorem take30_out (g : Nat) (a : Option Addr) (ca : Nat) (xs : List (Int × Int)) (M l s at' many : Int) (w : World) (hg : Blk w g 97 (bkC a xs.length ca M l s (neverB xs)))
    (hM : 0 ≤ M) (hM1 : M ≤ 1000000000000) (hout : at' < 0 ∨ 1099511627776 < at' ∨ many < 0 ∨ M / 1000 < many) :
    Calls Try.prog 30 #[.pointer (some ⟨g, 0, none⟩), .int .i64 at', .int .i64 many] w fun e w' => e = .returned (.tuple #[.int .i64 0, .int .i64 7]) ∧ w = w' := by
  have hc := hg.cell
  clear hg
  by_cases q1 : at' < 0
  · clear hout
    go_enter Try.func30, Try.ntmps30
    go_wp2
    go_ret2
    exact ⟨rfl, rfl⟩
  by_cases q2 : 1099511627776 < at'
  · clear hout
    go_enter Try.func30, Try.ntmps30
    go_wp2
    go_ret2
    exact ⟨rfl, rfl⟩
  by_cases q3 : many < 0
  · clear hout
    go_enter Try.func30, Try.ntmps30
    go_wp2
    go_ret2
    exact ⟨rfl, rfl⟩
  have q4 : M / 1000 < many := by omega
  clear hout
  go_enter Try.func30, Try.ntmps30
  go_wp2
  go_ret2
  exact ⟨rfl, rfl⟩

def TRel (xs : List (Int × Int)) (M l s need : Int) (k0 : Nat) (tv lv : Value) : Prop :=
  ∃ k : Nat, k0 ≤ k ∧ s + k ≤ 1099511627776 ∧ tv = .int .i64 (s + k) ∧ lv = .int .i64 (holdF xs M s l k) ∧ ∀ i, k0 ≤ i → i < k → holdF xs M s l i < need

set_option maxHeartbeats 2000000 in
set_option maxRecDepth 100000 in
theorem take30 (g : Nat) (a : Option Addr) (ca : Nat) (xs : List (Int × Int)) (M l s at' many : Int) (k0 : Nat) (w : World) (B : Nat) (hg : Blk w g 97 (bkC a xs.length ca M l s (neverB xs))) (hx : Row2 w B a xs) (v : Valid xs)
    (hM : 0 ≤ M) (hM1 : M ≤ 1000000000000) (hl0 : 0 ≤ l) (hl1 : l ≤ M) (hs : 0 ≤ s) (hsm : s ≤ 1099511627776) (ha0 : 0 ≤ at') (ha1 : at' ≤ 1099511627776) (hm0 : 0 ≤ many) (hm1 : many ≤ M / 1000) (hk : s + k0 = max at' s) (hne : ∀ x, a = some x → x.block ≠ g) :
    Calls Try.prog 30 #[.pointer (some ⟨g, 0, none⟩), .int .i64 at', .int .i64 many] w (TakeRes g a ca xs M l s (many * 1000) k0 w) := by
  have hc := hg.cell
  have hz := hg.frozen
  have HG := Lib.hid hg
  have HX := Lib.hid hx
  have HV := Lib.hid v
  have hmax : (if at' < s then s else at') = s + k0 := (ite_max at' s).trans hk.symm
  have hk1 : s + k0 ≤ 1099511627776 := by omega
  have hneed : many * 1000 ≤ M := by omega
  have HNE := Lib.hid hne
  clear hg hx v hk hne
  go_enter Try.func30, Try.ntmps30
  go_wp2_with fail
  refine (levelAt54 g a ca xs M l s k0 w B HG.out HX.out HV.out hM hM1 hl0 hl1 hs hk1).mono ?_
  rintro e w' ⟨rfl, rfl⟩
  go_wp2_with fail
  go_loop [8, 9] (fun tv lv => TRel xs M l s (many * 1000) k0 tv lv) (fun t _ => (1099511627777 - intOf t).toNat)
  case atStart => exact ⟨k0, by omega, hk1, rfl, rfl, fun i h1 h2 => by omega⟩
  case round =>
    obtain ⟨k, hkk, hkm, rfl, rfl, hbad⟩ := hrel
    have HBAD := Lib.hid hbad
    clear hbad
    obtain ⟨rb0, rb1⟩ := HV.out.rBd (s + k)
    obtain ⟨eb0, eb1⟩ := HV.out.eBd (s + k)
    have pl := holdF_le (xs := xs) (s := s) hl1 k
    have pg := holdF_ge (xs := xs) (s := s) hM hl0 k
    by_cases hlow : holdF xs M s l k < many * 1000
    · have hr0 : 0 ≤ rAt xs (s + k) := by
        rcases Int.lt_or_le (rAt xs (s + k)) 0 with h | h
        · have : holdF xs M s l k = M := by unfold holdF; rw [if_pos h]
          omega
        · exact h
      go_wp2_with fail
      refine (rateAt55 a ca xs (s + k) _ B HX.out HV.out (by omega) (by omega)).mono ?_
      rintro e w' ⟨rfl, rfl⟩
      by_cases hr1 : rAt xs (s + k) = 0
      · obtain ⟨d, hd, hd2⟩ : ∃ d : Nat, eAt xs (s + k) = s + k + d ∧ 0 < d := ⟨(eAt xs (s + k) - (s + k)).toNat, by omega, by omega⟩
        have HB2 := Lib.hid (show ∀ i, k0 ≤ i → i < k + d → holdF xs M s l i < many * 1000 from fun i i1 i2 => by
          by_cases hik : i < k
          · exact HBAD.out i i1 hik
          · obtain ⟨j, rfl⟩ : ∃ j, i = k + j := ⟨i - k, by omega⟩
            rw [holdF_seg HV.out hl1 k j hr0 (by omega), hr1]
            omega)
        have HPE := Lib.hid (show passF xs M s l (k + d) = holdF xs M s l k by rw [passF_end HV.out hl1 k d hr0 (by omega), hr1]; omega)
        have HHE := Lib.hid (show holdF xs M s l (k + d) = if rAt xs (s + k + d) < 0 then M else passF xs M s l (k + d) by unfold holdF; rw [show s + ((k + d : Nat) : Int) = s + k + d from by omega])
        rw [hd, hr1]
        have HNV := Lib.hid (show neverB xs = true → takeNo xs M s l (many * 1000) k0 from fun h i _ _ => by
          have e1 := holdF_never (xs := xs) (s := s) hl1 h i
          have e2 := holdF_never (xs := xs) (s := s) hl1 h k
          omega)
        clear hr1 hr0 rb0 rb1 eb0 hd
        generalize holdF xs M s l k = p at *
        by_cases hMM : 1099511627776 < s + (k : Int) + d
        · have HNO := Lib.hid (show takeNo xs M s l (many * 1000) k0 from fun i i1 i2 => HB2.out i i1 (by omega))
          go_wp2_with fail
          go_ret2
          exact .inr ⟨HNO.out, rfl, rfl⟩
        · cases hnv : neverB xs
          · go_wp2_with fail
            refine (rateAt55 a ca xs (s + k + d) _ B HX.out HV.out (by omega) (by omega)).mono ?_
            rintro e w' ⟨rfl, rfl⟩
            by_cases hr : rAt xs (s + k + d) = -1
            · have hrb : (rAt xs (s + k + d) == -1) = true := beq_iff_eq.2 hr
              have HH := Lib.hid (HHE.out.trans (if_pos (by omega)))
              clear hr
              generalize rAt xs (s + k + d) = R2 at *
              generalize eAt xs (s + k + d) = E2 at *
              go_wp2_with fail
              go_round
              case rel => exact ⟨k + d, by omega, by omega, by go_num, by rw [HH.out], HB2.out⟩
              case measure => simp [intOf]; omega
            · have hrb : (rAt xs (s + k + d) == -1) = false := beq_eq_false_iff_ne.2 hr
              have hb3 := HV.out.rBd (s + k + d)
              have HH := Lib.hid ((HHE.out.trans (if_neg (by omega))).trans HPE.out)
              clear hr hb3
              generalize rAt xs (s + k + d) = R2 at *
              generalize eAt xs (s + k + d) = E2 at *
              go_wp2_with fail
              go_round
              case rel => exact ⟨k + d, by omega, by omega, by go_num, by rw [HH.out], HB2.out⟩
              case measure => simp [intOf]; omega
          · go_wp2_with fail
            go_ret2
            exact .inr ⟨HNV.out hnv, rfl, rfl⟩
      · have hr2 : 0 < rAt xs (s + k) := by omega
        obtain ⟨q0, q1, q2, q3⟩ := ceil_facts (many * 1000 - holdF xs M s l k) (rAt xs (s + k)) hr2 (by omega)
        have hnv : neverB xs = false := by
          cases h : neverB xs
          · rfl
          · have := neverB_zero h (s + k); omega
        obtain ⟨d, hd, hd2, hd3, hdQ⟩ : ∃ d : Nat, (if s + (k : Int) + (many * 1000 - holdF xs M s l k + rAt xs (s + k) - 1) / rAt xs (s + k) < eAt xs (s + k) then s + (k : Int) + (many * 1000 - holdF xs M s l k + rAt xs (s + k) - 1) / rAt xs (s + k) else eAt xs (s + k)) = s + k + d ∧ 0 < d ∧ s + k + d ≤ eAt xs (s + k) ∧ (d : Int) ≤ (many * 1000 - holdF xs M s l k + rAt xs (s + k) - 1) / rAt xs (s + k) := by
          generalize (many * 1000 - holdF xs M s l k + rAt xs (s + k) - 1) / rAt xs (s + k) = Q at *
          by_cases hlt : s + (k : Int) + Q < eAt xs (s + k)
          · exact ⟨Q.toNat, by rw [if_pos hlt]; omega, by omega, by omega, by omega⟩
          · exact ⟨(eAt xs (s + k) - (s + k)).toNat, by rw [if_neg hlt]; omega, by omega, by omega, by omega⟩
        have HB2 := Lib.hid (show ∀ i, k0 ≤ i → i < k + d → holdF xs M s l i < many * 1000 from fun i i1 i2 => by
          by_cases hik : i < k
          · exact HBAD.out i i1 hik
          · obtain ⟨j, rfl⟩ : ∃ j, i = k + j := ⟨i - k, by omega⟩
            rw [holdF_seg HV.out hl1 k j hr0 (by omega)]
            have := q3 j (by omega)
            omega)
        have HPE := Lib.hid (passF_end HV.out hl1 k d hr0 hd3)
        have HHE := Lib.hid (show holdF xs M s l (k + d) = if rAt xs (s + k + d) < 0 then M else passF xs M s l (k + d) by unfold holdF; rw [show s + ((k + d : Nat) : Int) = s + k + d from by omega])
        have hd4 : (d : Int) ≤ 86400000 := by omega
        clear hr1 q3 hr0
        generalize rAt xs (s + k) = R at *
        generalize eAt xs (s + k) = E at *
        generalize holdF xs M s l k = p at *
        have hsub : s + (k : Int) + d - (s + k) = d := by omega
        obtain ⟨g0, g1⟩ := mul_bd R d 1000000000 86400000 (by omega) rb1 (by omega) hd4
        have hmn : (if p + R * d < M then p + R * d else M) = min M (p + R * d) := ite_min _ _
        have hml : 0 ≤ min M (p + R * d) ∧ min M (p + R * d) ≤ M := by omega
        generalize min M (p + R * d) = q at *
        by_cases hMM : 1099511627776 < s + (k : Int) + d
        · have HNO := Lib.hid (show takeNo xs M s l (many * 1000) k0 from fun i i1 i2 => HB2.out i i1 (by omega))
          go_wp2_with fail
          go_ret2
          exact .inr ⟨HNO.out, rfl, rfl⟩
        · go_wp2_with fail
          refine (rateAt55 a ca xs (s + k + d) _ B HX.out HV.out (by omega) (by omega)).mono ?_
          rintro e w' ⟨rfl, rfl⟩
          by_cases hr : rAt xs (s + k + d) = -1
          · have hrb : (rAt xs (s + k + d) == -1) = true := beq_iff_eq.2 hr
            have HH := Lib.hid (HHE.out.trans (if_pos (by omega)))
            clear hr
            generalize rAt xs (s + k + d) = R2 at *
            generalize eAt xs (s + k + d) = E2 at *
            go_wp2_with fail
            go_round
            case rel => exact ⟨k + d, by omega, by omega, by go_num, by rw [HH.out], HB2.out⟩
            case measure => simp [intOf]; omega
          · have hrb : (rAt xs (s + k + d) == -1) = false := beq_eq_false_iff_ne.2 hr
            have hb3 := HV.out.rBd (s + k + d)
            have HH := Lib.hid ((HHE.out.trans (if_neg (by omega))).trans HPE.out)
            clear hr hb3
            generalize rAt xs (s + k + d) = R2 at *
            generalize eAt xs (s + k + d) = E2 at *
            go_wp2_with fail
            go_round
            case rel => exact ⟨k + d, by omega, by omega, by go_num, by rw [HH.out], HB2.out⟩
            case measure => simp [intOf]; omega
    · have HOK := Lib.hid (show takeAt xs M s l (many * 1000) k0 k from ⟨hkk, hkm, by omega, HBAD.out⟩)
      have hlf : leftF xs M s l (many * 1000) k = if rAt xs (s + k) = -1 then M else holdF xs M s l k - many * 1000 := rfl
      by_cases hr : rAt xs (s + k) = -1
      · have hrb : (rAt xs (s + k) == -1) = true := beq_iff_eq.2 hr
        have HL := Lib.hid (hlf.trans (if_pos hr))
        clear hr hlf
        generalize holdF xs M s l k = p at *
        go_wp2_with fail
        refine (rateAt55 a ca xs (s + k) _ B ((HX.out.set HNE.out).set HNE.out) HV.out (by omega) (by omega)).mono ?_
        rintro e w' ⟨rfl, rfl⟩
        generalize rAt xs (s + k) = R at *
        generalize eAt xs (s + k) = E at *
        go_wp2_with fail
        go_ret2
        refine .inl ⟨k, HOK.out, rfl, ?_, only_set (only_set (only_set (only_refl _ _) _ _) _ _) _ _⟩
        rw [HL.out]
        exact ((HG.out.set 3 _).set 2 _).set 2 _
      · have hrb : (rAt xs (s + k) == -1) = false := beq_eq_false_iff_ne.2 hr
        have HL := Lib.hid (hlf.trans (if_neg hr))
        clear hr hlf
        generalize holdF xs M s l k = p at *
        go_wp2_with fail
        refine (rateAt55 a ca xs (s + k) _ B ((HX.out.set HNE.out).set HNE.out) HV.out (by omega) (by omega)).mono ?_
        rintro e w' ⟨rfl, rfl⟩
        generalize rAt xs (s + k) = R at *
        generalize eAt xs (s + k) = E at *
        go_wp2_with fail
        go_ret2
        refine .inl ⟨k, HOK.out, rfl, ?_, only_set (only_set (only_refl _ _) _ _) _ _⟩
        rw [HL.out]
        exact (HG.out.set 3 _).set 2 _

end Go.Proofs.Ytdfloglicjocbaa
