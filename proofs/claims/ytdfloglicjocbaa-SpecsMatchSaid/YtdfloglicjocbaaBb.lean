import Derived.Test.YtdfloglicjocbaaBa
namespace Go.Proofs.Ytdfloglicjocbaa
open Go.RowKit

abbrev bkC (a : Option Addr) (len ca : Nat) (M l s : Int) (nv : Bool) : Array Value := #[.slice a len ca, .int .i64 M, .int .i64 l, .int .i64 s, .bool nv]

set_option maxHeartbeats 1000000 in
set_option maxRecDepth 100000 in
theorem levelAt54 (g : Nat) (a : Option Addr) (ca : Nat) (xs : List (Int × Int)) (M l s : Int) (n : Nat) (w : World) (B : Nat) (hg : Blk w g 97 (bkC a xs.length ca M l s (neverB xs))) (hx : Row2 w B a xs) (v : Valid xs)
    (hM : 0 ≤ M) (hM1 : M ≤ 1000000000000) (hl0 : 0 ≤ l) (hl1 : l ≤ M) (hs : 0 ≤ s) (hn : s + n ≤ 1099511627776) :
    Calls Try.prog 54 #[.pointer (some ⟨g, 0, none⟩), .int .i64 (s + n)] w fun e w' => e = .returned (.int .i64 (holdF xs M s l n)) ∧ w = w' := by
  have hc := hg.cell
  have HX := Lib.hid hx
  have HV := Lib.hid v
  clear hg hx v
  have fin : ∀ (p : Int), passF xs M s l n = p → holdF xs M s l n = if rAt xs (s + n) < 0 then M else p := by rintro p rfl; rfl
  have HFIN := Lib.hid fin
  clear fin
  obtain ⟨fb0, fb1⟩ := HV.out.rBd (s + n)
  cases hnv : neverB xs
  · go_enter Try.func54, Try.ntmps54
    go_wp2
    go_loop [5, 6] (fun lv tv => ∃ k : Nat, k ≤ n ∧ tv = .int .i64 (s + k) ∧ lv = .int .i64 (passF xs M s l k)) (fun _ i => n - (intOf i - s).toNat)
    case atStart => exact ⟨0, by omega, by simp, rfl⟩
    case round =>
      obtain ⟨k, hk, rfl, rfl⟩ := hrel
      have pl := passF_le (xs := xs) (s := s) hl1 k
      have pg := passF_ge (xs := xs) (s := s) hM hl0 k
      by_cases hlt : k < n
      · have hlt' : s + (k : Int) < s + n := by omega
        obtain ⟨rb0, rb1⟩ := HV.out.rBd (s + k)
        obtain ⟨eb0, eb1⟩ := HV.out.eBd (s + k)
        obtain ⟨d, hd, hd2, hd3, hdE⟩ : ∃ d : Nat, (if s + (n : Int) < eAt xs (s + k) then s + (n : Int) else eAt xs (s + k)) = s + k + d ∧ k + d ≤ n ∧ 0 < d ∧ s + k + d ≤ eAt xs (s + k) := by
          by_cases hlt : s + (n : Int) < eAt xs (s + k)
          · exact ⟨n - k, by rw [if_pos hlt]; omega, by omega, by omega, by omega⟩
          · exact ⟨(eAt xs (s + k) - (s + k)).toNat, by rw [if_neg hlt]; omega, by omega, by omega, by omega⟩
        have hd4 : (d : Int) ≤ 86400000 := by omega
        go_wp2_with fail
        refine (rateAt55 a ca xs (s + k) w B HX.out HV.out (by omega) (by omega)).mono ?_
        rintro e w' ⟨rfl, rfl⟩
        by_cases hr : rAt xs (s + k) = -1
        · have hrb : (rAt xs (s + k) == -1) = true := beq_iff_eq.2 hr
          have HP := Lib.hid (passF_full (xs := xs) (M := M) (s := s) (l := l) k d hd3 fun i x y => (HV.out.same (s + k) (s + i) (by omega) (by omega)).trans hr)
          clear hr
          generalize rAt xs (s + k) = R at *
          generalize eAt xs (s + k) = E at *
          generalize passF xs M s l k = p at *
          go_wp2_with fail
          go_round
          case rel => exact ⟨k + d, by omega, by go_num, by rw [HP.out]⟩
          case measure => simp [intOf]; omega
        · have hrb : (rAt xs (s + k) == -1) = false := beq_eq_false_iff_ne.2 hr
          have HP := Lib.hid (passF_seg (M := M) (s := s) (l := l) hl1 k d (rAt xs (s + k)) (by omega) fun i x y => HV.out.same (s + k) (s + i) (by omega) (by omega))
          have rb2 : 0 ≤ rAt xs (s + k) := by omega
          clear hr
          generalize rAt xs (s + k) = R at *
          generalize eAt xs (s + k) = E at *
          generalize passF xs M s l k = p at *
          have hsub : s + (k : Int) + d - (s + k) = d := by omega
          obtain ⟨g0, g1⟩ := mul_bd R d 1000000000 86400000 rb2 rb1 (by omega) hd4
          have hmn : (if p + R * d < M then p + R * d else M) = min M (p + R * d) := ite_min _ _
          generalize min M (p + R * d) = q at *
          go_wp2_with fail
          go_round
          case rel => exact ⟨k + d, by omega, by go_num, by rw [HP.out]⟩
          case measure => simp [intOf]; omega
      · obtain rfl : k = n := by omega
        have hlt' : ¬ s + (k : Int) < s + k := by omega
        have HF := Lib.hid (HFIN.out _ rfl)
        generalize passF xs M s l k = p at *
        go_wp2_with fail
        refine (rateAt55 a ca xs (s + k) w B HX.out HV.out (by omega) (by omega)).mono ?_
        rintro e w' ⟨rfl, rfl⟩
        by_cases hr : rAt xs (s + k) = -1
        · have hrb : (rAt xs (s + k) == -1) = true := beq_iff_eq.2 hr
          have HF2 := Lib.hid (HF.out.trans (if_pos (by omega)))
          clear hr
          generalize rAt xs (s + k) = R at *
          generalize eAt xs (s + k) = E at *
          go_wp2_with fail
          go_ret
          exact ⟨ret_int HF2.out.symm, rfl⟩
        · have hrb : (rAt xs (s + k) == -1) = false := beq_eq_false_iff_ne.2 hr
          have HF2 := Lib.hid (HF.out.trans (if_neg (by omega)))
          clear hr
          generalize rAt xs (s + k) = R at *
          generalize eAt xs (s + k) = E at *
          go_wp2_with fail
          go_ret
          exact ⟨ret_int HF2.out.symm, rfl⟩
  · have HF := Lib.hid (holdF_never (xs := xs) (s := s) hl1 hnv n)
    have hz : rAt xs (s + n) = 0 := neverB_zero hnv _
    go_enter Try.func54, Try.ntmps54
    go_wp2
    go_loop [5, 6] (fun lv tv => tv = .int .i64 s ∧ lv = .int .i64 l) (fun _ _ => 0)
    case atStart => exact ⟨rfl, rfl⟩
    case round =>
      obtain ⟨rfl, rfl⟩ := hrel
      by_cases hlt : s < s + n
      · go_wp2_with fail
        refine (rateAt55 a ca xs (s + n) w B HX.out HV.out (by omega) (by omega)).mono ?_
        rintro e w' ⟨rfl, rfl⟩
        generalize eAt xs (s + n) = E at *
        go_wp2_with fail
        go_ret
        exact ⟨ret_int HF.out.symm, rfl⟩
      · go_wp2_with fail
        refine (rateAt55 a ca xs (s + n) w B HX.out HV.out (by omega) (by omega)).mono ?_
        rintro e w' ⟨rfl, rfl⟩
        generalize eAt xs (s + n) = E at *
        go_wp2_with fail
        go_ret
        exact ⟨ret_int HF.out.symm, rfl⟩

end Go.Proofs.Ytdfloglicjocbaa
