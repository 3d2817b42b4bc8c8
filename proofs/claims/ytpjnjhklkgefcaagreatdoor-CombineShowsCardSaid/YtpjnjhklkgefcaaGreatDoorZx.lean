/-
  Stores side by side: pages of a sorted row of directories' infos.
-/
import Derived.Test.YtpjnjhklkgefcaaGreatDoorZu
import Derived.Test.YtpjnjhklkgefcaaGreatDoorZv
import Derived.Maps.AppendAt
import Derived.Deep.CutRange
set_option linter.unusedVariables false
set_option linter.unusedSimpArgs false
namespace Go.Proofs.YtpjnjhklkgefcaaGreatDoor
open Go.RowKit Go.Sort
def insI_ren : Go.Shelf.Ren := ⟨fun | 20 => 156 | n => n, fun | 22 => 59 | 24 => 53 | 25 => 156 | n => n, fun | n => n⟩
theorem laysInsI : Go.Proofs.SlLaysF0.n20 Tryz.prog insI_ren := {
  mixed := by kernel_rfl
  f20 := ⟨Tryz.f156.name, by decide, Tryz.func156.trans (congrArg some (by kernel_rfl))⟩
  t0 := Tryz.underlying0
  a0 := Tryz.isAgg0
  z0 := Tryz.sizeOf0
  v0 := Tryz.zeroValue0
  t3 := Tryz.underlying3
  a3 := Tryz.isAgg3
  z3 := Tryz.sizeOf3
  v3 := Tryz.zeroValue3
  t4 := Tryz.underlying4
  a4 := Tryz.isAgg4
  z4 := Tryz.sizeOf4
  v4 := Tryz.zeroValue4
  t22 := Tryz.underlying59
  a22 := Tryz.isAgg59
  z22 := Tryz.sizeOf59
  v22 := Tryz.zeroValue59
  t25 := Tryz.underlying156
  a25 := Tryz.isAgg156
  z25 := Tryz.sizeOf156
  v25 := Tryz.zeroValue156 }
theorem aggInfo (w : World) : (isAgg 53).run Tryz.prog w = .ok true w := Tryz.isAgg53 w
theorem sizeInfo (w : World) : (Go.sizeOf 53).run Tryz.prog w = .ok 7 w := Tryz.sizeOf53 w
theorem insI_ok (blk cap : Nat) (js : List Nat) (w : World) (hH : HoldsK encI 7 w blk 0 js.toArray) (hblk : blk < w.heap.size) (hsz : js.length ≤ 1000) :
    Calls Tryz.prog 156 #[.slice (some ⟨blk, 0, none⟩) js.length cap, .int .i64 0, .int .i64 js.length, .func (.func 261) #[] #[]] w fun e w' => e = .returned (.tuple #[]) ∧ IRow blk (sortC js) w' ∧ Kp [blk] w w' := by
  have h := AnyQ.insertionSortCmpFunc laysInsI 7 aggInfo sizeInfo encI (fun _ => rfl) (fun x v hv => by
    simp only [encI, List.mem_cons, List.not_mem_nil, or_false] at hv
    rcases hv with rfl | rfl | rfl | rfl | rfl | rfl | rfl <;> rfl) cfC 261 #[] blk 0 cap 0 js.toArray.size js.toArray w (enters_of Tryz.func261 (by kernel_rfl) rfl)
    (fun m os dk _ x y => cmpInfo_ok x y _) hH hblk (Nat.zero_le _) (Nat.le_refl _) (by simp; omega)
  refine h.mono ?_
  rintro e w' ⟨rfl, n, os, rfl⟩
  exact ⟨rfl, irow_sorted hH hblk, kp_sortI _⟩
set_option maxRecDepth 100000 in
set_option maxHeartbeats 4000000 in
theorem stableI_ok (blk cap : Nat) (js : List Nat) (w : World) (hH : HoldsK encI 7 w blk 0 js.toArray) (hblk : blk < w.heap.size) (hsz : js.length ≤ 8) :
    Calls Tryz.prog 120 #[.slice (some ⟨blk, 0, none⟩) js.length cap, .int .i64 js.length, .func (.func 261) #[] #[]] w fun e w' => e = .returned (.tuple #[]) ∧ IRow blk (sortC js) w' ∧ Kp [blk] w w' := by
  have HC := Lib.hid (insI_ok blk cap js w hH hblk (by omega))
  clear hH
  generalize js.length = n at *
  have h20 : ¬ (20 : Int) ≤ (n : Int) := by omega
  have h21 : ¬ (20 : Int) < (n : Int) := by omega
  go_enter Tryz.func120, Tryz.ntmps120
  go_wp2_with fail
  go_loopw [7, 8] (fun x7 x8 wr => x7 = .int .i64 0 ∧ x8 = .int .i64 20 ∧ wr = w) (fun _ _ _ => 0)
  case atStart => exact ⟨rfl, rfl, rfl⟩
  case round =>
    obtain ⟨rfl, rfl, hw⟩ := hrel
    obtain rfl : w = wr := hw.symm
    go_wp2_with (go_at_call 156; refine HC.out.mono ?_; rintro e w1 ⟨rfl, hi, hk⟩)
    have HI := Lib.hid hi
    have HK := Lib.hid hk
    clear hi hk
    go_loopw [6] (fun x6 wr => x6 = .int .i64 20 ∧ wr = w1) (fun _ _ => 0)
    case atStart => exact ⟨rfl, rfl⟩
    case round =>
      obtain ⟨rfl, hw⟩ := hrel
      obtain rfl : w1 = wr := hw.symm
      go_wp2_with fail
      go_end0
      exact ⟨rfl, HI.out, HK.out⟩
set_option maxRecDepth 100000 in
set_option maxHeartbeats 4000000 in
theorem sortStableI_ok (blk cap : Nat) (js : List Nat) (w : World) (hH : HoldsK encI 7 w blk 0 js.toArray) (hblk : blk < w.heap.size) (hsz : js.length ≤ 8) :
    Calls Tryz.prog 67 #[.slice (some ⟨blk, 0, none⟩) js.length cap, .func (.func 261) #[] #[]] w fun e w' => e = .returned (.tuple #[]) ∧ IRow blk (sortC js) w' ∧ Kp [blk] w w' := by
  have HC := Lib.hid (stableI_ok blk cap js w hH hblk hsz)
  clear hH
  generalize js.length = n at *
  go_enter Tryz.func67, Tryz.ntmps67
  go_wp2_with (go_at_call 120; refine HC.out.mono ?_; rintro e w1 ⟨rfl, hi, hk⟩)
  have HI := Lib.hid hi
  have HK := Lib.hid hk
  clear hi hk
  go_wp2_with fail
  go_end0
  exact ⟨rfl, HI.out, HK.out⟩
/-- the loop of page under way. -/
structure PgS (w1 : World) (S : List Nat) (k most i : Nat) (v : Value) (wr : World) : Prop where
  hi : i ≤ S.length
  hm : i ≤ k + most
  row : wr.ownsRow w1.heap.size 53 7 v (i - k) (flatK encI 7 ((S.drop k).take (i - k)).toArray).toList
  bel : Below w1.heap.size w1 wr
set_option maxRecDepth 100000 in
set_option maxHeartbeats 4000000 in
theorem page_ok (g cap : Nat) (js : List Nat) (mark : ByteArray) (k m : Nat) (w : World) (hH : HoldsK encI 7 w g 0 js.toArray) (hg : g < w.heap.size) (hn : js.length ≤ 8) (hk : k ≤ js.length) (hms : m ≤ 8) (hmk : MarkAt (sortC js) k mark) (hmz : mark.size ≤ 1000) :
    Calls Tryz.prog 256 #[.slice (some ⟨g, 0, none⟩) js.length cap, .string mark, .int .i64 ((m : Int) + 1)] w fun e w' => ∃ v, e = .returned (.tuple #[v, .string (if k + m + 1 < js.length then nmD ((sortC js)[k + m]?.getD 0) else ⟨#[]⟩)]) ∧ Kp [g] w w' ∧ w'.ownsRow w.heap.size 53 7 v (((sortC js).drop k).take (m + 1)).length (flatK encI 7 (((sortC js).drop k).take (m + 1)).toArray).toList := by
  have HC := Lib.hid (sortStableI_ok g cap js w hH hg hn)
  have hl : (sortC js).length = js.length := (sortC_ok js).1.length_eq
  have HL := Lib.hid hl
  have HMK := Lib.hid hmk
  clear hH hmk
  generalize sortC js = S at *
  rw [← hl] at hn hk HC ⊢
  clear hl HL
  obtain ⟨n, hN⟩ : ∃ n, S.length = n := ⟨_, rfl⟩
  have HN := Lib.hid hN
  rw [hN] at hn hk HC ⊢
  clear hN
  obtain ⟨i0, hi, hz0, hz1, hz2⟩ := info_parts infoI7
  obtain ⟨nx, hnx⟩ : ∃ nx, (if k + m + 1 < n then nmD (S[k + m]?.getD 0) else (⟨#[]⟩ : ByteArray)) = nx := ⟨_, rfl⟩
  obtain ⟨lst, hlst⟩ : ∃ lst, (S.drop k).take (m + 1) = lst := ⟨_, rfl⟩
  rw [hnx, hlst]
  have HNX := Lib.hid hnx
  have HLST := Lib.hid hlst
  clear hnx hlst
  go_enter Tryz.func256, Tryz.ntmps256
  go_wp2_with (go_at_call 67; refine HC.out.mono ?_; rintro e w1 ⟨rfl, hir, hk1⟩)
  have HI := Lib.hid hir
  have HK1 := Lib.hid hk1
  have HSZ := Lib.hid hk1.size
  clear hir hk1 HC
  go_wp2_with fail
  go_loopw [8, 15] (fun v x wr => ∃ i : Nat, x = .int .i64 (i : Int) ∧ PgS w1 S k (m + 1) i v wr) (fun _ x _ => n - (intOf x).toNat)
  case atStart => exact ⟨0, rfl, Nat.zero_le _, by omega, by simpa [flatK] using World.ownsRow_nil w1 w1.heap.size 53 7, Below.refl _ _⟩
  case round =>
    obtain ⟨i, rfl, hS⟩ := hrel
    have HS := Lib.hid hS
    clear hS
    have hin : i ≤ n := by have := HS.out.hi; rw [HN.out] at this; exact this
    obtain ⟨ra, rc, hrv⟩ := own_slice HS.out.row
    obtain ⟨cnt, hcnt⟩ : ∃ cnt, i - k = cnt := ⟨_, rfl⟩
    have HCN := Lib.hid hcnt
    have hrow := HS.out.row
    rw [hcnt] at hrv hrow
    subst hrv
    have HROW := Lib.hid hrow
    clear hcnt hrow
    by_cases hlt : i < n
    · have hd : decide ((i : Int) < (n : Int)) = true := decide_eq_true (by omega)
      obtain ⟨x, hx⟩ : ∃ x, S[i]? = some x := ⟨_, List.getElem?_eq_getElem (by rw [HN.out]; exact hlt)⟩
      have HX := Lib.hid hx
      obtain ⟨c0, c1, c2, c3, c4, c5, c6⟩ := (HI.out.below HS.out.bel).2 i x hx
      have hsx := nmD_size' x
      have CL := Lib.hid (fun w => lastName_ok (nmD x) w (by omega) (nmD_last' x))
      have HUP := Lib.hid (show (mark.toList.isEmpty = true ∧ k = 0) ∨ (mark.toList.isEmpty = false ∧ (Op.bytesLess (nmD x).toList mark.toList || (nmD x).toList == mark.toList) = decide (i < k)) from by
        rcases HMK.out with h | ⟨h1, h2⟩
        · exact Or.inl h
        · exact Or.inr ⟨h1, h2 i x hx⟩)
      clear hx
      obtain ⟨sx, hsxn⟩ : ∃ sx, nmD x = sx := ⟨_, rfl⟩
      have HSX := Lib.hid hsxn
      rw [hsxn] at c0 hsx CL HUP
      clear hsxn
      go_upto_region 6 with (fail)
      have HB := Lib.hid (HS.out.bel.alloc HS.out.bel.size (.cells #[.string sx, .bool true, .int .i64 0, .int .i64 0, .slice none 0 0, .slice none 0 0, .string ⟨#[]⟩] 53))
      have HXB := Lib.hid (Blk.new wr 53 #[.string sx, .bool true, .int .i64 0, .int .i64 0, .slice none 0 0, .slice none 0 0, .string ⟨#[]⟩])
      have HRW := Lib.hid (HROW.out.alloc (.cells #[.string sx, .bool true, .int .i64 0, .int .i64 0, .slice none 0 0, .slice none 0 0, .string ⟨#[]⟩] 53))
      have HIM := Lib.hid HS.out.hm
      clear c0 c1 c2 c3 c4 c5 c6 HS HROW
      generalize (wr.alloc (.cells #[.string sx, .bool true, .int .i64 0, .int .i64 0, .slice none 0 0, .slice none 0 0, .string ⟨#[]⟩] 53)) = w2 at *
      generalize wr.heap.size = xb at *
      have xb0 : w2.cell? ⟨xb, 0, none⟩ = some (.string sx) := HXB.out.cell 0
      go_cut [27] from 19 to 27 (fun u wx => u = .bool (decide (i < k)) ∧ wx = w2)
      case first =>
        rcases HUP.out with ⟨me, hk0⟩ | ⟨me, hup⟩
        · go_wp2_with fail
          go_meet
          exact ⟨by rw [decide_eq_false (by omega)], rfl⟩
        · go_wp2_with fail
          refine (CL.out _).mono ?_
          rintro e w3 ⟨rfl, rfl⟩
          go_wp2_with fail
          go_meet
          exact ⟨rfl, rfl⟩
      case rest =>
        obtain ⟨rfl, hwc⟩ := hcut
        obtain rfl : w2 = wc := hwc.symm
        clear HUP CL
        by_cases hik : i < k
        · have hdk : decide (i < k) = true := decide_eq_true hik
          go_wp2_with fail
          go_roundw
          case rel => exact ⟨i + 1, by go_num, by rw [HN.out]; omega, by omega, by have e : i + 1 - k = cnt := (by have := HCN.out; omega); rw [e]; exact HRW.out, HB.out⟩
          case measure => simp [intOf]; omega
        · have hdk : decide (i < k) = false := decide_eq_false hik
          have hcm : cnt ≤ m + 1 := by have := HCN.out; have := HIM.out; omega
          have HIK2 := Lib.hid (show i = k + cnt from by have := HCN.out; omega)
          by_cases hce : cnt = m + 1
          · have hdc : decide ((cnt : Int) = (m : Int) + 1) = true := decide_eq_true (by omega)
            have hrow := HRW.out
            rcases hrow.2 with ⟨h, h0⟩ | ⟨gg, cp, cur, h, _, _⟩
            · omega
            · simp only [Value.slice.injEq, true_and] at h
              obtain ⟨rfl, rfl⟩ := h
              obtain ⟨y, hy⟩ : ∃ y, S[k + m]? = some y := ⟨_, List.getElem?_eq_getElem (by have := HIK2.out; rw [HN.out]; omega)⟩
              have hly : ((S.drop k).take cnt)[m]? = some y := by
                rw [List.getElem?_take_of_lt (by omega), List.getElem?_drop, hy]
              have cy := hrow.cellAt (m * 7) (by omega)
              rw [flatI_cell hly] at cy
              have hsy := nmD_size' y
              have CY := Lib.hid (fun w => lastName_ok (nmD y) w (by omega) (nmD_last' y))
              have HY := Lib.hid hy
              clear hy hly
              obtain ⟨sy, hsyn⟩ : ∃ sy, nmD y = sy := ⟨_, rfl⟩
              have HSY := Lib.hid hsyn
              rw [hsyn] at cy hsy CY
              clear hsyn hrow
              have hs1 : (m : Int) + 1 - 1 = (m : Int) := by omega
              have hmc : (m : Int) < (cnt : Int) := by omega
              have hmc2 : m < cnt := by omega
              have HCE := Lib.hid hce
              clear hce
              go_wp2_with fail
              refine (CY.out _).mono ?_
              rintro e w3 ⟨rfl, rfl⟩
              go_wp2_with fail
              go_ret2
              refine ⟨.slice (some ⟨gg, 0, none⟩) cnt rc, ?_, HK1.out.trans ((Kp.of_below HB.out : Kp [g] w1 _)), ?_⟩
              · have h2 := HIK2.out
                have h3 := HCE.out
                have hif := HNX.out
                rw [if_pos (by omega), HY.out, Option.getD_some, HSY.out] at hif
                rw [← hif]
                rfl
              · have h2 := HIK2.out
                have h3 := HCE.out
                have e1 : ((S.drop k).take (m + 1)).length = cnt := by rw [List.length_take, List.length_drop, HN.out]; omega
                rw [← HLST.out, e1, ← h3]
                exact own_mono HRW.out HSZ.out
          · have hdc : decide ((cnt : Int) = (m : Int) + 1) = false := decide_eq_false (by omega)
            have xb1 := HXB.out.cell 1
            have xb2 := HXB.out.cell 2
            have xb3 := HXB.out.cell 3
            have xb4 := HXB.out.cell 4
            have xb5 := HXB.out.cell 5
            have xb6 := HXB.out.cell 6
            simp at xb1 xb2 xb3 xb4 xb5 xb6
            go_wp2_with (first
              | (at_builtin; refine wpList_append_own_at _ rfl _ _ 59 rfl w1.heap.size 53 i0 (.agg #[.string ⟨#[]⟩, .bool false, .int .i64 0, .int .i64 0, .slice none 0 0, .slice none 0 0, .string ⟨#[]⟩]) 7 104 Tryz.underlying59 hi hz0 hz1 hz2 rfl (by decide) _ _ _ rfl (HRW.out.alloc _) ⟨w2.heap.size, 0, none⟩ 1 1 [.string sx, .bool true, .int .i64 0, .int .i64 0, .slice none 0 0, .slice none 0 0, .string ⟨#[]⟩] rfl rfl (seven_new w2 _ _ _ _ _ _ _ _) (by simp [Value.oneCell']) (by simp only [maxLen]; omega) (by omega) (by have := HB.out.size; simp; omega) ?_; intro v' w5 hown5 hgrow hnil hat)
              | go_in)
            have hB4 := HB.out.alloc HB.out.size (.cells #[.string sx, .bool true, .int .i64 0, .int .i64 0, .slice none 0 0, .slice none 0 0, .string ⟨#[]⟩] 53)
            have HB5 := Lib.hid (hB4.grown hgrow hB4.size (fun j hj => (HRW.out.lt j hj).1))
            have HOW := Lib.hid hown5
            clear hown5 hgrow hnil hat hB4
            go_wp2_with fail
            go_roundw
            case rel =>
              refine ⟨i + 1, by go_num, by rw [HN.out]; omega, by have := HIK2.out; omega, ?_, HB5.out⟩
              have e1 : (S.drop k).take (cnt + 1) = (S.drop k).take cnt ++ [x] := by
                refine takeN1 ?_
                rw [List.getElem?_drop, ← HIK2.out]
                exact HX.out
              have e2 : (flatK encI 7 ((S.drop k).take (cnt + 1)).toArray).toList = (flatK encI 7 ((S.drop k).take cnt).toArray).toList ++ encI x := by
                rw [e1, ← flatI_push]
                simp
              have e3 : i + 1 - k = cnt + 1 := by have := HIK2.out; omega
              rw [e3, e2]
              have e4 : encI x = [.string sx, .bool true, .int .i64 0, .int .i64 0, .slice none 0 0, .slice none 0 0, .string ⟨#[]⟩] := by rw [← HSX.out]; rfl
              rw [e4]
              exact HOW.out
            case measure => simp [intOf]; omega
    · obtain rfl : i = n := by omega
      have hd : decide ((i : Int) < (i : Int)) = false := decide_eq_false (by omega)
      have HIM := Lib.hid HS.out.hm
      have HB := Lib.hid HS.out.bel
      clear HS
      go_wp2_with fail
      go_ret2
      have hc1 := HCN.out
      have hc2 := HIM.out
      refine ⟨.slice ra cnt rc, ?_, HK1.out.trans ((Kp.of_below HB.out : Kp [g] w1 _)), ?_⟩
      · have hif := HNX.out
        rw [if_neg (by omega)] at hif
        rw [← hif]
        rfl
      · have e1 : (S.drop k).take (m + 1) = (S.drop k).take cnt := by
          rw [List.take_of_length_le (by rw [List.length_drop, HN.out]; omega), List.take_of_length_le (by rw [List.length_drop, HN.out]; omega)]
        have e2 : ((S.drop k).take cnt).length = cnt := by rw [List.length_take, List.length_drop, HN.out]; omega
        rw [← HLST.out, e1, e2]
        exact own_mono HROW.out HSZ.out
end Go.Proofs.YtpjnjhklkgefcaaGreatDoor

/-
  Stores side by side: Combine.
-/
set_option linter.unusedVariables false
set_option linter.unusedSimpArgs false
namespace Go.Proofs.YtpjnjhklkgefcaaGreatDoor
open Go.RowKit Go.Proofs.Zl
theorem nmC_ne : ∀ j, j < 8 → (nmC j).toList.isEmpty = false :=
  all8 (by rw [Lib.toList_data]; decide) (by rw [Lib.toList_data]; decide) (by rw [Lib.toList_data]; decide) (by rw [Lib.toList_data]; decide) (by rw [Lib.toList_data]; decide) (by rw [Lib.toList_data]; decide) (by rw [Lib.toList_data]; decide) (by rw [Lib.toList_data]; decide)
theorem nmC_slash : ∀ j, j < 8 → hasB (nmC j) 47 = (j == 6) :=
  all8 (by decide) (by decide) (by decide) (by decide) (by decide) (by decide) (by decide) (by decide)
theorem nmC_split : ∀ j, j < 8 → j ≠ 6 → splitL (nmC j) = [nmC j] :=
  all8 (fun _ => by decide) (fun _ => by decide) (fun _ => by decide) (fun _ => by decide) (fun _ => by decide) (fun _ => by decide) (fun h => absurd rfl h) (fun _ => by decide)
theorem nmC_size : ∀ j, j < 8 → (nmC j).size ≤ 3 :=
  all8 (by decide) (by decide) (by decide) (by decide) (by decide) (by decide) (by decide) (by decide)
theorem nmC_path (j : Nat) (hj : j < 8) (h6 : j ≠ 6) : pathB (nmC j) = !badJ j := by
  have h := nmC_name j hj
  have hz : (nmC j).size ≤ 1024 := by have := nmC_size j hj; omega
  unfold pathB
  rw [nmC_ne j hj, nmC_split j hj h6]
  simp [h, hz]
/-- whether a name is none. -/
theorem nmC_bad (j : Nat) (hj : j < 8) : badJ j = (!(!(nmC j).toList.isEmpty && !hasB (nmC j) 47) || (if pathB (nmC j) = true then (0 : Int) else 1) != 0) := by
  rw [nmC_ne j hj, nmC_slash j hj]
  by_cases h6 : j = 6
  · subst h6; rfl
  · rw [nmC_path j hj h6, show (j == 6) = false from beq_eq_false_iff_ne.2 h6]
    cases badJ j <;> rfl
theorem cell_old {w : World} {o : Obj} {p : Addr} {v : Value} (h : w.cell? p = some v) : (w.alloc o).cell? p = some v :=
  (((Below.refl w.heap.size w).alloc (Nat.le_refl _) o).cell (p := p) (World.block_lt_of_cell? _ _ h)).trans h
theorem infoStoreI : (Tryz.prog.info? 39).map (fun i => (i.zero, i.size, i.bytes)) = some (some .nilIface, 1, 16) := by kernel_rfl
theorem one_new (w : World) (t : TypeId) (a : Value) : ∀ j u, [a][j]? = some u → (w.alloc (.cells #[a] t)).cell? ((⟨w.heap.size, 0, none⟩ : Addr).add j) = some u := by
  intro j u h
  have hadd : (⟨w.heap.size, 0, none⟩ : Addr).add j = ⟨w.heap.size, j, none⟩ := by unfold Addr.add; split <;> simp_all
  rw [hadd, (Blk.new w t #[a]).cell j]
  simpa using h
/-- the loop of Combine under way. -/
structure CbS (w : World) (js : List Nat) (rs : List MR) (i : Nat) (v : Value) (wr : World) : Prop where
  ok : wantR 0 (js.take i).reverse = 0
  row : wr.ownsRow w.heap.size 39 1 v i ((rs.take i).map fun r => stV r.q.m)
  bel : Below w.heap.size w wr
/-- what Combine hands back. -/
def CbPost (js : List Nat) (rs : List MR) (w : World) (e : Ending) (w' : World) : Prop :=
  Below w.heap.size w w' ∧ ((wantR (cntC js.length) js.reverse ≠ 0 ∧ e = .returned (.tuple #[.nilIface, .int .i64 (wantR (cntC js.length) js.reverse)])) ∨ (wantR (cntC js.length) js.reverse = 0 ∧ ∃ cb ra rc h s p pg, e = .returned (.tuple #[.iface 110 (pt cb), .int .i64 0]) ∧ Blk w' cb 115 (tC h s p pg 1 ++ #[.slice ra js.length rc]) ∧ MRow ra (msOf js rs) w' ∧ (∀ g', ra = some g' → w.heap.size ≤ g'.block) ∧ w.heap.size ≤ cb ∧ 1 ≤ pg ∧ pg ≤ 4))
theorem cbPost_bad {js : List Nat} {rs : List MR} {w w' : World} {E : Int} (hb : Below w.heap.size w w') (h : wantR (cntC js.length) js.reverse = E) (h0 : E ≠ 0) : CbPost js rs w (.returned (.tuple #[.nilIface, .int .i64 E])) w' :=
  ⟨hb, Or.inl ⟨by rw [h]; exact h0, by rw [h]⟩⟩
set_option maxRecDepth 100000 in
set_option maxHeartbeats 8000000 in
theorem combine_ok (a : Option Addr) (cap : Nat) (js : List Nat) (rs : List MR) (w : World) (g : Gl w) (hlen : js.length = rs.length) (h8 : ∀ j ∈ js, j < 8) (hn : js.length ≤ 10) (hcap : js.length ≤ cap) (hr : MRow a (msOf js rs) w) (hm : Mems w rs) (hno : ∀ r ∈ rs, bits .andNot .i64 r.f.has 1024 = r.f.has) :
    Calls Tryz.prog 15 #[.slice a js.length cap] w (CbPost js rs w) := by
  obtain ⟨n, hN⟩ : ∃ n, js.length = n := ⟨_, rfl⟩
  by_cases h0 : n = 0
  · have hE : wantR (cntC js.length) js.reverse = 21 := by rw [hN, h0]; exact wantR_keep (by decide) _
    have HE := Lib.hid hE
    rw [hN, h0]
    clear hE hm hno hr g
    go_enter Tryz.func15, Tryz.ntmps15
    go_wp2_with fail
    go_ret2
    exact cbPost_bad (Below.refl _ _) HE.out (by decide)
  by_cases h9 : 8 < n
  · have hE : wantR (cntC js.length) js.reverse = 8 := by
      have h1 : cntC js.length = 8 := by unfold cntC; rw [if_pos (by omega)]
      rw [h1]; exact wantR_keep (by decide) _
    have HE := Lib.hid hE
    rw [hN]
    have hz1 : ¬ ((n : Int) = 0) := by omega
    have hz2 : (8 : Int) < (n : Int) := by omega
    clear hE hm hno hr g
    go_enter Tryz.func15, Tryz.ntmps15
    go_wp2_with fail
    go_ret2
    exact cbPost_bad (Below.refl _ _) HE.out (by decide)
  have hc0 : cntC js.length = 0 := by unfold cntC; rw [if_neg (by omega), if_neg (by omega)]
  have HC0 := Lib.hid hc0
  have HN := Lib.hid hN
  have HLN := Lib.hid hlen
  have H8 := Lib.hid h8
  have HM := Lib.hid (fun (wx : World) (hb : Below w.heap.size w wx) => hm.below hb)
  have HR := Lib.hid (fun (wx : World) (hb : Below w.heap.size w wx) => hr.below hb)
  have HNO := Lib.hid hno
  have GG := Lib.hid (fun (wx : World) (hb : Below w.heap.size w wx) => g.below hb)
  have HML := Lib.hid (msOf_len (js := js) hlen)
  rw [hN] at hn hcap ⊢
  have hz1 : ¬ ((n : Int) = 0) := by omega
  have hz2 : ¬ (8 : Int) < (n : Int) := by omega
  obtain ⟨i0, hi, hi0, hi1, hi2⟩ := info_parts infoStoreI
  clear hN hlen h8 hm hr hno g hc0
  go_enter Tryz.func15, Tryz.ntmps15
  go_wp2_with fail
  go_loopw [4, 16] (fun v x wr => ∃ i : Nat, x = .int .i64 (i : Int) ∧ i ≤ n ∧ CbS w js rs i v wr) (fun _ x _ => n - (intOf x).toNat)
  case atStart => exact ⟨0, rfl, Nat.zero_le _, rfl, by simpa using World.ownsRow_nil w w.heap.size 39 1, Below.refl _ _⟩
  case round =>
    clear hz1 hz2
    obtain ⟨i, rfl, hin, hS⟩ := hrel
    have HS := Lib.hid hS
    clear hS
    by_cases hlt : i < n
    · have hd : decide ((i : Int) < (n : Int)) = true := decide_eq_true (by omega)
      obtain ⟨ra, rc, hrv⟩ := own_slice HS.out.row
      have hrow := HS.out.row
      subst hrv
      have HROW := Lib.hid hrow
      clear hrow
      obtain ⟨j, hj⟩ : ∃ j, js[i]? = some j := ⟨_, List.getElem?_eq_getElem (by rw [HN.out]; exact hlt)⟩
      obtain ⟨r, hrr⟩ : ∃ r, rs[i]? = some r := ⟨_, List.getElem?_eq_getElem (by rw [← HLN.out, HN.out]; exact hlt)⟩
      have HJ := Lib.hid hj
      have HRR := Lib.hid hrr
      have hj8 : j < 8 := H8.out j (List.mem_of_getElem? hj)
      have hmsg := msOf_get hj hrr
      rcases HR.out wr HS.out.bel with hnil | ⟨gb, rfl, hgl, hcell⟩
      · rw [hnil] at hmsg; simp at hmsg
      · obtain ⟨c1, c2⟩ := hcell i _ hmsg
        simp only at c1 c2
        have hsz := nmC_size j hj8
        have CO := Lib.hid (fun w => oneName_ok (nmC j) w)
        have CK := Lib.hid (fun (wx : World) (hb : Below w.heap.size w wx) => check_any (nmC j) wx (GG.out wx hb) (by omega))
        have HBJ := Lib.hid (nmC_bad j hj8)
        have CT := Lib.hid (show ∀ (wx : World) (mb : Nat), Below w.heap.size w wx → Blk wx mb 41 #[.string (nmC j), stV r.q.m] → Calls Tryz.prog 40 #[.slice (some ⟨gb, 0, none⟩) i cap, .func (.func 41) #[] #[pt mb]] wx fun e w' => e = .returned (.bool ((js.take i).any (fun x => eqJ x j))) ∧ Below wx.heap.size wx w' from by
          intro wx mb hb hbk
          have hlt2 : (js.take i).length = (rs.take i).length := by rw [List.length_take, List.length_take, HLN.out]
          have h1 := twiceMem_ok (some ⟨gb, 0, none⟩) cap mb ((msOf js rs).take i) (nmC j) (stV r.q.m) wx ((HR.out wx hb).take i) hbk (fun s hs => by
            obtain ⟨j', hj', e⟩ := msOf_small s (List.mem_of_mem_take hs)
            rw [e]
            have := nmC_size j' (H8.out j' hj')
            omega) (by rw [List.length_take]; omega) (by omega)
          have h2 : ((msOf js rs).take i).length = i := by rw [List.length_take, HML.out, HN.out]; omega
          rw [h2, msOf_take, msOf_any hlt2 (fun x hx => H8.out x (List.mem_of_mem_take hx)) hj8] at h1
          exact h1)
        have HW1 := Lib.hid (wantR_step 0 hj)
        rw [HS.out.ok] at HW1
        obtain ⟨tw, htw⟩ : ∃ tw, (js.take i).any (fun x => eqJ x j) = tw := ⟨_, rfl⟩
        rw [htw] at CT HW1
        obtain ⟨bj, hbj⟩ : ∃ bj, badJ j = bj := ⟨_, rfl⟩
        rw [hbj] at HBJ HW1
        obtain ⟨nj, hnj⟩ : ∃ nj, nmC j = nj := ⟨_, rfl⟩
        rw [hnj] at c1 CO CK HBJ CT
        obtain ⟨ob, hob⟩ : ∃ ob, (!nj.toList.isEmpty && !hasB nj 47) = ob := ⟨_, rfl⟩
        rw [hob] at CO HBJ
        obtain ⟨ev, hev⟩ : ∃ ev : Int, (if pathB nj = true then (0 : Int) else 1) = ev := ⟨_, rfl⟩
        rw [hev] at CK HBJ
        clear htw hbj hnj hob hev hcell hmsg hj hrr hsz hj8
        obtain ⟨m, hm⟩ : ∃ m, r.q.m = m := ⟨_, rfl⟩
        rw [hm] at c2 CT
        have HMM := Lib.hid hm
        clear hm
        go_upto_region 9 with (fail)
        have HB := Lib.hid (HS.out.bel.alloc HS.out.bel.size (.cells #[.string nj, stV m] 41))
        have HXB := Lib.hid (Blk.new wr 41 #[.string nj, stV m])
        have HRW := Lib.hid (HROW.out.alloc (.cells #[.string nj, stV m] 41))
        clear c1 c2 HROW
        generalize (wr.alloc (.cells #[.string nj, stV m] 41)) = w2 at *
        generalize wr.heap.size = xb at *
        have x0 : w2.cell? ⟨xb, 0, none⟩ = some (.string nj) := HXB.out.cell 0
        go_cut [30] from 21 to 30 (fun u wx => u = .bool bj ∧ Below w2.heap.size w2 wx)
        case first =>
          cases ob
          · go_wp2_with fail
            refine (CO.out _).mono ?_
            rintro e w3 ⟨rfl, rfl⟩
            go_wp2_with fail
            go_meet
            exact ⟨by rw [HBJ.out]; rfl, Below.refl _ _⟩
          · go_wp2_with fail
            refine (CO.out _).mono ?_
            rintro e w3 ⟨rfl, rfl⟩
            go_wp2_with fail
            refine (CK.out _ HB.out).mono ?_
            rintro e w4 ⟨rfl, hb4⟩
            have HB4 := Lib.hid hb4
            clear hb4
            go_wp2_with fail
            go_meet
            exact ⟨by rw [HBJ.out]; rfl, HB4.out⟩
        case rest =>
          obtain ⟨rfl, hb3⟩ := hcut
          have HB3 := Lib.hid (HB.out.trans (hb3.mono HB.out.size))
          have HX3 := Lib.hid (HXB.out.below hb3 HXB.out.lt)
          have HR3 := Lib.hid (own_belC HRW.out hb3)
          clear hb3 HB HXB HRW x0 HBJ CO CK
          generalize wc = w3 at *
          cases bj
          · cases tw
            · have x1 : w3.cell? ⟨xb, 1, none⟩ = some (stV m) := HX3.out.cell 1
              have hic : (i : Int) ≤ (cap : Int) := by omega
              have hic2 : i ≤ cap := by omega
              go_wp2_with fail
              refine (CT.out _ xb HB3.out HX3.out).mono ?_
              rintro e w4 ⟨rfl, hb4⟩
              have HB4 := Lib.hid (HB3.out.trans (hb4.mono HB3.out.size))
              have HX4 := Lib.hid (HX3.out.below hb4 HX3.out.lt)
              have HR4 := Lib.hid (own_belC HR3.out hb4)
              clear hb4 HX3 HR3 HB3 x1 CT
              have x1 : w4.cell? ⟨xb, 1, none⟩ = some (stV m) := HX4.out.cell 1
              go_wp2_with (first
                | (at_builtin; refine wpList_append_own_at _ rfl _ _ 68 rfl w.heap.size 39 i0 .nilIface 1 16 Tryz.underlying68 hi hi0 hi1 hi2 rfl (by decide) _ _ _ rfl (HR4.out.alloc _) ⟨w4.heap.size, 0, none⟩ 1 1 [stV m] rfl rfl (one_new w4 _ _) (by simp [Value.oneCell']) (by simp only [maxLen]; omega) (by omega) (by have := HB4.out.size; simp; omega) ?_; intro v' w5 hown5 hgrow hnil hat)
                | go_in)
              have hB5 := HB4.out.alloc HB4.out.size (.cells #[stV m] 39)
              have HB5 := Lib.hid (hB5.grown hgrow hB5.size (fun k hk => (HR4.out.lt k hk).1))
              have HOW := Lib.hid hown5
              clear hown5 hgrow hnil hat hB5
              go_wp2_with fail
              go_roundw
              case rel =>
                refine ⟨i + 1, by go_num, by omega, by rw [HW1.out]; rfl, ?_, HB5.out⟩
                have e1 : (rs.take (i + 1)).map (fun r => stV r.q.m) = (rs.take i).map (fun r => stV r.q.m) ++ [stV m] := by
                  rw [takeG_snoc HRR.out, List.map_append, List.map_singleton, HMM.out]
                rw [e1]
                exact HOW.out
              case measure => simp [intOf]; omega
            · have hic : (i : Int) ≤ (cap : Int) := by omega
              have hic2 : i ≤ cap := by omega
              have HE := Lib.hid (show wantR (cntC js.length) js.reverse = 4 from by
                have h1 : wantR 0 (js.take (i + 1)).reverse = 4 := by rw [HW1.out]; rfl
                rw [HC0.out, wantR_pre js (i + 1) (by rw [h1]; decide), h1])
              go_wp2_with fail
              refine (CT.out _ xb HB3.out HX3.out).mono ?_
              rintro e w4 ⟨rfl, hb4⟩
              have HB4 := Lib.hid (HB3.out.trans (hb4.mono HB3.out.size))
              clear hb4
              go_wp2_with fail
              go_ret2
              exact cbPost_bad HB4.out HE.out (by decide)
          · have HE := Lib.hid (show wantR (cntC js.length) js.reverse = 2 from by
              have h1 : wantR 0 (js.take (i + 1)).reverse = 2 := by rw [HW1.out]; rfl
              rw [HC0.out, wantR_pre js (i + 1) (by rw [h1]; decide), h1])
            go_wp2_with fail
            go_ret2
            exact cbPost_bad HB3.out HE.out (by decide)
    · obtain rfl : i = n := by omega
      have hd : decide ((i : Int) < (i : Int)) = false := decide_eq_false (by omega)
      have HW0 := Lib.hid (show wantR (cntC js.length) js.reverse = 0 from by
        have h1 := HS.out.ok
        rw [List.take_of_length_le (by rw [HN.out]; exact Nat.le_refl _)] at h1
        rw [HC0.out, h1])
      have hrow := HS.out.row
      rcases hrow.2 with ⟨_, h1⟩ | ⟨sb, cp, cur, rfl, hsb, hcur, _⟩
      · omega
      · have hsl : sb < wr.heap.size := (Array.getElem?_eq_some_iff.1 hcur).1
        have hfl : (rs.map (fun r => (r.q.m, r.f))).length = i := by rw [List.length_map, ← HLN.out, HN.out]
        have CT0 := together_ok sb cp (rs.map (fun r => (r.q.m, r.f))) wr (by omega) (by omega) hsl
          (fun k x hx => by
            rw [List.getElem?_map] at hx
            obtain ⟨r, hrr, e⟩ := Option.map_eq_some_iff.1 hx
            have hk : k < i := by
              have := (List.getElem?_eq_some_iff.1 hrr).1
              rw [← HLN.out, HN.out] at this
              exact this
            have hc := hrow.cellAt k (by omega)
            rw [hc, List.getElem?_map, List.getElem?_take_of_lt hk, hrr, ← e]
            rfl)
          (fun x hx => by
            obtain ⟨r, hrr, e⟩ := List.mem_map.1 hx
            rw [← e]
            exact ((HM.out wr HS.out.bel).ok r hrr).ft.tog)
          (fun x hx wx hb => by
            obtain ⟨r, hrr, e⟩ := List.mem_map.1 hx
            rw [← e]
            exact memFeatures_x wx (((HM.out wr HS.out.bel).ok r hrr).below hb).x)
          (fun x hx wx hb => by
            obtain ⟨r, hrr, e⟩ := List.mem_map.1 hx
            rw [← e]
            exact featuresG_ok r.f.has r.f.sums r.f.prec r.f.mname r.f.mpath r.f.msize r.f.page r.f.psize r.f.forbid r.q.m wx (HNO.out r hrr) ⟨_, _, _, _, _, _, _, _, _, _, _, (((HM.out wr HS.out.bel).ok r hrr).below hb).x.hm⟩)
        rw [hfl] at CT0
        have CTG := Lib.hid CT0
        have HB := Lib.hid HS.out.bel
        clear CT0 hrow hcur hfl hi hi0 hi1 hi2 HS
        go_wp2_with fail
        refine CTG.out.mono ?_
        rintro e w5 ⟨h, s, p, pg, rfl, hp1, hp2, hb5⟩
        have HB5 := Lib.hid (HB.out.trans (hb5.mono HB.out.size))
        clear hb5 CTG
        go_upto_region 18 with (fail)
        have HX6 := Lib.hid (Blk.new w5 33 (tC h s p pg 1))
        have HB6 := Lib.hid (HB5.out.alloc HB5.out.size (.cells (tC h s p pg 1) 33))
        have HLO := Lib.hid HB5.out.size
        clear HB5
        generalize (w5.alloc (.cells (tC h s p pg 1) 33)) = w6 at *
        generalize w5.heap.size = fb at *
        have a0 : w6.cell? ⟨fb, 0, none⟩ = some (.int .i64 h) := HX6.out.cell 0
        have g0 := HX6.out.frozen 0
        obtain ⟨h', hh'⟩ : ∃ x, bits .andNot .i64 h 128 = x := ⟨_, rfl⟩
        go_upto_region 19 with (fail)
        have HX7 := Lib.hid (show Blk (w6.setCell ⟨fb, 0, none⟩ (.int .i64 h')) fb 33 (tC h' s p pg 1) from HX6.out.set 0 (.int .i64 h'))
        have HB7 := Lib.hid (HB6.out.setCell (p := ⟨fb, 0, none⟩) HLO.out (.int .i64 h'))
        clear HX6 HB6 a0 g0 hh'
        generalize (w6.setCell ⟨fb, 0, none⟩ (.int .i64 h')) = w7 at *
        have y0 : w7.cell? ⟨fb, 0, none⟩ = some (.int .i64 h') := HX7.out.cell 0
        have y1 : w7.cell? ⟨fb, 1, none⟩ = some (.int .i64 s) := HX7.out.cell 1
        have y2 : w7.cell? ⟨fb, 2, none⟩ = some (.int .i64 p) := HX7.out.cell 2
        have y3 : w7.cell? ⟨fb, 3, none⟩ = some (.int .i64 255) := HX7.out.cell 3
        have y4 : w7.cell? ⟨fb, 4, none⟩ = some (.int .i64 1024) := HX7.out.cell 4
        have y5 : w7.cell? ⟨fb, 5, none⟩ = some (.int .i64 100000) := HX7.out.cell 5
        have y6 : w7.cell? ⟨fb, 6, none⟩ = some (.int .i64 pg) := HX7.out.cell 6
        have y7 : w7.cell? ⟨fb, 7, none⟩ = some (.int .i64 1) := HX7.out.cell 7
        have y8 : w7.cell? ⟨fb, 8, none⟩ = some (.string ⟨#[]⟩) := HX7.out.cell 8
        rcases HR.out w (Below.refl _ _) with hnil | ⟨gb, rfl, hgl, hcell⟩
        · have h1 := HML.out
          rw [hnil, HN.out] at h1
          simp at h1
          omega
        · have hdr : Below w.heap.size w w7.drew := HB7.out.drew
          have CC0 := cloneMem_ok gb cap (msOf js rs) w7.drew (fun k x hx => by
            have := hcell k x hx
            exact ⟨(hdr.cell (p := ⟨gb, k * 2, none⟩) hgl).trans this.1, (hdr.cell (p := ⟨gb, k * 2 + 1, none⟩) hgl).trans this.2⟩) (by rw [HML.out, HN.out]; omega)
          rw [HML.out, HN.out] at CC0
          have CCL := Lib.hid CC0
          have HDR := Lib.hid hdr
          clear hcell CC0 hdr
          go_region_held3 (fun wx => wx.cell? ⟨fb, 0, none⟩ = some (.int .i64 h') ∧ wx.cell? ⟨fb, 1, none⟩ = some (.int .i64 s) ∧ wx.cell? ⟨fb, 2, none⟩ = some (.int .i64 p) ∧ wx.cell? ⟨fb, 3, none⟩ = some (.int .i64 255) ∧ wx.cell? ⟨fb, 4, none⟩ = some (.int .i64 1024) ∧ wx.cell? ⟨fb, 5, none⟩ = some (.int .i64 100000) ∧ wx.cell? ⟨fb, 6, none⟩ = some (.int .i64 pg) ∧ wx.cell? ⟨fb, 7, none⟩ = some (.int .i64 1) ∧ wx.cell? ⟨fb, 8, none⟩ = some (.string ⟨#[]⟩))
            (first | (refine ⟨?_, ?_, ?_, ?_, ?_, ?_, ?_, ?_, ?_⟩ <;> with_reducible assumption) | exact ⟨y0, y1, y2, y3, y4, y5, y6, y7, y8⟩ | exact ⟨cell_old z0, cell_old z1, cell_old z2, cell_old z3, cell_old z4, cell_old z5, cell_old z6, cell_old z7, cell_old z8⟩ | with_reducible assumption | exact y0 | exact y1 | exact y2 | exact y3 | exact y4 | exact y5 | exact y6 | exact y7 | exact y8)
            (first
              | (go_at_call 44; (with_reducible refine CCL.out.mono ?_); rintro e w8 ⟨na, nc, rfl, hmr, hge, hb8⟩; have z0 : w8.cell? ⟨fb, 0, none⟩ = some (.int .i64 h') := (HX7.out.drw.below hb8 HX7.out.drw.lt).cell 0; have z1 : w8.cell? ⟨fb, 1, none⟩ = some (.int .i64 s) := (HX7.out.drw.below hb8 HX7.out.drw.lt).cell 1; have z2 : w8.cell? ⟨fb, 2, none⟩ = some (.int .i64 p) := (HX7.out.drw.below hb8 HX7.out.drw.lt).cell 2; have z3 : w8.cell? ⟨fb, 3, none⟩ = some (.int .i64 255) := (HX7.out.drw.below hb8 HX7.out.drw.lt).cell 3; have z4 : w8.cell? ⟨fb, 4, none⟩ = some (.int .i64 1024) := (HX7.out.drw.below hb8 HX7.out.drw.lt).cell 4; have z5 : w8.cell? ⟨fb, 5, none⟩ = some (.int .i64 100000) := (HX7.out.drw.below hb8 HX7.out.drw.lt).cell 5; have z6 : w8.cell? ⟨fb, 6, none⟩ = some (.int .i64 pg) := (HX7.out.drw.below hb8 HX7.out.drw.lt).cell 6; have z7 : w8.cell? ⟨fb, 7, none⟩ = some (.int .i64 1) := (HX7.out.drw.below hb8 HX7.out.drw.lt).cell 7; have z8 : w8.cell? ⟨fb, 8, none⟩ = some (.string ⟨#[]⟩) := (HX7.out.drw.below hb8 HX7.out.drw.lt).cell 8; have HB8 := Lib.hid (HDR.out.trans (hb8.mono HDR.out.size)); have HMR := Lib.hid hmr; have HGE := Lib.hid hge; have HSZ := Lib.hid HDR.out.size; clear hmr hge hb8))
          all_goals
            go_wp2_with fail
            go_ret2
            refine ⟨HB8.out.alloc HB8.out.size _, Or.inr ⟨HW0.out, w8.heap.size, na, nc, h', s, p, pg, rfl, by rw [HN.out, show tC h' s p pg 1 ++ #[Value.slice na i nc] = #[.int .i64 h', .int .i64 s, .int .i64 p, .int .i64 255, .int .i64 1024, .int .i64 100000, .int .i64 pg, .int .i64 1, .string ⟨#[]⟩, .slice na i nc] from by simp]; exact Blk.new w8 _ _, ?_, ?_, HB8.out.size, hp1, hp2⟩⟩
            · exact HMR.out.below ((Below.refl _ _).alloc (Nat.le_refl _) _)
            · intro g' hg'
              have h1 := HGE.out g' hg'
              have h2 := HSZ.out
              omega
end Go.Proofs.YtpjnjhklkgefcaaGreatDoor
