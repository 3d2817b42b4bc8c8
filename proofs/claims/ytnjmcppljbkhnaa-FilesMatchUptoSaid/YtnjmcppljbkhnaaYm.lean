import Derived.Test.YtnjmcppljbkhnaaYi
import Derived.Test.YtnjmcppljbkhnaaYj
set_option linter.unusedVariables false
set_option linter.unusedSimpArgs false
namespace Go.Proofs.Ytnjmcppljbkhnaa
open Go.RowKit
def TG1 (w : World) (g gb : Nat) (f : Nat → Nat) (xs : Array Value) (wr : World) : Prop := Below w.heap.size w wr ∧ w.heap.size ≤ g ∧ gb ≠ g ∧ IR wr g 16 f ∧ Blk wr gb 3 xs
theorem TG1.store {w wr : World} {g gb : Nat} {f : Nat → Nat} {xs : Array Value} (h : TG1 w g gb f xs wr) (i v : Nat) (hi : i < 16) : TG1 w g gb (upd f i v) xs (wr.setCell ⟨g, i, none⟩ (.int .i64 (v : Nat))) :=
  ⟨h.1.setCell h.2.1 _, h.2.1, h.2.2.1, h.2.2.2.1.set i v hi, (Below.heap_setCell wr ⟨g, i, none⟩ _ gb (fun e => h.2.2.1 e)).trans h.2.2.2.2⟩
theorem TG1.new {w wr : World} {g : Nat} {f : Nat → Nat} (hb : Below w.heap.size w wr) (hg : w.heap.size ≤ g) (hir : IR wr g 16 f) (xs : Array Value) : TG1 w g wr.heap.size f xs (wr.alloc (.cells xs 3)) :=
  ⟨hb.alloc hb.size _, hg, Nat.ne_of_gt hir.1, hir.below ((Below.refl wr.heap.size wr).alloc (Nat.le_refl _) _) hir.1, Blk.new wr 3 xs⟩
/-- a slice of strings that reads as S. -/
def StrRow (w : World) (v : Value) (n : Nat) (S : Nat → ByteArray) : Prop := ∃ p cap, v = .slice p n cap ∧ ∀ k, k < n → ∃ g, p = some ⟨g, 0, none⟩ ∧ g < w.heap.size ∧ w.cell? ⟨g, k, none⟩ = some (.string (S k))
theorem StrRow.ofBlocks {w : World} {base n : Nat} {v : Value} {s : ByteArray} {sz : Nat} (h : w.ownsRow base 9 1 v n ((blkL s sz n).map Value.string)) : StrRow w v n (blkS s sz) := by
  rcases own_strs h (blkL_len s sz n) with ⟨rfl, rfl⟩ | ⟨g, cap, rfl, _, hg, hc⟩
  · exact ⟨none, 0, rfl, fun k hk => absurd hk (Nat.not_lt_zero k)⟩
  · exact ⟨some ⟨g, 0, none⟩, cap, rfl, fun k hk => ⟨g, rfl, hg, by rw [hc k hk, blkL_at s sz n k hk]⟩⟩
def outF (L : List Nat) (k : Nat) : Nat → Nat := fun j => if j < k then L.getD j 0 else 0
theorem outF_succ (L : List Nat) (k v : Nat) (h : v = L.getD k 0) : upd (outF L k) k v = outF L (k + 1) := by
  subst h
  funext j
  unfold upd outF
  by_cases e : j = k
  · subst e; rw [if_pos rfl, if_pos (by omega)]
  · rw [if_neg e]
    by_cases e2 : j < k
    · rw [if_pos e2, if_pos (by omega)]
    · rw [if_neg e2, if_neg (by omega)]
theorem outF_stay (L : List Nat) (k : Nat) (h : ¬ k < L.length) : outF L k = outF L (k + 1) := by
  funext j
  unfold outF
  by_cases e : j = k
  · subst e; rw [if_neg (by omega), if_pos (by omega), getD_none L j h]
  · by_cases e2 : j < k
    · rw [if_pos e2, if_pos (by omega)]
    · rw [if_neg e2, if_neg (by omega)]
theorem digS_dig (s : ByteArray) (n : Nat) : ∀ d ∈ digS s n, d < 256 := by
  intro d hd
  simp only [digS, List.mem_map, List.mem_range] at hd
  obtain ⟨k, _, rfl⟩ := hd
  exact at8_lt s k
theorem cells15 (k : Nat) (hk : k < 4) : (#[Value.int IntKind.i64 3, Value.int IntKind.i64 7, Value.int IntKind.i64 11, Value.int IntKind.i64 15] : Array Value)[k]? = some (.int .i64 ((4 * k + 3 : Nat) : Int)) := by
  have h : k = 0 ∨ k = 1 ∨ k = 2 ∨ k = 3 := by omega
  rcases h with rfl | rfl | rfl | rfl <;> rfl
theorem cells252 (k : Nat) (hk : k < 3) : (#[Value.int IntKind.i64 4, Value.int IntKind.i64 8, Value.int IntKind.i64 12] : Array Value)[k]? = some (.int .i64 ((4 * k + 4 : Nat) : Int)) := by
  have h : k = 0 ∨ k = 1 ∨ k = 2 := by omega
  rcases h with rfl | rfl | rfl <;> rfl
set_option maxRecDepth 100000 in
set_option maxHeartbeats 2000000 in
theorem tagOf24 (key text : ByteArray) (w : World) (hk : key.size = 32) (hs : text.size ≤ 1048576) :
    Calls Try.prog 24 #[.string key, .string text] w fun e w' => e = .returned (.string (tagS key text)) ∧ Below w.heap.size w w' := by
  have hk1 : 32 ≤ key.size := by omega
  have hk2 : key.size ≤ 32 := by omega
  have HK := Lib.hid hk
  clear hk
  go_enter Try.func24, Try.ntmps24
  go_wp2_with fail
  refine (digitOf55 (key.extract 0 16) _ (by simp; omega)).mono ?_
  rintro e w1 ⟨v, rfl, hown, hb1⟩
  have e16 : (key.extract 0 16).size = 16 := by simp; omega
  rw [e16] at hown
  obtain ⟨g, cap, rfl, hg0, hcap, hir⟩ := own_open hown (digS_len _ _) (by decide)
  have HB1 := Lib.hid hb1
  have HG0 := Lib.hid hg0
  have HIR := Lib.hid (hir.congr (f' := cl15 (at8 key) 0) (fun i hi => by
    show (digS (key.extract 0 16) 16).getD i 0 = at8 key i
    simp only [digS, List.getD_eq_getElem?_getD, List.getElem?_map, List.getElem?_range hi]
    exact at8_extract0 _ _ _ hi (by omega)))
  clear hir hown hb1 hg0 e16
  have HT := Lib.hid (TG1.new HB1.out HG0.out HIR.out #[Value.int IntKind.i64 3, Value.int IntKind.i64 7, Value.int IntKind.i64 11, Value.int IntKind.i64 15])
  clear HIR
  go_wp2_with fail
  generalize w1.heap.size = gb at *
  go_loopw [20] (fun iv wr => ∃ k : Nat, k ≤ 4 ∧ iv = .int .i64 k ∧ TG1 w g gb (cl15 (at8 key) k) #[Value.int IntKind.i64 3, Value.int IntKind.i64 7, Value.int IntKind.i64 11, Value.int IntKind.i64 15] wr) (fun iv _ => 4 - (intOf iv).toNat)
  case atStart => exact ⟨0, by omega, rfl, HT.out⟩
  case round =>
    clear HT
    obtain ⟨k, hk, rfl, ht⟩ := hrel
    have HT := Lib.hid ht
    clear ht
    by_cases hlt : k < 4
    · have hd : decide ((k : Int) < 4) = true := decide_eq_true (by omega)
      have hcl : wr.cell? ⟨gb, k, none⟩ = some (.int .i64 ((4 * k + 3 : Nat) : Int)) := by rw [HT.out.2.2.2.2.cell k]; exact cells15 k hlt
      have z0 : wr.cell? ⟨g, 4 * k + 3, none⟩ = some (.int .i64 (cl15 (at8 key) k (4 * k + 3) : Nat)) := (HT.out.2.2.2.1.2 (4 * k + 3) (by omega)).1
      have z1 : wr.frozen? ⟨g, 4 * k + 3, none⟩ = false := (HT.out.2.2.2.1.2 (4 * k + 3) (by omega)).2
      have hx : cl15 (at8 key) k (4 * k + 3) < 256 := cl15_lt _ (at8_lt key) _ _
      have HST := Lib.hid (show TG1 w g gb (cl15 (at8 key) (k + 1)) _ _ from HT.out.store (4 * k + 3) (cl15 (at8 key) k (4 * k + 3) % 16) (by omega))
      have HK1 := Lib.hid (show k + 1 ≤ 4 from hlt)
      generalize cl15 (at8 key) k (4 * k + 3) = x at *
      have hj1 : 4 * k + 3 < 16 := by omega
      generalize 4 * k + 3 = j at *
      have hand : bits .and .i64 (x : Int) 15 = ((x % 16 : Nat) : Int) := by
        have h := i64_and_nat x 15 (by omega) (by omega)
        rw [Nat.and_two_pow_sub_one_eq_mod _ 4] at h
        simpa using h
      clear HT
      go_wp2_with fail
      go_roundw
      case rel => exact ⟨k + 1, HK1.out, by go_num, by simpa using HST.out⟩
      case measure => simp [intOf]; omega
    · have hd : decide ((k : Int) < 4) = false := decide_eq_false (by omega)
      obtain rfl : k = 4 := by omega
      have HT2 := Lib.hid (TG1.new HT.out.1 HT.out.2.1 HT.out.2.2.2.1 #[Value.int IntKind.i64 4, Value.int IntKind.i64 8, Value.int IntKind.i64 12])
      clear HT
      go_wp2_with fail
      generalize wr.heap.size = gc at *
      go_loopw [33] (fun iv wr => ∃ k : Nat, k ≤ 3 ∧ iv = .int .i64 k ∧ TG1 w g gc (cl252 (cl15 (at8 key) 4) k) #[Value.int IntKind.i64 4, Value.int IntKind.i64 8, Value.int IntKind.i64 12] wr) (fun iv _ => 3 - (intOf iv).toNat)
      case atStart => exact ⟨0, by omega, rfl, HT2.out⟩
      case round =>
        clear HT2
        obtain ⟨k, hk, rfl, ht⟩ := hrel
        have HT := Lib.hid ht
        clear ht
        by_cases hlt : k < 3
        · have hd : decide ((k : Int) < 3) = true := decide_eq_true (by omega)
          have hcl : wr.cell? ⟨gc, k, none⟩ = some (.int .i64 ((4 * k + 4 : Nat) : Int)) := by rw [HT.out.2.2.2.2.cell k]; exact cells252 k hlt
          have z0 : wr.cell? ⟨g, 4 * k + 4, none⟩ = some (.int .i64 (cl252 (cl15 (at8 key) 4) k (4 * k + 4) : Nat)) := (HT.out.2.2.2.1.2 (4 * k + 4) (by omega)).1
          have z1 : wr.frozen? ⟨g, 4 * k + 4, none⟩ = false := (HT.out.2.2.2.1.2 (4 * k + 4) (by omega)).2
          have hx : cl252 (cl15 (at8 key) 4) k (4 * k + 4) < 256 := cl252_lt _ (cl15_lt _ (at8_lt key) 4) _ _
          have HST := Lib.hid (show TG1 w g gc (cl252 (cl15 (at8 key) 4) (k + 1)) _ _ from HT.out.store (4 * k + 4) (cl252 (cl15 (at8 key) 4) k (4 * k + 4) / 4 * 4) (by omega))
          have HK1 := Lib.hid (show k + 1 ≤ 3 from hlt)
          generalize cl252 (cl15 (at8 key) 4) k (4 * k + 4) = x at *
          have hj1 : 4 * k + 4 < 16 := by omega
          generalize 4 * k + 4 = j at *
          have hand : bits .and .i64 (x : Int) 252 = ((x / 4 * 4 : Nat) : Int) := by
            have h := i64_and_nat x 252 (by omega) (by omega)
            rw [and252 x hx] at h
            simpa using h
          clear HT
          go_wp2_with fail
          go_roundw
          case rel => exact ⟨k + 1, HK1.out, by go_num, by simpa using HST.out⟩
          case measure => simp [intOf]; omega
        · have hd : decide ((k : Int) < 3) = false := decide_eq_false (by omega)
          obtain rfl : k = 3 := by omega
          have HBL := Lib.hid HT.out.1
          have HIR := Lib.hid HT.out.2.2.2.1
          have HFD := Lib.hid (cl252_lt (cl15 (at8 key) 4) (cl15_lt _ (at8_lt key) 4) 3)
          have HRN := Lib.hid (cl_rN key)
          clear HT
          generalize cl252 (cl15 (at8 key) 4) 3 = f at *
          generalize wr = wa at *
          go_wp2_with fail
          refine (blocks56 text 16 _ (by omega) (by decide) (by decide)).mono ?_
          rintro e wl ⟨n, vb, rfl, hcut, hpre, hns, hown, hb1⟩
          have HSR := StrRow.ofBlocks hown
          obtain ⟨ps, cs, rfl, hss⟩ := HSR
          have HSS := Lib.hid hss
          have hn : n ≤ 1048576 := by omega
          have HNB := Lib.hid (nblk_of text n hcut hpre)
          have HPR := Lib.hid hpre
          have HBW := Lib.hid (show Below w.heap.size w wl from HBL.out.trans (hb1.mono HBL.out.size))
          have HIR2 := Lib.hid (HIR.out.below hb1 HIR.out.1)
          clear hcut hpre hns hown hb1 hss HBL HIR
          go_wp2_with fail
          go_loopw [10, 47] (fun av iv wr => ∃ (k : Nat) (L : List Nat), k ≤ n ∧ iv = .int .i64 k ∧ Rd wr av L ∧ Hid ((∀ d ∈ L, d < 256) ∧ valD L = accN (rN key) text k ∧ L.length ≤ 17) ∧ Below wl.heap.size wl wr) (fun _ iv _ => n - (intOf iv).toNat)
          case atStart => exact ⟨0, [], by omega, rfl, ⟨none, 0, rfl, fun k hk => absurd hk (Nat.not_lt_zero k)⟩, Lib.hid ⟨by simp, rfl, by simp⟩, Below.refl _ _⟩
          case round =>
            obtain ⟨k, L, hk, rfl, hr, HL, hb⟩ := hrel
            have HR := Lib.hid hr
            have HB := Lib.hid hb
            clear hr hb
            by_cases hlt : k < n
            · have hd : decide ((k : Int) < (n : Int)) = true := decide_eq_true (by omega)
              obtain ⟨gs, rfl, hgs, hcl⟩ := HSS.out k hlt
              have hclA : wr.cell? ⟨gs, k, none⟩ = some (.string (blkS text 16 k)) := by rw [← hcl]; exact HB.out.cell hgs
              have h16 : 16 * k < text.size := by have := HPR.out k hlt; unfold cutAt at this; omega
              have HBN := Lib.hid (blkN_dig text k h16)
              have hbs : (blkS text 16 k).size ≤ 16 := by rw [blkS_size]; have := cutAt_next text 16 k; omega
              have HK1 := Lib.hid (show k + 1 ≤ n from hlt)
              clear hcl h16
              generalize blkS text 16 k = b at *
              have hsz : (b ++ (⟨#[1]⟩ : ByteArray)).size = b.size + 1 := by rw [ByteArray.size_append]; rfl
              generalize hB1 : b ++ (⟨#[1]⟩ : ByteArray) = b1 at *
              go_wp2_with fail
              clear hB1
              refine (digitOf55 b1 _ (by omega)).mono ?_
              rintro e w2 ⟨v2, rfl, hown, hb2⟩
              have HRD := Lib.hid (Rd.own' hown (digS_len _ _))
              have HDD := Lib.hid (digS_dig b1 b1.size)
              have HDL : (digS b1 b1.size).length ≤ 17 := by rw [digS_len]; omega
              generalize digS b1 b1.size = D at *
              have HB2 := Lib.hid hb2
              have HR2 := Lib.hid (HR.out.below hb2)
              have hLl : L.length ≤ 17 := HL.out.2.2
              clear hown hb2 HR hsz
              go_wp2_with fail
              refine (plus59 L D _ _ _ HR2.out HRD.out (by omega) (by omega) HL.out.1 HDD.out).mono ?_
              rintro e w3 ⟨v3, P, rfl, hPo, hPd, hPv, hPl, hPb⟩
              have HRP := Lib.hid (Rd.own' hPo rfl)
              have HPd := Lib.hid hPd
              have HPv := Lib.hid hPv
              have hPl' : P.length ≤ 18 := by omega
              have HB3 := Lib.hid (show Below wl.heap.size wl w3 from HB.out.trans ((HB2.out.trans (hPb.mono HB2.out.size)).mono HB.out.size))
              clear hPo hPd hPv hPl hPb HB2 HB HR2 HRD
              have HRR := Lib.hid (Rd.ofIR (cap := cap) (HIR2.out.below HB3.out HIR2.out.1))
              have HRL : ((List.range 16).map f).length = 16 := by simp
              have HRd := Lib.hid (show ∀ d ∈ (List.range 16).map f, d < 256 from by
                intro d hd
                simp only [List.mem_map, List.mem_range] at hd
                obtain ⟨q, _, rfl⟩ := hd
                exact HFD.out q)
              have HRV := Lib.hid (show valD ((List.range 16).map f) = rN key from by rw [valD_map, HRN.out])
              generalize (List.range 16).map f = Rl at *
              go_wp2_with fail
              refine (product58 P Rl _ _ _ HRP.out HRR.out (by omega) (by omega) HPd.out HRd.out).mono ?_
              rintro e w4 ⟨v4, Q, rfl, hQ, hQd, hQv, hQl, hQb⟩
              have HQ := Lib.hid hQ
              have HQd := Lib.hid hQd
              have HQv := Lib.hid hQv
              have hQl' : Q.length ≤ 100 := by omega
              have HB4 := Lib.hid (show Below wl.heap.size wl w4 from HB3.out.trans (hQb.mono HB3.out.size))
              clear hQ hQd hQv hQl hQb HB3 HRR HRP
              go_wp2_with fail
              refine (reduced57 Q _ _ HQ.out hQl' HQd.out).mono ?_
              rintro e w5 ⟨v5, M, rfl, hM, hMd, hMv, hMl, hMb⟩
              have HM := Lib.hid hM
              have HB5 := Lib.hid (show Below wl.heap.size wl w5 from HB4.out.trans (hMb.mono HB4.out.size))
              have HMM := Lib.hid (show (∀ d ∈ M, d < 256) ∧ valD M = accN (rN key) text (k + 1) ∧ M.length ≤ 17 from ⟨hMd, by rw [hMv, HQv.out, HPv.out, HRV.out, HL.out.2.1, HBN.out, accN_succ], hMl⟩)
              clear hM hMd hMv hMl hMb HB4 HQ
              go_wp2_with fail
              go_roundw
              case rel => exact ⟨k + 1, M, HK1.out, by go_num, HM.out, HMM, HB5.out⟩
              case measure => simp [intOf]; omega
            · have hd : decide ((k : Int) < (n : Int)) = false := decide_eq_false (by omega)
              obtain rfl : k = n := by omega
              have hLl : L.length ≤ 17 := HL.out.2.2
              have e16 : (key.extract 16 key.size).size = 16 := by simp; omega
              have HB0 := Lib.hid (show Below w.heap.size w wr from HBW.out.trans (HB.out.mono HBW.out.size))
              clear HB HBW HIR2 HSS
              go_wp2_with fail
              refine (digitOf55 (key.extract 16 key.size) _ (by omega)).mono ?_
              rintro e w2 ⟨v2, rfl, hown, hb2⟩
              have HRD := Lib.hid (Rd.own' hown (digS_len _ _))
              have HDD := Lib.hid (digS_dig (key.extract 16 key.size) (key.extract 16 key.size).size)
              have HDV := Lib.hid (sN_dig key HK.out)
              have HDL : (digS (key.extract 16 key.size) (key.extract 16 key.size).size).length ≤ 17 := by rw [digS_len]; omega
              generalize digS (key.extract 16 key.size) (key.extract 16 key.size).size = D at *
              have HB2 := Lib.hid hb2
              have HR2 := Lib.hid (HR.out.below hb2)
              clear hown hb2 HR e16
              go_wp2_with fail
              refine (plus59 L D _ _ _ HR2.out HRD.out (by omega) (by omega) HL.out.1 HDD.out).mono ?_
              rintro e w3 ⟨v3, P, rfl, hPo, hPd, hPv, hPl, hPb⟩
              have HRP := Lib.hid (Rd.own' hPo rfl)
              have HPd := Lib.hid hPd
              have HTG := Lib.hid (tagS_of key text P hPd (by rw [hPv, HL.out.2.1, HDV.out, ← HNB.out]))
              have hPl' : P.length ≤ 18 := by omega
              have HB3 := Lib.hid (show Below w.heap.size w w3 from HB0.out.trans ((HB2.out.trans (hPb.mono HB2.out.size)).mono HB0.out.size))
              clear hPo hPd hPv hPl hPb HB2 HB0 HR2 HRD
              have hmk : (Instr.makeSlice 88 (.int .i64 16) (.int .i64 16)).run Try.prog w3 = .ok (.slice (some ⟨w3.heap.size, 0, none⟩) 16 16) (madeB w3 16) := by simpa using run_madeB w3 16 (by decide)
              have HW0 := Lib.hid (show WS w3 16 (outF P 0) (madeB w3 16) from ⟨madeB_below w3 16, (madeB_row w3 16).congr (fun i hi => by unfold outF; rw [if_neg (by omega)])⟩)
              generalize madeB w3 16 = w4 at *
              obtain ⟨pp, cp, rfl, hcp⟩ := HRP.out
              have HCP := Lib.hid hcp
              clear hcp HRP
              go_wp2_with fail
              clear hmk
              go_loopw [68] (fun iv wr => ∃ k : Nat, k ≤ 16 ∧ iv = .int .i64 k ∧ WS w3 16 (outF P k) wr) (fun iv _ => 16 - (intOf iv).toNat)
              case atStart => exact ⟨0, by omega, rfl, HW0.out⟩
              case round =>
                clear HW0
                obtain ⟨k, hk, rfl, hws⟩ := hrel
                have HWS := Lib.hid hws
                clear hws
                by_cases hlt : k < 16
                · have hd : decide ((k : Int) < 16) = true := decide_eq_true (by omega)
                  have HK1 := Lib.hid (show k + 1 ≤ 16 from hlt)
                  by_cases hkl : k < P.length
                  · have hdk : decide ((k : Int) < (P.length : Int)) = true := decide_eq_true (by omega)
                    obtain ⟨gp, rfl, hgp, hclp⟩ := HCP.out k hkl
                    have hclP : wr.cell? ⟨gp, k, none⟩ = some (.int .i64 (P.getD k 0 : Nat)) := by rw [← hclp]; exact HWS.out.1.cell hgp
                    have z0 := (HWS.out.2.2 k hlt).1
                    have z1 := (HWS.out.2.2 k hlt).2
                    have hx := getD_lt P HPd.out k
                    have HST := Lib.hid (HWS.out.store k (P.getD k 0) hlt)
                    rw [outF_succ P k _ rfl] at HST
                    clear hclp HWS
                    generalize P.getD k 0 = x at *
                    have hcv : IntKind.u8.wrap (x : Int) = (x : Int) := by rw [IntKind.wrap_u8]; omega
                    go_wp2_with fail
                    go_roundw
                    case rel => exact ⟨k + 1, HK1.out, by go_num, by simpa using HST.out⟩
                    case measure => simp [intOf]; omega
                  · have hdk : decide ((k : Int) < (P.length : Int)) = false := decide_eq_false (by omega)
                    rw [outF_stay P k hkl] at HWS
                    go_wp2_with fail
                    go_roundw
                    case rel => exact ⟨k + 1, HK1.out, by go_num, HWS.out⟩
                    case measure => simp [intOf]; omega
                · have hd : decide ((k : Int) < 16) = false := decide_eq_false (by omega)
                  obtain rfl : k = 16 := by omega
                  have hcv := fun cap => conv_BR HWS.out.2 cap
                  have e : strB 16 (outF P 16) = tagS key text := by
                    rw [← HTG.out]
                    exact strB_congr (fun i hi => by unfold outF; rw [if_pos hi])
                  rw [e] at hcv
                  clear e
                  obtain ⟨T, hT⟩ : ∃ T, T = tagS key text := ⟨_, rfl⟩
                  rw [← hT] at hcv
                  have HTT := Lib.hid hT
                  clear hT
                  go_wp2_with fail
                  go_ret
                  exact ⟨by rw [← HTT.out]; rfl, HB3.out.trans (HWS.out.1.mono HB3.out.size)⟩
end Go.Proofs.Ytnjmcppljbkhnaa

set_option linter.unusedVariables false
set_option linter.unusedSimpArgs false
namespace Go.Proofs.Ytnjmcppljbkhnaa
open Go.RowKit
theorem macT_cat (extra S : ByteArray) : (extra ++ zerosB (padN extra.size)) ++ (S ++ zerosB (padN S.size)) ++ strB 8 (bytesN extra.size) ++ strB 8 (bytesN S.size) = macT extra S := by
  unfold macT catS
  apply ByteArray.ext
  apply Array.ext'
  simp [List.append_assoc]
theorem bkey_cut (key nonce : ByteArray) : (strB 64 (blockB key nonce 0)).extract 0 32 = bkey key nonce := by
  unfold bkey strB
  apply ByteArray.ext
  apply Array.ext'
  simp [← List.map_take, List.take_range]
set_option maxRecDepth 100000 in
set_option maxHeartbeats 2000000 in
theorem sealedBlock21 (key nonce extra text : ByteArray) (w : World) (hk : key.size = 32) (hn : nonce.size = 12) (he : extra.size ≤ 100000) (hs : text.size ≤ 100000) :
    Calls Try.prog 21 #[.string key, .string nonce, .string extra, .string text] w fun e w' => e = .returned (.string (sealB key nonce extra text)) ∧ Below w.heap.size w w' := by
  have HK := Lib.hid hk
  have HNn := Lib.hid hn
  clear hk hn
  go_enter Try.func21, Try.ntmps21
  go_wp2_with fail
  refine (streamed25 key nonce text 1 _ HK.out HNn.out (by decide) (by omega)).mono ?_
  rintro e w1 ⟨rfl, b1⟩
  have HB1 := Lib.hid b1
  clear b1
  have HFin := Lib.hid (show strmS key nonce 1 text ++ tagS (bkey key nonce) (macT extra (strmS key nonce 1 text)) = sealB key nonce extra text from rfl)
  have hSs : (strmS key nonce 1 text).size ≤ 100000 := by rw [strmS_size]; exact hs
  generalize strmS key nonce 1 text = S at *
  have C50 := Lib.hid (fun w => refBlock50 key nonce 0 w HK.out HNn.out (by decide))
  have HBK := Lib.hid (bkey_cut key nonce)
  have h64 : (strB 64 (blockB key nonce 0)).size = 64 := strB_size _ _
  have h64a := Nat.le_of_eq h64
  have h64b := Nat.le_of_eq h64.symm
  have hbk : (bkey key nonce).size = 32 := strB_size _ _
  have HMC := Lib.hid (macT_cat extra S)
  have HMS := Lib.hid (macT_size extra S)
  have C24 := Lib.hid (fun w => tagOf24 (bkey key nonce) (macT extra S) w hbk (by have := HMS.out; omega))
  have CE1 := Lib.hid (fun w => evened51 extra w (by omega))
  have CE2 := Lib.hid (fun w => evened51 S w (by omega))
  have CS1 := Lib.hid (fun w => sizeText52 extra.size w (by omega))
  have CS2 := Lib.hid (fun w => sizeText52 S.size w (by omega))
  have hp1 : padN extra.size < 16 := Nat.mod_lt _ (by decide)
  have hp2 : padN S.size < 16 := Nat.mod_lt _ (by decide)
  have hE1 : (extra ++ zerosB (padN extra.size)).size ≤ 100016 := by rw [ByteArray.size_append, zerosB_size]; omega
  have hE2 : (S ++ zerosB (padN S.size)).size ≤ 100016 := by rw [ByteArray.size_append, zerosB_size]; omega
  have hT1 : (strB 8 (bytesN extra.size)).size ≤ 8 := by rw [strB_size]; omega
  have hT2 : (strB 8 (bytesN S.size)).size ≤ 8 := by rw [strB_size]; omega
  have hTG : (tagS (bkey key nonce) (macT extra S)).size ≤ 16 := by unfold tagS; rw [strB_size]; omega
  clear h64 hbk hp1 hp2
  generalize strB 64 (blockB key nonce 0) = K64 at *
  generalize tagS (bkey key nonce) (macT extra S) = TG at *
  generalize extra ++ zerosB (padN extra.size) = E1 at *
  generalize S ++ zerosB (padN S.size) = E2 at *
  generalize strB 8 (bytesN extra.size) = T1 at *
  generalize strB 8 (bytesN S.size) = T2 at *
  have i0 : (32 : Int) ≤ (K64.size : Int) := by omega
  have i00 : ¬ (K64.size : Int) < 32 := by omega
  have a1 : E1.size + E2.size ≤ 9223372036854775807 := by (try simp only [ByteArray.size_append]); omega
  have b1 : E1.size + E2.size ≤ maxLen := by unfold maxLen; omega
  have c1 : ¬ maxLen < E1.size + E2.size := by unfold maxLen; omega
  have d1 : ¬ 9223372036854775807 < E1.size + E2.size := by omega
  have a2 : E1.size + E2.size + T1.size ≤ 9223372036854775807 := by (try simp only [ByteArray.size_append]); omega
  have b2 : E1.size + E2.size + T1.size ≤ maxLen := by unfold maxLen; omega
  have c2 : ¬ maxLen < E1.size + E2.size + T1.size := by unfold maxLen; omega
  have d2 : ¬ 9223372036854775807 < E1.size + E2.size + T1.size := by omega
  have a3 : (E1 ++ E2).size + T1.size ≤ 9223372036854775807 := by (try simp only [ByteArray.size_append]); omega
  have b3 : (E1 ++ E2).size + T1.size ≤ maxLen := by unfold maxLen; omega
  have c3 : ¬ maxLen < (E1 ++ E2).size + T1.size := by unfold maxLen; omega
  have d3 : ¬ 9223372036854775807 < (E1 ++ E2).size + T1.size := by omega
  have a4 : E1.size + E2.size + T1.size + T2.size ≤ 9223372036854775807 := by (try simp only [ByteArray.size_append]); omega
  have b4 : E1.size + E2.size + T1.size + T2.size ≤ maxLen := by unfold maxLen; omega
  have c4 : ¬ maxLen < E1.size + E2.size + T1.size + T2.size := by unfold maxLen; omega
  have d4 : ¬ 9223372036854775807 < E1.size + E2.size + T1.size + T2.size := by omega
  have a5 : (E1 ++ E2 ++ T1).size + T2.size ≤ 9223372036854775807 := by (try simp only [ByteArray.size_append]); omega
  have b5 : (E1 ++ E2 ++ T1).size + T2.size ≤ maxLen := by unfold maxLen; omega
  have c5 : ¬ maxLen < (E1 ++ E2 ++ T1).size + T2.size := by unfold maxLen; omega
  have d5 : ¬ 9223372036854775807 < (E1 ++ E2 ++ T1).size + T2.size := by omega
  have a6 : S.size + TG.size ≤ 9223372036854775807 := by (try simp only [ByteArray.size_append]); omega
  have b6 : S.size + TG.size ≤ maxLen := by unfold maxLen; omega
  have c6 : ¬ maxLen < S.size + TG.size := by unfold maxLen; omega
  have d6 : ¬ 9223372036854775807 < S.size + TG.size := by omega
  have C24' := Lib.hid (show ∀ w, Calls Try.prog 24 #[.string (K64.extract 0 32), .string (E1 ++ E2 ++ T1 ++ T2)] w fun e w' => e = .returned (.string TG) ∧ Below w.heap.size w w' from by
    rw [HBK.out, HMC.out]; exact C24.out)
  clear C24
  go_wp2_with fail


  go_region_held3 (fun w' => Below w.heap.size w w') (first | exact below_drew HB1.out | exact below_step (by assumption) (by first | exact Nat.le_refl _ | (have := HB1.out.size; simp; omega)) hbb | assumption)
    (first | (go_at_call 50; refine (C50.out _).mono ?_; rintro e w' ⟨rfl, hbb⟩) | (go_at_call_of 51 (Value.string extra); refine (CE1.out _).mono ?_; rintro e w' ⟨rfl, rfl⟩) | (go_at_call_of 51 (Value.string S); refine (CE2.out _).mono ?_; rintro e w' ⟨rfl, rfl⟩) | (go_at_call_of 52 (Value.int IntKind.i64 extra.size); refine (CS1.out _).mono ?_; rintro e w' ⟨rfl, hbb⟩) | (go_at_call_of 52 (Value.int IntKind.i64 S.size); refine (CS2.out _).mono ?_; rintro e w' ⟨rfl, hbb⟩) | (go_at_call 24; refine (C24'.out _).mono ?_; rintro e w' ⟨rfl, hbb⟩))
  all_goals
    have HF := Lib.hid (by assumption : Below w.heap.size w _)
    go_wp2_with fail
    go_ret
    exact ⟨by rw [← HFin.out]; rfl, HF.out⟩
end Go.Proofs.Ytnjmcppljbkhnaa
