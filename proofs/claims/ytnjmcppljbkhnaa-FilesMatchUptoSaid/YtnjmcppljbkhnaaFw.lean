import Derived.Test.YtnjmcppljbkhnaaFv
import Derived.Test.YtnjmcppljbkhnaaFu
import Derived.Test.YtnjmcppljbkhnaaFx
set_option linter.unusedVariables false
set_option linter.unusedSimpArgs false
namespace Go.Proofs.Ytnjmcppljbkhnaa
open Go.RowKit
theorem write40_piece (c n t nonce : ByteArray) (xs : List ByteArray) (g i : Nat) (ti : ByteArray) (W : World) (h : SL W g c n t (markS ++ nonce) (decide (0 < i)) false (rI xs i) (pI xs i) (fI xs i)) (hi : xs[i]? = some ti) (hc : c.size = 32) (hnn : nonce.size = 12) (hsz : (catS xs).size ≤ 10000) :
    ∃ A, oI c nonce xs i ++ A = oI c nonce xs (i + 1) ∧ Calls Try.prog 40 #[.pointer (some ⟨g, 0, none⟩), .string ti] W fun e w' => e = .returned (.tuple #[.string A, .int .i64 0]) ∧ SL w' g c n t (markS ++ nonce) (decide (0 < i + 1)) false (rI xs (i + 1)) (pI xs (i + 1)) (fI xs (i + 1)) ∧ W.grownBy w' (some g) := by
  obtain ⟨h1, h2, h3⟩ := oI_next c nonce xs i ti hi hnn _ rfl
  have hle := fI_le xs (i + 1)
  have hnx := fI_next xs i ti hi
  refine ⟨_, h3, ?_⟩
  have hw := write40 g c n t (markS ++ nonce) (decide (0 < i)) (rI xs i) (pI xs i) (fI xs i) ti W _ _ _ h hc (by rw [mark_size]; omega) (by unfold pI; omega) (rI_size xs i).2 (by omega) rfl rfl rfl
  refine hw.mono fun e w' q => ⟨q.1, ?_, q.2.2⟩
  have q2 := q.2.1
  rw [h2, ← h1, ← hnx] at q2
  rw [show decide (0 < i + 1) = true from by simp]
  exact q2
theorem close41_end (c n t nonce : ByteArray) (xs : List ByteArray) (g : Nat) (W : World) (h : SL W g c n t (markS ++ nonce) (decide (0 < xs.length)) false (rI xs xs.length) (pI xs xs.length) (fI xs xs.length)) (hc : c.size = 32) (hnn : nonce.size = 12) (hsz : (catS xs).size ≤ 10000) :
    ∃ A, oI c nonce xs xs.length ++ A = fileB c nonce (catS xs) ∧ Calls Try.prog 41 #[.pointer (some ⟨g, 0, none⟩)] W fun e w' => e = .returned (.tuple #[.string A, .int .i64 0]) ∧ W.grownBy w' (some g) :=
  ⟨_, oI_end c nonce xs, close41 g c n t (markS ++ nonce) (decide (0 < xs.length)) (rI xs xs.length) (pI xs xs.length) (fI xs xs.length) W h hc (by rw [mark_size]; omega) (by have := fI_le xs xs.length; unfold pI; omega) (by have := (rI_size xs xs.length).2; omega)⟩
theorem SL_start (xs : List ByteArray) : rI xs 0 = ⟨#[]⟩ := by
  unfold rI; rw [fI_zero]; apply ByteArray.ext; simp
set_option maxRecDepth 100000 in
set_option maxHeartbeats 8000000 in
theorem law8_ok (c n t nonce : ByteArray) (ap : Option Addr) (xs : List ByteArray) (cap : Nat) (f m : Int) (w : World) (hc : c.size = 32) (hn : n.size = 32) (ht : t.size = 16) (hnn : nonce.size = 12) (hx : TRow w ap xs) (hxs : (catS xs).size + xs.length ≤ 1048576) (hcap : xs.length ≤ cap) (hshort : (catS xs).size ≤ 10000) (hf1 : -9223372036854775808 ≤ f) (hf2 : f ≤ 9223372036854775807) (hm1 : -9223372036854775808 ≤ m) (hm2 : m ≤ 9223372036854775807) :
    Calls Try.prog 8 #[.agg #[.string c, .string n, .string t], .string nonce, .slice ap xs.length cap, .int .i64 f, .int .i64 m] w fun e w' => e = .returned (.bool true) ∧ Below w.heap.size w w' := by
  have HJ := Lib.hid (fun W (hW : TRow W ap xs) => join34 ap cap xs W hW (by omega) hcap (by omega))
  have HX := Lib.hid hx
  have HS := Lib.hid (fun W => seal35_file c n t nonce (catS xs) W hc hn ht hnn (by omega))
  have H36 := Lib.hid (fun W => keysError36 c n t W (by unfold maxLen; omega) (by unfold maxLen; omega) (by unfold maxLen; omega))
  have HE : kyE c n t = 0 := if_neg (by omega)
  rw [HE] at H36
  have d2 : decide ((1048576 : Int) < ((catS xs).size : Nat)) = false := decide_eq_false (by omega)
  have hts : (catS xs).size ≤ 10000 := hshort
  have HBR := Lib.hid (fun W => brief18 (catS xs) W (by unfold maxLen; omega))
  rw [decide_eq_true hshort] at HBR
  have H37 := Lib.hid (fun W => sealedFile37 c n t nonce (catS xs) W hc hnn (by omega))
  have H38 := Lib.hid (fun W => open38 c n t nonce (catS xs) W hc hn ht hnn (by omega))
  have H39 := Lib.hid (fun W => newSealer39_ok c n t nonce W hc hn ht hnn)
  have HW := Lib.hid (fun g i ti W h hi => write40_piece c n t nonce xs g i ti W h hi hc hnn hshort)
  have HCL := Lib.hid (fun g W h => close41_end c n t nonce xs g W h hc hnn hshort)
  have HOF := Lib.hid (fun i hi => oI_file c nonce xs i hnn hi)
  have HFA := Lib.hid (show fI xs xs.length = (catS xs).size from fI_all xs)
  have HFL := Lib.hid (fun i => fI_le xs i)
  have hFs : (fileB c nonce (catS xs)).size ≤ 2000000 := by rw [file_total c nonce _ hnn]; unfold nparts; omega
  have hb : ((nonce.size : Int) != 12) = false := by simp; omega
  have HFI := Lib.hid (show firstI [0, whenI false 6, whenI false 8] = 0 from rfl)
  have HK0 := Lib.hid (KB.new w c n t)
  have hxl : xs.length ≤ 1048576 := by omega
  have HP := Lib.hid (fun (fn mo : Nat) h1 h2 h3 => part_some c n t nonce (catS xs) fn mo hc hn ht hnn hts h1 h2 h3)
  have HPN := Lib.hid (fun (fn mo : Nat) B h1 h2 h3 h4 W => openPart44_none c n t nonce (catS xs) B fn mo W hc hn ht hnn (by omega) h1 h2 h3 h4)
  have HF20 := Lib.hid (file_head c nonce (catS xs) hnn)
  have HF20s := Lib.hid (show 20 ≤ (fileB c nonce (catS xs)).size from by rw [file_total c nonce _ hnn]; omega)
  generalize fileB c nonce (catS xs) = F at *
  generalize catS xs = text at *
  clear hx hcap hxs HE hshort
  go_enter Try.func8, Try.ntmps8
  go_wp2_with fail
  refine (HJ.out _ (HX.out.below HK0.out.1 (Nat.le_refl _))).mono ?_
  rintro e w1 ⟨rfl, b1⟩
  have HK1 := Lib.hid (HK0.out.below b1 (by simp))
  have c0 := HK1.out.2.2.1
  have c1 := HK1.out.2.2.2.1
  have c2 := HK1.out.2.2.2.2
  clear b1 HK0
  go_wp2_with fail
  refine (HS.out _).mono ?_
  rintro e w2 ⟨rfl, b2⟩
  have HK2 := Lib.hid (HK1.out.below b2 HK1.out.2.1)
  clear b2 c0 c1 c2 HK1
  have c0 := HK2.out.2.2.1
  have c1 := HK2.out.2.2.2.1
  have c2 := HK2.out.2.2.2.2
  go_wp2_with fail
  refine (H36.out _).mono ?_
  rintro e w3 ⟨rfl, b3⟩
  have HK3 := Lib.hid (HK2.out.below b3 HK2.out.2.1)
  clear b3 c0 c1 c2 HK2
  go_wp2_with fail
  refine (when17' false 6 _ _ rfl).mono ?_
  rintro e w' ⟨rfl, rfl⟩
  go_wp2_with fail
  refine (when17' false 8 _ _ rfl).mono ?_
  rintro e w' ⟨rfl, rfl⟩
  go_wp2_with fail
  refine (first3 _ _ _ _ _).mono ?_
  rintro e w' ⟨rfl, rfl⟩
  rw [HFI.out]
  go_wp2_with fail
  refine (seals13 _).mono ?_
  rintro e w5 ⟨rfl, b5⟩
  have HK5 := Lib.hid ((HK3.out.alloc _).below b5 (HK3.out.alloc _).2.1)
  clear b5 HK3
  go_wp2_with fail
  refine (HBR.out _).mono ?_
  rintro e w' ⟨rfl, rfl⟩
  have c0 := HK5.out.2.2.1
  have c1 := HK5.out.2.2.2.1
  have c2 := HK5.out.2.2.2.2
  go_wp2_with fail
  refine (H37.out _).mono ?_
  rintro e w6 ⟨rfl, b6⟩
  have HK6 := Lib.hid (HK5.out.below b6 HK5.out.2.1)
  clear b6 c0 c1 c2 HK5
  have c0 := HK6.out.2.2.1
  have c1 := HK6.out.2.2.2.1
  have c2 := HK6.out.2.2.2.2
  go_wp2_with fail
  refine (H38.out _).mono ?_
  rintro e w7 ⟨rfl, b7⟩
  have HK7 := Lib.hid (HK6.out.below b7 HK6.out.2.1)
  clear b7 c0 c1 c2 HK6
  have c0 := HK7.out.2.2.1
  have c1 := HK7.out.2.2.2.1
  have c2 := HK7.out.2.2.2.2
  go_wp2_with fail
  refine (H39.out _).mono ?_
  rintro e w8 ⟨g, rfl, hg, hsl, b8⟩
  have HK8 := Lib.hid (HK7.out.below b8 HK7.out.2.1)
  have HG := Lib.hid (Nat.le_trans HK7.out.2.1 hg)
  have HSL8 := Lib.hid hsl
  clear b8 c0 c1 c2 HK7 hg hsl
  go_wp2_with fail
  go_loopw [18, 19, 111] (fun ov fv iv wr => ∃ i : Nat, i ≤ xs.length ∧ ov = .string (oI c nonce xs i) ∧ fv = .int .i64 (fI xs i : Nat) ∧ iv = .int .i64 (i : Nat) ∧ KB w c n t wr ∧ SL wr g c n t (markS ++ nonce) (decide (0 < i)) false (rI xs i) (pI xs i) (fI xs i)) (fun _ _ iv _ => xs.length - (intOf iv).toNat)
  case atStart => exact ⟨0, by omega, rfl, rfl, rfl, HK8.out, by rw [SL_start, show pI xs 0 = 0 from by unfold pI; rw [fI_zero], fI_zero, show decide (0 < 0) = false from rfl]; exact HSL8.out⟩
  case round =>
    clear HK8 HSL8
    obtain ⟨i, hi, rfl, rfl, rfl, hkb, hsl⟩ := hrel
    have HKB := Lib.hid hkb
    have HSL := Lib.hid hsl
    clear hkb hsl
    by_cases hlt : i < xs.length
    · have hd : decide (i < xs.length) = true := decide_eq_true hlt
      have hk1 : (i : Int) < (xs.length : Int) := by omega
      obtain ⟨ti, hti⟩ : ∃ ti, xs[i]? = some ti := ⟨_, List.getElem?_eq_getElem hlt⟩
      obtain ⟨bk, o, rfl, hbk, hcells⟩ : ∃ bk o, ap = some ⟨bk, o, none⟩ ∧ bk < w.heap.size ∧ ∀ (j : Nat) x, xs[j]? = some x → w.cell? ⟨bk, o + j, none⟩ = some (.string x) := HX.out.resolve_left (by intro h; rw [h] at hlt; simp at hlt)
      have hcx : wr.cell? ⟨bk, o + i, none⟩ = some (.string ti) := (HKB.out.1.cell (p := ⟨bk, o + i, none⟩) hbk).trans (hcells i ti hti)
      clear hcells
      obtain ⟨A, hA, hW⟩ := HW.out g i ti wr HSL.out hti
      have HWC := Lib.hid hW
      obtain ⟨h1, h2, h3⟩ := HOF.out (i + 1) (by omega)
      have hnx := fI_next xs i ti hti
      have hle := HFL.out (i + 1)
      have hsum : (oI c nonce xs i).size + A.size = (oI c nonce xs (i + 1)).size := by rw [← hA, ByteArray.size_append]
      have hO2 : (oI c nonce xs (i + 1)).size ≤ 2000000 := by omega
      have HFI1 := Lib.hid (show pI xs (i + 1) = (fI xs (i + 1) - 1) / 1024 from rfl)
      have HSL9 := Lib.hid HSL.out
      clear hW hti HSL9
      generalize hOO : oI c nonce xs (i + 1) = O2 at *
      generalize oI c nonce xs i = O at *
      obtain ⟨f2, hf2⟩ : ∃ f2, f2 = fI xs (i + 1) := ⟨_, rfl⟩
      obtain ⟨q, hq⟩ : ∃ q, q = pI xs (i + 1) := ⟨_, rfl⟩
      obtain ⟨u, hu⟩ : ∃ u, u = f2 - 1 := ⟨_, rfl⟩
      obtain ⟨S, hS⟩ : ∃ S, S = 20 + q * 1040 := ⟨_, rfl⟩
      rw [← hq, ← hS] at h1 h2 h3
      rw [← hf2] at hnx hle
      have HF1 := HFI1.out
      rw [← hq, ← hf2, ← hu] at HF1
      have hfed : ((fI xs i : Nat) : Int) + (ti.size : Nat) = (f2 : Nat) := by omega
      have hmax : max (0 : Int) ((f2 : Nat) - 1) = (u : Nat) := by omega
      have hdiv : ((u : Nat) : Int) / 1024 = (q : Nat) := by omega
      have hSi : (20 : Int) + (q : Nat) * 1040 = (S : Nat) := by omega
      have hne : ((O2.size : Int) != (S : Nat)) = false := by simp; omega
      have hle2 : (S : Int) ≤ (F.size : Nat) := by omega
      have ha1 : O.size + A.size ≤ 9223372036854775807 := by omega
      have ha2 : ¬ maxLen < O.size + A.size := by unfold maxLen; omega
      have ha3 : ¬ 9223372036854775807 < O.size + A.size := by omega
      have ha4 : O.size + A.size ≤ maxLen := by unfold maxLen; omega
      have hq3 : (q : Int) ≤ 1000 := by omega
      have hf3 : f2 ≤ 10000 := by omega
      have hti3 : ti.size ≤ 10000 := by omega
      have hfi3 : fI xs i ≤ 10000 := by omega
      have HQ := Lib.hid (show q = pI xs (i + 1) ∧ f2 = fI xs (i + 1) from ⟨hq, hf2⟩)
      clear hq hf2 hu hS HF1 hnx hle hsum h1 HFI1
      go_wp2_with fail
      refine (HWC.out).mono ?_
      rintro e w9 ⟨rfl, hsl9, hgr9⟩
      have HKB9 := Lib.hid (HKB.out.only hgr9 HG.out)
      have HSLn := Lib.hid hsl9
      clear hsl9 hgr9 hcx
      go_wp2_with fail
      go_roundw
      case rel => exact ⟨i + 1, by omega, by rw [hOO], by rw [HQ.out.2], by go_num, HKB9.out, HSLn.out⟩
      case measure => simp [intOf]; omega
    · have hd : decide (i < xs.length) = false := decide_eq_false hlt
      have hk1 : ¬ (i : Int) < (xs.length : Int) := by omega
      obtain rfl : i = xs.length := by omega
      obtain ⟨A, hA, hW⟩ := HCL.out g wr HSL.out
      have HWC := Lib.hid hW
      have hsum : (oI c nonce xs xs.length).size + A.size = F.size := by rw [← hA, ByteArray.size_append]
      clear hW HSL HW HCL HOF HFA HFL
      generalize oI c nonce xs xs.length = O at *
      have ha1 : O.size + A.size ≤ 9223372036854775807 := by omega
      have ha2 : ¬ maxLen < O.size + A.size := by unfold maxLen; omega
      have ha3 : ¬ 9223372036854775807 < O.size + A.size := by omega
      have ha4 : O.size + A.size ≤ maxLen := by unfold maxLen; omega
      clear hsum
      go_wp2_with fail
      refine (HWC.out).mono ?_
      rintro e w9 ⟨rfl, hgr9⟩
      have HK9 := Lib.hid (HKB.out.only hgr9 HG.out)
      clear hgr9 HKB
      go_wp2_with fail
      clear ha1 ha2 ha3 ha4 hA HWC hd hk1 hlt hi
      by_cases hbad : f < 0 ∨ m < 0
      · have HN := Lib.hid (fun W => needed42_bad (text.size : Nat) f m W (by omega) (by omega) hbad)
        by_cases hf0 : f < 0
        · have k1 : decide (f < 0) = true := decide_eq_true hf0
          clear hbad
          refine (HN.out _).mono ?_
          rintro e w' ⟨rfl, rfl⟩
          go_wp2_with fail
          refine (when17' true 7 _ _ rfl).mono ?_
          rintro e w' ⟨rfl, rfl⟩
          rw [show whenI true 7 = 7 from rfl]
          go_wp2_with fail
          go_ret
          exact ⟨rfl, HK9.out.1⟩
        · have k1 : decide (f < 0) = false := decide_eq_false hf0
          have k2 : decide (m < 0) = true := decide_eq_true (by omega)
          clear hbad
          refine (HN.out _).mono ?_
          rintro e w' ⟨rfl, rfl⟩
          go_wp2_with fail
          refine (when17' true 7 _ _ rfl).mono ?_
          rintro e w' ⟨rfl, rfl⟩
          rw [show whenI true 7 = 7 from rfl]
          go_wp2_with fail
          go_ret
          exact ⟨rfl, HK9.out.1⟩
      · obtain ⟨fn, rfl⟩ : ∃ fn : Nat, f = fn := ⟨f.toNat, by omega⟩
        obtain ⟨mo, rfl⟩ : ∃ mo : Nat, m = mo := ⟨m.toNat, by omega⟩
        have k1 : decide ((fn : Int) < 0) = false := decide_eq_false (by omega)
        have k2 : decide ((mo : Int) < 0) = false := decide_eq_false (by omega)
        have hfn : fn ≤ 9223372036854775807 := by omega
        have hmo : mo ≤ 9223372036854775807 := by omega
        have HWN := Lib.hid (show whenI false 7 = 0 from rfl)
        clear hbad
        by_cases hz : ndM (text.size : Nat) (fn : Nat) (mo : Nat) ≤ 0
        · obtain ⟨a, ha⟩ : ∃ a : Nat, 0 = a := ⟨0, rfl⟩
          obtain ⟨l, hl⟩ : ∃ l : Nat, 0 = l := ⟨0, rfl⟩
          have H42 := Lib.hid (show ∀ W, Calls Try.prog 42 #[.int .i64 (text.size : Nat), .int .i64 (fn : Nat), .int .i64 (mo : Nat)] W fun e w' => e = .returned (.tuple #[.int .i64 (a : Nat), .int .i64 (l : Nat), .int .i64 0]) ∧ W = w' from fun W => by rw [← ha, ← hl]; exact need_none text.size fn mo W (by omega) hfn hmo hz)
          have H43 := Lib.hid (show ∀ W, Calls Try.prog 43 #[.int .i64 (text.size : Nat), .int .i64 (fn : Nat), .int .i64 (mo : Nat)] W fun e w' => e = .returned (.tuple #[.int .i64 (a : Nat), .int .i64 (l : Nat)]) ∧ W = w' from fun W => by rw [← ha, ← hl]; exact needOf_none text.size fn mo W (by omega) hfn hmo hz)
          obtain ⟨b, hb9⟩ : ∃ b : Nat, b = a + l := ⟨_, rfl⟩
          have hb0 : b = 0 := by omega
          have ha3 : (a : Int) ≤ 1000 := by omega
          have hl3 : (l : Int) ≤ 1000 := by omega
          have hab : (a : Int) + (l : Nat) = (b : Nat) := by omega
          have hb1 : b ≤ F.size := by omega
          have hb2 : a ≤ b := by omega
          have hb3 : (b : Int) ≤ (F.size : Nat) := by omega
          have hb4 : (a : Int) ≤ (b : Nat) := by omega
          have hwb : IntKind.i64.wrap ((b : Nat) : Int) = (b : Nat) := IntWalk.i64_in _ (by omega)
          obtain ⟨B, hB⟩ : ∃ B, F.extract a b = B := ⟨_, rfl⟩
          have H44 := Lib.hid (HPN.out fn mo B hfn hmo hz (by rw [← hB, hb0]; simp))
          clear ha hl hb9 hb0
          have hF20 := HF20.out
          have hF3 := HF20s.out
          have hF4 : (20 : Int) ≤ (F.size : Nat) := by omega
          clear HPN HP
          by_cases hlt2 : fn < text.size
          · have k3 : decide ((fn : Int) < (text.size : Nat)) = true := decide_eq_true (by omega)
            have k4 : (fn : Int) < (text.size : Nat) := by omega
            have hmin0 : min (mo : Int) ((text.size : Nat) - (fn : Nat)) = ((0 : Nat) : Int) := by unfold ndM at hz; omega
            obtain ⟨z, hz0, hmin⟩ : ∃ z : Nat, z = 0 ∧ min (mo : Int) ((text.size : Nat) - (fn : Nat)) = (z : Nat) := ⟨0, rfl, hmin0⟩
            obtain ⟨y, hy⟩ : ∃ y : Nat, y = fn + z := ⟨_, rfl⟩
            have hadd : (fn : Int) + (z : Nat) = (y : Nat) := by omega
            have hpart : text.extract fn y = ⟨#[]⟩ := by rw [hy, hz0]; apply ByteArray.ext; simp
            have hy1 : y ≤ text.size := by omega
            have hy2 : fn ≤ y := by omega
            have HZ := Lib.hid hz0
            clear hmin0 hz hz0 hy
            refine (H42.out _).mono ?_
            rintro e w' ⟨rfl, rfl⟩
            go_wp2_with fail
            refine (when17' false 7 _ _ rfl).mono ?_
            rintro e w' ⟨rfl, rfl⟩
            rw [HWN.out]
            go_wp2_with fail
            refine (H43.out _).mono ?_
            rintro e w' ⟨rfl, rfl⟩
            have c0 := HK9.out.2.2.1
            have c1 := HK9.out.2.2.2.1
            have c2 := HK9.out.2.2.2.2
            go_wp2_with fail
            refine wp_region_mid 13 #[true, true, true, true, true, true, true, true, true, true, true, true, true, false, false, false, false, false, false] (by kernel_rfl) (by kernel_rfl) ?_
            simp only [List.take_succ_cons, List.take_zero]
            repeat still_step
            refine wpStill_nil ?_
            change wpAny _ _ _ _ 6 _ _ w9.drew
            refine wpAny_ready (rs := [13]) (by kernel_rfl) (by simp) ?_
            refine AllReady.cons rfl (fun K hK => ?_) AllReady.nil
            go_simp
            refine (H44.out _).mono ?_
            rintro e w10 ⟨rfl, b10⟩
            dsimp only
            refine hK _ _ ?_
            clear hK K
            simp only [Act.put, List.setIfInBounds_toArray, List.set_cons_zero, List.set_cons_succ]
            refine wpAny_take (i := 14) (v := .tuple #[.string ⟨#[]⟩, .int .i64 0]) rfl (by kernel_rfl) (by kernel_rfl) (by kernel_rfl) (fun _ _ _ h => h) (Or.inl ⟨by rfl, by intro w; go_simp⟩) ?_
            simp only [Act.put, List.setIfInBounds_toArray, List.set_cons_zero, List.set_cons_succ]
            refine wpAny_take (i := 15) (v := .string ⟨#[]⟩) rfl (by kernel_rfl) (by kernel_rfl) (by kernel_rfl) (fun _ _ _ h => h) (Or.inl ⟨by rfl, by intro w; go_simp⟩) ?_
            simp only [Act.put, List.setIfInBounds_toArray, List.set_cons_zero, List.set_cons_succ]
            refine wpAny_take (i := 16) (v := .int .i64 0) rfl (by kernel_rfl) (by kernel_rfl) (by kernel_rfl) (fun _ _ _ h => h) (Or.inl ⟨by rfl, by intro w; go_simp⟩) ?_
            simp only [Act.put, List.setIfInBounds_toArray, List.set_cons_zero, List.set_cons_succ]
            refine wpAny_take (i := 17) (v := .string ⟨#[]⟩) rfl (by kernel_rfl) (by kernel_rfl) (by kernel_rfl) (fun _ _ _ h => h) (Or.inl ⟨by rfl, by intro w; go_simp⟩) ?_
            simp only [Act.put, List.setIfInBounds_toArray, List.set_cons_zero, List.set_cons_succ]
            refine wpAny_take (i := 18) (v := .int .i64 0) rfl (by kernel_rfl) (by kernel_rfl) (by kernel_rfl) (fun _ _ _ h => h) (Or.inl ⟨by rfl, by intro w; go_simp⟩) ?_
            simp only [Act.put, List.setIfInBounds_toArray, List.set_cons_zero, List.set_cons_succ]
            refine wpAny_done (by kernel_rfl) ?_ _
            have HK10 := Lib.hid (HK9.out.drew.below b10 HK9.out.drew.2.1)
            clear b10 c0 c1 c2
            go_wp2_with fail
            go_ret
            exact ⟨rfl, HK10.out.1⟩
          · have k3 : decide ((fn : Int) < (text.size : Nat)) = false := decide_eq_false (by omega)
            have k4 : ¬ (fn : Int) < (text.size : Nat) := by omega
            have k5 : decide (fn < text.size) = false := decide_eq_false hlt2
            clear hz
            refine (H42.out _).mono ?_
            rintro e w' ⟨rfl, rfl⟩
            go_wp2_with fail
            refine (when17' false 7 _ _ rfl).mono ?_
            rintro e w' ⟨rfl, rfl⟩
            rw [HWN.out]
            go_wp2_with fail
            refine (H43.out _).mono ?_
            rintro e w' ⟨rfl, rfl⟩
            have c0 := HK9.out.2.2.1
            have c1 := HK9.out.2.2.2.1
            have c2 := HK9.out.2.2.2.2
            go_wp2_with fail
            refine wp_region_mid 13 #[true, true, true, true, true, true, true, true, true, true, true, true, true, false, false, false, false, false, false] (by kernel_rfl) (by kernel_rfl) ?_
            simp only [List.take_succ_cons, List.take_zero]
            repeat still_step
            refine wpStill_nil ?_
            change wpAny _ _ _ _ 6 _ _ w9.drew
            refine wpAny_ready (rs := [13]) (by kernel_rfl) (by simp) ?_
            refine AllReady.cons rfl (fun K hK => ?_) AllReady.nil
            go_simp
            refine (H44.out _).mono ?_
            rintro e w10 ⟨rfl, b10⟩
            dsimp only
            refine hK _ _ ?_
            clear hK K
            simp only [Act.put, List.setIfInBounds_toArray, List.set_cons_zero, List.set_cons_succ]
            refine wpAny_take (i := 14) (v := .tuple #[.string ⟨#[]⟩, .int .i64 0]) rfl (by kernel_rfl) (by kernel_rfl) (by kernel_rfl) (fun _ _ _ h => h) (Or.inl ⟨by rfl, by intro w; go_simp⟩) ?_
            simp only [Act.put, List.setIfInBounds_toArray, List.set_cons_zero, List.set_cons_succ]
            refine wpAny_take (i := 15) (v := .string ⟨#[]⟩) rfl (by kernel_rfl) (by kernel_rfl) (by kernel_rfl) (fun _ _ _ h => h) (Or.inl ⟨by rfl, by intro w; go_simp⟩) ?_
            simp only [Act.put, List.setIfInBounds_toArray, List.set_cons_zero, List.set_cons_succ]
            refine wpAny_take (i := 16) (v := .int .i64 0) rfl (by kernel_rfl) (by kernel_rfl) (by kernel_rfl) (fun _ _ _ h => h) (Or.inl ⟨by rfl, by intro w; go_simp⟩) ?_
            simp only [Act.put, List.setIfInBounds_toArray, List.set_cons_zero, List.set_cons_succ]
            refine wpAny_take (i := 17) (v := .string ⟨#[]⟩) rfl (by kernel_rfl) (by kernel_rfl) (by kernel_rfl) (fun _ _ _ h => h) (Or.inl ⟨by rfl, by intro w; go_simp⟩) ?_
            simp only [Act.put, List.setIfInBounds_toArray, List.set_cons_zero, List.set_cons_succ]
            refine wpAny_take (i := 18) (v := .int .i64 0) rfl (by kernel_rfl) (by kernel_rfl) (by kernel_rfl) (fun _ _ _ h => h) (Or.inl ⟨by rfl, by intro w; go_simp⟩) ?_
            simp only [Act.put, List.setIfInBounds_toArray, List.set_cons_zero, List.set_cons_succ]
            refine wpAny_done (by kernel_rfl) ?_ _
            have HK10 := Lib.hid (HK9.out.drew.below b10 HK9.out.drew.2.1)
            clear b10 c0 c1 c2
            go_wp2_with fail
            go_ret
            exact ⟨rfl, HK10.out.1⟩
        · obtain ⟨a, l, m2, hfm, hm0, hmin, hF20, hF3, hal, hA', hL', H44⟩ := HP.out fn mo hfn hmo (by omega)
          have H42 := Lib.hid (fun W => need_some text.size fn mo a l W (by omega) hfn hmo (by omega) hA' hL')
          have H43 := Lib.hid (fun W => needOf_some text.size fn mo a l W (by omega) hfn hmo (by omega) hA' hL')
          have hF4 : (20 : Int) ≤ (F.size : Nat) := by omega
          obtain ⟨y, hy⟩ : ∃ y : Nat, y = fn + m2 := ⟨_, rfl⟩
          obtain ⟨b, hb9⟩ : ∃ b : Nat, b = a + l := ⟨_, rfl⟩
          rw [← hb9, ← hy] at H44
          have H44 := Lib.hid H44
          have hab : (a : Int) + (l : Nat) = (b : Nat) := by omega
          have hadd : (fn : Int) + (m2 : Nat) = (y : Nat) := by omega
          have hb1 : b ≤ F.size := by omega
          have hb2 : a ≤ b := by omega
          have hb3 : (b : Int) ≤ (F.size : Nat) := by omega
          have hb4 : (a : Int) ≤ (b : Nat) := by omega
          have hwb : IntKind.i64.wrap ((b : Nat) : Int) = (b : Nat) := IntWalk.i64_in _ (by omega)
          have hy1 : y ≤ text.size := by omega
          have hy2 : fn ≤ y := by omega
          have hy3 : (y : Int) ≤ (text.size : Nat) := by omega
          have hy4 : (fn : Int) ≤ (y : Nat) := by omega
          obtain ⟨B, hB⟩ : ∃ B, F.extract a b = B := ⟨_, rfl⟩
          rw [hB] at H44
          have k3 : decide ((fn : Int) < (text.size : Nat)) = true := decide_eq_true (by omega)
          have k4 : (fn : Int) < (text.size : Nat) := by omega
          have k5 : decide (fn < text.size) = true := decide_eq_true (by omega)
          clear HPN HP hz hA' hL' hy hb9 hfm hm0 hal
          skip
          refine (H42.out _).mono ?_
          rintro e w' ⟨rfl, rfl⟩
          go_wp2_with fail
          refine (when17' false 7 _ _ rfl).mono ?_
          rintro e w' ⟨rfl, rfl⟩
          rw [HWN.out]
          go_wp2_with fail
          refine (H43.out _).mono ?_
          rintro e w' ⟨rfl, rfl⟩
          have c0 := HK9.out.2.2.1
          have c1 := HK9.out.2.2.2.1
          have c2 := HK9.out.2.2.2.2
          go_wp2_with fail
          refine wp_region_mid 13 #[true, true, true, true, true, true, true, true, true, true, true, true, true, false, false, false, false, false, false] (by kernel_rfl) (by kernel_rfl) ?_
          simp only [List.take_succ_cons, List.take_zero]
          repeat still_step
          refine wpStill_nil ?_
          change wpAny _ _ _ _ 6 _ _ w9.drew
          refine wpAny_ready (rs := [13]) (by kernel_rfl) (by simp) ?_
          refine AllReady.cons rfl (fun K hK => ?_) AllReady.nil
          go_simp
          refine (H44.out _).mono ?_
          rintro e w10 ⟨rfl, b10⟩
          dsimp only
          refine hK _ _ ?_
          clear hK K
          simp only [Act.put, List.setIfInBounds_toArray, List.set_cons_zero, List.set_cons_succ]
          refine wpAny_take (i := 14) (v := .tuple #[.string (text.extract fn y), .int .i64 0]) rfl (by kernel_rfl) (by kernel_rfl) (by kernel_rfl) (fun _ _ _ h => h) (Or.inl ⟨by rfl, by intro w; go_simp⟩) ?_
          simp only [Act.put, List.setIfInBounds_toArray, List.set_cons_zero, List.set_cons_succ]
          refine wpAny_take (i := 15) (v := .string (text.extract fn y)) rfl (by kernel_rfl) (by kernel_rfl) (by kernel_rfl) (fun _ _ _ h => h) (Or.inl ⟨by rfl, by intro w; go_simp⟩) ?_
          simp only [Act.put, List.setIfInBounds_toArray, List.set_cons_zero, List.set_cons_succ]
          refine wpAny_take (i := 16) (v := .int .i64 0) rfl (by kernel_rfl) (by kernel_rfl) (by kernel_rfl) (fun _ _ _ h => h) (Or.inl ⟨by rfl, by intro w; go_simp⟩) ?_
          simp only [Act.put, List.setIfInBounds_toArray, List.set_cons_zero, List.set_cons_succ]
          refine wpAny_take (i := 17) (v := .string (text.extract fn y)) rfl (by kernel_rfl) (by kernel_rfl) (by kernel_rfl) (fun _ _ _ h => h) (Or.inl ⟨by rfl, by intro w; go_simp⟩) ?_
          simp only [Act.put, List.setIfInBounds_toArray, List.set_cons_zero, List.set_cons_succ]
          refine wpAny_take (i := 18) (v := .int .i64 0) rfl (by kernel_rfl) (by kernel_rfl) (by kernel_rfl) (fun _ _ _ h => h) (Or.inl ⟨by rfl, by intro w; go_simp⟩) ?_
          simp only [Act.put, List.setIfInBounds_toArray, List.set_cons_zero, List.set_cons_succ]
          refine wpAny_done (by kernel_rfl) ?_ _
          have HK10 := Lib.hid (HK9.out.drew.below b10 HK9.out.drew.2.1)
          clear b10 c0 c1 c2
          go_wp2_with fail
          go_ret
          exact ⟨rfl, HK10.out.1⟩
end Go.Proofs.Ytnjmcppljbkhnaa
