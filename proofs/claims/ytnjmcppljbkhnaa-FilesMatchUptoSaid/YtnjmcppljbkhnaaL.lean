import Derived.Test.YtnjmcppljbkhnaaP
set_option linter.unusedVariables false
set_option linter.unusedSimpArgs false
namespace Go.Proofs.Ytnjmcppljbkhnaa
open Go.RowKit

set_option maxRecDepth 100000 in
set_option maxHeartbeats 8000000 in
theorem tag54 (key text : ByteArray) (w : World) (hk : key.size = 32) (hm : text.size ≤ maxLen) :
    Calls Try.prog 54 #[.string key, .string text] w fun e w' => e = .returned (.agg (row8 16 (bytesN (tagN key text)))) ∧ Below w.heap.size w w' := by
  have hk1 : key.size ≤ 32 := by omega
  have hk2 : 32 ≤ key.size := by omega
  unfold maxLen at hm
  clear hk
  have x4 : lw (key.extract 4 key.size) 0 = lw key 4 := lw_extract key 4 0 (by omega)
  have x8 : lw (key.extract 8 key.size) 0 = lw key 8 := lw_extract key 8 0 (by omega)
  have x12 : lw (key.extract 12 key.size) 0 = lw key 12 := lw_extract key 12 0 (by omega)
  have ha := clampA (lw key 0) (lw_lt _ _)
  have hb := clampB (lw key 4) (lw_lt _ _)
  have hc := clampB (lw key 8) (lw_lt _ _)
  have hd := clampB (lw key 12) (lw_lt _ _)
  have HR := Lib.hid (show rF key = rL (lw key 0 % 268435456) (lw key 4 % 268435456 / 4 * 4) (lw key 8 % 268435456 / 4 * 4) (lw key 12 % 268435456 / 4 * 4) from rfl)
  have la : lw key 0 % 268435456 < 268435456 := Nat.mod_lt _ (by decide)
  have lb : lw key 4 % 268435456 / 4 * 4 < 268435456 := by omega
  have lc : lw key 8 % 268435456 / 4 * 4 < 268435456 := by omega
  have ld : lw key 12 % 268435456 / 4 * 4 < 268435456 := by omega
  generalize lw key 0 % 268435456 = a at *
  generalize lw key 4 % 268435456 / 4 * 4 = b at *
  generalize lw key 8 % 268435456 / 4 * 4 = c at *
  generalize lw key 12 % 268435456 / 4 * 4 = d at *
  have f0 := low26 a (by omega)
  have f1 : bits BinOp.and IntKind.u64 (bits BinOp.or IntKind.u64 ((a : Int) / 67108864) ((b : Int) * 64)) 67108863 = (((a / 67108864 + b * 64) % 67108864 : Nat) : Int) := limb_or' a b 67108864 64 6 (by decide) (by omega) (by omega)
  have f2 : bits BinOp.and IntKind.u64 (bits BinOp.or IntKind.u64 ((b : Int) / 1048576) ((c : Int) * 4096)) 67108863 = (((b / 1048576 + c * 4096) % 67108864 : Nat) : Int) := limb_or' b c 1048576 4096 12 (by decide) (by omega) (by omega)
  have f3 : bits BinOp.and IntKind.u64 (bits BinOp.or IntKind.u64 ((c : Int) / 16384) ((d : Int) * 262144)) 67108863 = (((c / 16384 + d * 262144) % 67108864 : Nat) : Int) := limb_or' c d 16384 262144 18 (by decide) (by omega) (by omega)
  have e0 : a % 67108864 = rF key 0 := by rw [HR.out]; rfl
  have e1 : (a / 67108864 + b * 64) % 67108864 = rF key 1 := by rw [HR.out]; rfl
  have e2 : (b / 1048576 + c * 4096) % 67108864 = rF key 2 := by rw [HR.out]; rfl
  have e3 : (c / 16384 + d * 262144) % 67108864 = rF key 3 := by rw [HR.out]; rfl
  have e4 : d / 256 = rF key 4 := by rw [HR.out]; rfl
  have f4 : (d : Int) / 256 = ((rF key 4 : Nat) : Int) := by rw [← e4]; simp
  rw [e0] at f0
  rw [e1] at f1
  rw [e2] at f2
  rw [e3] at f3
  clear e0 e1 e2 e3 e4 HR
  go_enter Try.func54, Try.ntmps54
  go_wp2_with fail
  go_quiet ((go_at_call 86; exact Calls.quiet_of (littleWord86 _ _ (by first | omega | (simp; omega)))))
  go_wp2_with fail
  have HT0 := Lib.hid (TS_start w (rF key) nq)
  clear f0 f1 f2 f3 f4 ha hb hc hd x4 x8 x12 la lb lc ld
  generalize ((((((((w.alloc (.cells #[.int .u8 0, .int .u8 0, .int .u8 0, .int .u8 0, .int .u8 0, .int .u8 0, .int .u8 0, .int .u8 0, .int .u8 0, .int .u8 0, .int .u8 0, .int .u8 0, .int .u8 0, .int .u8 0, .int .u8 0, .int .u8 0] 86)).alloc (.cells #[.int .u64 0, .int .u64 0, .int .u64 0, .int .u64 0, .int .u64 0] 128)).drewN nq).setCell ⟨w.heap.size + 1, 0, none⟩ (.int .u64 (rF key 0 : Nat))).setCell ⟨w.heap.size + 1, 1, none⟩ (.int .u64 (rF key 1 : Nat))).setCell ⟨w.heap.size + 1, 2, none⟩ (.int .u64 (rF key 2 : Nat))).setCell ⟨w.heap.size + 1, 3, none⟩ (.int .u64 (rF key 3 : Nat))).setCell ⟨w.heap.size + 1, 4, none⟩ (.int .u64 (rF key 4 : Nat)) |>.alloc (.cells #[.int .u64 0, .int .u64 0, .int .u64 0, .int .u64 0, .int .u64 0] 128)) = w3 at *
  go_loopw [1] (fun v wr => ∃ (k : Nat) (T : ByteArray), 16 * k ≤ text.size + 15 ∧ v = .string T ∧ TSr w key text k T wr) (fun v _ => (strOf v).size)
  case atStart =>
    refine ⟨0, text, by omega, rfl, by omega, fun i => by simp, fun _ => 0, HT0.out, ?_, ?_, ?_⟩
    · unfold Limbs; decide
    · intro i; exact Nat.zero_lt_succ _
    · rfl
  case round =>
    clear HT0
    obtain ⟨k, T, hk, rfl, hT, hat, h, hts, hlim, hw64, hval⟩ := hrel
    have HSZ := Lib.hid hT
    have HAT := Lib.hid hat
    have HS := Lib.hid hts
    have HL := Lib.hid hlim
    have HW := Lib.hid hw64
    have HV := Lib.hid hval
    have hTm : T.size ≤ 9223372036854775807 := by omega
    clear hT hat hts hlim hw64 hval
    by_cases hne : 0 < T.size
    · obtain ⟨m, hm1, hm2, hm3, hmm⟩ : ∃ m : Nat, m ≤ 16 ∧ m ≤ T.size ∧ 0 < m ∧ m = min 16 T.size := ⟨min 16 T.size, by omega, by omega, by omega, rfl⟩
      have HMM := Lib.hid hmm
      have hmin : (if (T.size : Int) < 16 then (T.size : Int) else 16) = (m : Int) := by
        split <;> omega
      clear hmm
      have HN := Lib.hid (TS3_new HS.out T m)
      have hemp : T.toList.isEmpty = false := empty_of T hne
      have hemp' : (!T.toList.isEmpty) = true := by rw [hemp]; rfl
      have hcp := copy17 (w := (wr.alloc (.cells #[.int .u8 0, .int .u8 0, .int .u8 0, .int .u8 0, .int .u8 0, .int .u8 0, .int .u8 0, .int .u8 0, .int .u8 0, .int .u8 0, .int .u8 0, .int .u8 0, .int .u8 0, .int .u8 0, .int .u8 0, .int .u8 0, .int .u8 0] 130)).drew) (g := wr.heap.size) T m hm1 hm2 (by rw [zero17]; exact Blk.new wr 130 _)
      have i1 : (m : Int) < 17 := by omega
      have i2 : (m : Int) ≤ (T.size : Int) := by omega
      have z1 := fz17 wr T m
      have c1 := ce17 wr T m (by omega)
      go_wp2_with fail
      go_still_tail 4, (by kernel_rfl)
      change wpList _ _ _ _ _ (wr.alloc _).drew
      go_wp2_with fail
      clear hcp z1 c1 hmin hemp hemp'
      have HPF := Lib.hid (pB_lt T 0 m)
      generalize hPP : pB T 0 m = P at *
      have HPP := Lib.hid hPP
      clear hPP
      have HA := HN
      generalize (((wr.alloc _).drew.setRow wr.heap.size (row8 17 (cpB T m)))).setCell ⟨wr.heap.size, m, none⟩ (.int .u8 1) = w4 at *
      clear HN HS
      have hg := HA.out.2.1
      generalize wr.heap.size = g at *
      have HL0 := Lib.hid HL.out.1
      have HL1 := Lib.hid HL.out.2.1
      have HL2 := Lib.hid HL.out.2.2.1
      have HL3 := Lib.hid HL.out.2.2.2.1
      have HL4 := Lib.hid HL.out.2.2.2.2

      have HB0 := Lib.hid (show h 0 < 67108874 from by have := HL0.out; omega)
      go_cut [] (fun wx => TS3 w (rF key) (upd h 0 (h 0 + (lwF P 0 % 67108864))) P g wx)
      case first =>
        have c0 := (HA.out.1.2.2.2.2.cell 0).trans (row64_at _ 0 (by omega))
        have z0 := HA.out.1.2.2.2.2.frozen 0
        have hb := HB0.out
        have lw0 := lwF_lt P 0 HPF.out
        have e1 := low26 (lwF P 0) (by omega)
        have e2 : IntKind.u64.wrap ((h 0 : Int) + ((lwF P 0 % 67108864 : Nat) : Int)) = ((h 0 + (lwF P 0 % 67108864) : Nat) : Int) := by rw [wrap64]; omega
        have e3 : ((h 0 : Int) + ((lwF P 0 % 67108864 : Nat) : Int)) % 18446744073709551616 = ((h 0 + (lwF P 0 % 67108864) : Nat) : Int) := by omega
        generalize hval : (lwF P 0 % 67108864) = vv at *
        clear hval
        go_region_with (go_at_call 87; refine (word87I P g 0 0 _ (by decide) HPF.out (by omega) (by exact HA.out.2.2.2)).mono ?_; rintro e w' ⟨rfl, n0, rfl⟩)
        all_goals
          go_wp2_with fail
          go_meet
          first | exact HA.out.store _ 0 _ | exact (HA.out.store _ 0 _).drew
      case rest =>
        have HA1 := Lib.hid hcut
        clear hcut HA
        have HLn1 := Lib.hid (show upd h 0 (h 0 + (lwF P 0 % 67108864)) 1 < 67108864 from by have := HL1.out; simpa [upd] using this)
        have HLn2 := Lib.hid (show upd h 0 (h 0 + (lwF P 0 % 67108864)) 2 < 67108864 from by have := HL2.out; simpa [upd] using this)
        have HLn3 := Lib.hid (show upd h 0 (h 0 + (lwF P 0 % 67108864)) 3 < 67108864 from by have := HL3.out; simpa [upd] using this)
        have HLn4 := Lib.hid (show upd h 0 (h 0 + (lwF P 0 % 67108864)) 4 < 67108864 from by have := HL4.out; simpa [upd] using this)
        clear HL1
        have HL1 := HLn1
        clear HLn1
        clear HL2
        have HL2 := HLn2
        clear HLn2
        clear HL3
        have HL3 := HLn3
        clear HLn3
        clear HL4
        have HL4 := HLn4
        clear HLn4
        generalize hU0 : upd h 0 (h 0 + (lwF P 0 % 67108864)) = h1 at *
        have HU0 := Lib.hid hU0
        clear hU0
        have HB1 := Lib.hid (show h1 1 < 67108874 from by have := HL1.out; omega)
        go_upto_region 14 with (fail)
        go_cut [] (fun wx => TS3 w (rF key) (upd h1 1 (h1 1 + (lwF P 3 / 4 % 67108864))) P g wx)
        case first =>
          have c0 := (HA1.out.1.2.2.2.2.cell 1).trans (row64_at _ 1 (by omega))
          have z0 := HA1.out.1.2.2.2.2.frozen 1
          have hb := HB1.out
          have lw0 := lwF_lt P 3 HPF.out
          have e1 : bits BinOp.and IntKind.u64 ((lwF P 3 : Int) / 4) 67108863 = ((lwF P 3 / 4 % 67108864 : Nat) : Int) := low26 (lwF P 3 / 4) (by omega)
          have e2 : IntKind.u64.wrap ((h1 1 : Int) + ((lwF P 3 / 4 % 67108864 : Nat) : Int)) = ((h1 1 + (lwF P 3 / 4 % 67108864) : Nat) : Int) := by rw [wrap64]; omega
          have e3 : ((h1 1 : Int) + ((lwF P 3 / 4 % 67108864 : Nat) : Int)) % 18446744073709551616 = ((h1 1 + (lwF P 3 / 4 % 67108864) : Nat) : Int) := by omega
          generalize hval : (lwF P 3 / 4 % 67108864) = vv at *
          clear hval
          go_region_with (go_at_call 87; refine (word87I P g 3 3 _ (by decide) HPF.out (by omega) (by exact HA1.out.2.2.2)).mono ?_; rintro e w' ⟨rfl, n1, rfl⟩)
          all_goals
            go_wp2_with fail
            go_meet
            first | exact HA1.out.store _ 1 _ | exact (HA1.out.store _ 1 _).drew
        case rest =>
          have HA2 := Lib.hid hcut
          clear hcut HA1
          have HLn2 := Lib.hid (show upd h1 1 (h1 1 + (lwF P 3 / 4 % 67108864)) 2 < 67108864 from by have := HL2.out; simpa [upd] using this)
          have HLn3 := Lib.hid (show upd h1 1 (h1 1 + (lwF P 3 / 4 % 67108864)) 3 < 67108864 from by have := HL3.out; simpa [upd] using this)
          have HLn4 := Lib.hid (show upd h1 1 (h1 1 + (lwF P 3 / 4 % 67108864)) 4 < 67108864 from by have := HL4.out; simpa [upd] using this)
          clear HL2
          have HL2 := HLn2
          clear HLn2
          clear HL3
          have HL3 := HLn3
          clear HLn3
          clear HL4
          have HL4 := HLn4
          clear HLn4
          generalize hU1 : upd h1 1 (h1 1 + (lwF P 3 / 4 % 67108864)) = h2 at *
          have HU1 := Lib.hid hU1
          clear hU1
          have HB2 := Lib.hid (show h2 2 < 67108874 from by have := HL2.out; omega)
          go_upto_region 15 with (fail)
          go_cut [] (fun wx => TS3 w (rF key) (upd h2 2 (h2 2 + (lwF P 6 / 16 % 67108864))) P g wx)
          case first =>
            have c0 := (HA2.out.1.2.2.2.2.cell 2).trans (row64_at _ 2 (by omega))
            have z0 := HA2.out.1.2.2.2.2.frozen 2
            have hb := HB2.out
            have lw0 := lwF_lt P 6 HPF.out
            have e1 : bits BinOp.and IntKind.u64 ((lwF P 6 : Int) / 16) 67108863 = ((lwF P 6 / 16 % 67108864 : Nat) : Int) := low26 (lwF P 6 / 16) (by omega)
            have e2 : IntKind.u64.wrap ((h2 2 : Int) + ((lwF P 6 / 16 % 67108864 : Nat) : Int)) = ((h2 2 + (lwF P 6 / 16 % 67108864) : Nat) : Int) := by rw [wrap64]; omega
            have e3 : ((h2 2 : Int) + ((lwF P 6 / 16 % 67108864 : Nat) : Int)) % 18446744073709551616 = ((h2 2 + (lwF P 6 / 16 % 67108864) : Nat) : Int) := by omega
            generalize hval : (lwF P 6 / 16 % 67108864) = vv at *
            clear hval
            go_region_with (go_at_call 87; refine (word87I P g 6 6 _ (by decide) HPF.out (by omega) (by exact HA2.out.2.2.2)).mono ?_; rintro e w' ⟨rfl, n2, rfl⟩)
            all_goals
              go_wp2_with fail
              go_meet
              first | exact HA2.out.store _ 2 _ | exact (HA2.out.store _ 2 _).drew
          case rest =>
            have HA3 := Lib.hid hcut
            clear hcut HA2
            have HLn3 := Lib.hid (show upd h2 2 (h2 2 + (lwF P 6 / 16 % 67108864)) 3 < 67108864 from by have := HL3.out; simpa [upd] using this)
            have HLn4 := Lib.hid (show upd h2 2 (h2 2 + (lwF P 6 / 16 % 67108864)) 4 < 67108864 from by have := HL4.out; simpa [upd] using this)
            clear HL3
            have HL3 := HLn3
            clear HLn3
            clear HL4
            have HL4 := HLn4
            clear HLn4
            generalize hU2 : upd h2 2 (h2 2 + (lwF P 6 / 16 % 67108864)) = h3 at *
            have HU2 := Lib.hid hU2
            clear hU2
            have HB3 := Lib.hid (show h3 3 < 67108874 from by have := HL3.out; omega)
            go_upto_region 16 with (fail)
            go_cut [] (fun wx => TS3 w (rF key) (upd h3 3 (h3 3 + (lwF P 9 / 64 % 67108864))) P g wx)
            case first =>
              have c0 := (HA3.out.1.2.2.2.2.cell 3).trans (row64_at _ 3 (by omega))
              have z0 := HA3.out.1.2.2.2.2.frozen 3
              have hb := HB3.out
              have lw0 := lwF_lt P 9 HPF.out
              have e1 : bits BinOp.and IntKind.u64 ((lwF P 9 : Int) / 64) 67108863 = ((lwF P 9 / 64 % 67108864 : Nat) : Int) := low26 (lwF P 9 / 64) (by omega)
              have e2 : IntKind.u64.wrap ((h3 3 : Int) + ((lwF P 9 / 64 % 67108864 : Nat) : Int)) = ((h3 3 + (lwF P 9 / 64 % 67108864) : Nat) : Int) := by rw [wrap64]; omega
              have e3 : ((h3 3 : Int) + ((lwF P 9 / 64 % 67108864 : Nat) : Int)) % 18446744073709551616 = ((h3 3 + (lwF P 9 / 64 % 67108864) : Nat) : Int) := by omega
              generalize hval : (lwF P 9 / 64 % 67108864) = vv at *
              clear hval
              go_region_with (go_at_call 87; refine (word87I P g 9 9 _ (by decide) HPF.out (by omega) (by exact HA3.out.2.2.2)).mono ?_; rintro e w' ⟨rfl, n3, rfl⟩)
              all_goals
                go_wp2_with fail
                go_meet
                first | exact HA3.out.store _ 3 _ | exact (HA3.out.store _ 3 _).drew
            case rest =>
              have HA4 := Lib.hid hcut
              clear hcut HA3
              have HLn4 := Lib.hid (show upd h3 3 (h3 3 + (lwF P 9 / 64 % 67108864)) 4 < 67108864 from by have := HL4.out; simpa [upd] using this)
              clear HL4
              have HL4 := HLn4
              clear HLn4
              generalize hU3 : upd h3 3 (h3 3 + (lwF P 9 / 64 % 67108864)) = h4 at *
              have HU3 := Lib.hid hU3
              clear hU3
              have HB4 := Lib.hid (show h4 4 < 67108874 from by have := HL4.out; omega)
              go_upto_region 17 with (fail)
              go_cut [] (fun wx => TS3 w (rF key) (upd h4 4 (h4 4 + (lwF P 12 / 256 + P 16 * 16777216))) P g wx)
              case first =>
                have c0 := (HA4.out.1.2.2.2.2.cell 4).trans (row64_at _ 4 (by omega))
                have z0 := HA4.out.1.2.2.2.2.frozen 4
                have hb := HB4.out
                have lw0 := lwF_lt P 12 HPF.out
                have c16 := (HA4.out.2.2.2.cell 16).trans (row8_at _ _ 16 (by omega))
                have hp16 := HPF.out 16
                have e0 : IntKind.u64.wrap (P 16 : Int) = (P 16 : Int) := by rw [wrap64]; omega
                have e1 : bits BinOp.or IntKind.u64 ((lwF P 12 : Int) / 256) (IntKind.u64.wrap (IntKind.u64.wrap (P 16 : Int) * 16777216)) = ((lwF P 12 / 256 + P 16 * 16777216 : Nat) : Int) := or24 _ _ lw0 hp16
                have e1'' : bits BinOp.or IntKind.u64 ((lwF P 12 : Int) / 256) (IntKind.u64.wrap ((P 16 : Int) * 16777216)) = ((lwF P 12 / 256 + P 16 * 16777216 : Nat) : Int) := by have h := or24 _ _ lw0 hp16; rw [e0] at h; exact h
                have e1' : bits BinOp.or IntKind.u64 ((lwF P 12 : Int) / 256) ((P 16 : Int) * 16777216) = ((lwF P 12 / 256 + P 16 * 16777216 : Nat) : Int) := or24' _ _ lw0 hp16
                have e2 : IntKind.u64.wrap ((h4 4 : Int) + ((lwF P 12 / 256 + P 16 * 16777216 : Nat) : Int)) = ((h4 4 + (lwF P 12 / 256 + P 16 * 16777216) : Nat) : Int) := by rw [wrap64]; omega
                have e3 : ((h4 4 : Int) + ((lwF P 12 / 256 + P 16 * 16777216 : Nat) : Int)) % 18446744073709551616 = ((h4 4 + (lwF P 12 / 256 + P 16 * 16777216) : Nat) : Int) := by omega
                generalize hval : (lwF P 12 / 256 + P 16 * 16777216) = vv at *
                clear hval
                go_region_with (go_at_call 87; refine (word87I P g 12 12 _ (by decide) HPF.out (by omega) (by exact HA4.out.2.2.2)).mono ?_; rintro e w' ⟨rfl, n4, rfl⟩)
                all_goals
                  go_wp2_with fail
                  go_meet
                  first | exact HA4.out.store _ 4 _ | exact (HA4.out.store _ 4 _).drew
              case rest =>
                have HA5 := Lib.hid hcut
                clear hcut HA4
                generalize hU4 : upd h4 4 (h4 4 + (lwF P 12 / 256 + P 16 * 16777216)) = h5 at *
                have HU4 := Lib.hid hU4
                clear hU4
                go_wp2_with (first | (refine wpList_load_row rfl 128 _ rfl (w.heap.size + 1 + 1) rfl 128 (row64 h5) (0, 0) _ HA5.out.1.2.2.2.2 Try.underlying128 rfl (info128 _) ?_) | (refine wpList_load_row rfl 128 _ rfl (w.heap.size + 1) rfl 128 (row64 (rF key)) (0, 0) _ HA5.out.1.2.2.2.1 Try.underlying128 rfl (info128 _) ?_))
                refine (product88 h5 (rF key) _).mono ?_
                rintro e w5 ⟨rfl, b5⟩
                have HT5 := Lib.hid (HA5.out.1.below b5)
                clear b5
                have HT6 := Lib.hid (HT5.out.setRow (prod h5 (rF key)))
                generalize hPR : prod h5 (rF key) = K at *
                have HPR := Lib.hid hPR
                clear hPR
                go_wp2_with (refine wpList_store_row rfl 128 _ _ rfl (w.heap.size + 1 + 1) (row64 K) rfl rfl 128 _ HT5.out.2.2.2.2 (info128 _) (by rw [row64_size, row64_size]) (row64_all _) ?_)
                have hrel' : ∃ (k : Nat) (T' : ByteArray), 16 * k ≤ text.size + 15 ∧ Value.string (T.extract m T.size) = .string T' ∧ TSr w key text k T' (w5.setRow (w.heap.size + 1 + 1) (row64 K)) := by
                  have hsz := HSZ.out
                  have hmm := HMM.out
                  obtain ⟨q0, q1, q2, q3, q4⟩ := val5_five h _ _ _ _ _ h1 h2 h3 h4 h5 HU0.out HU1.out HU2.out HU3.out HU4.out
                  rw [← HPP.out] at q0 q1 q2 q3 q4
                  obtain ⟨r1, r2⟩ := tag_step key text T k m h h5 HSZ.out HAT.out HMM.out HL.out HV.out q0 q1 q2 q3 q4
                  rw [HPR.out] at r1 r2
                  refine ⟨k + 1, T.extract m T.size, by omega, rfl, ?_, ?_, K, HT6.out, r1, ?_, r2⟩
                  · simp
                    omega
                  · intro i
                    rw [at8_rest]
                    by_cases hb : 16 ≤ T.size
                    · rw [HAT.out, show m = 16 by omega]
                      congr 1
                      omega
                    · rw [at8_out T _ (by omega), at8_out text _ (by omega)]
                  · rw [← HPR.out]; exact W64.prod _ _
                have HREL := Lib.hid hrel'
                clear hrel'
                go_roundw
                case rel =>
                  first
                    | exact HREL.out
                    | ((repeat apply Exists.intro); exact ⟨HREL.out, rfl⟩)
                case measure =>
                  show (T.extract m T.size).size < T.size
                  simp
                  omega
    · have hz : T.size = 0 := by omega
      have hemp : T.toList.isEmpty = true := empty_no T hz
      have hemp' : (!T.toList.isEmpty) = false := by rw [hemp]; rfl
      have HNB := Lib.hid (show nblk text = k from by have := HSZ.out; unfold nblk; omega)
      go_wp2_with fail
      clear hemp hemp'
      have HTX := Lib.hid HS.out.tx
      clear HS
      have hd32 : (16 : Int) ≤ (key.size : Int) := by omega
      obtain ⟨TG, hTE⟩ : ∃ TG, TG = tagN key text := ⟨_, rfl⟩
      have HTE := Lib.hid hTE
      have HTG := Lib.hid (hTE.trans (tagN_end key text k h HNB.out HV.out))
      clear hTE
      have c0 := (HTX.out.2.2.1.cell 0).trans (row64_at _ 0 (by omega))
      have c1 := (HTX.out.2.2.1.cell 1).trans (row64_at _ 1 (by omega))
      have c2 := (HTX.out.2.2.1.cell 2).trans (row64_at _ 2 (by omega))
      have c3 := (HTX.out.2.2.1.cell 3).trans (row64_at _ 3 (by omega))
      have c4 := (HTX.out.2.2.1.cell 4).trans (row64_at _ 4 (by omega))
      go_still_tail 3, (by kernel_rfl)
      change wpList _ _ _ _ _ wr.drew
      have HTD := Lib.hid HTX.out.drew
      clear c0 c1 c2 c3 c4 HTX
      go_wp2_with fail
      refine (closed89T h (key.extract 16 key.size) TG _ HL.out HW.out (by simp; omega) (by unfold maxLen; simp; omega) HTG.out).mono ?_
      rintro e w6 ⟨rfl, b6⟩
      have HT6 := Lib.hid (HTD.out.below b6)
      clear b6
      obtain ⟨f8, h8⟩ := HT6.out.2.2.2
      have H8 := Lib.hid h8
      clear h8 HTG HTD
      go_wp2_with (refine wpList_store_row rfl 86 _ _ rfl w.heap.size (row8 16 (bytesN TG)) rfl rfl 86 _ H8.out (info86 _) (by rw [row8_size, row8_size]) (row8_all _ _) ?_)
      refine bodyPost_ret (v := .agg (row8 16 (bytesN TG))) (results_cell_row (p := 4) Try.results54 _ _ w.heap.size 86 _ (0, 0) _ rfl ?_ Try.underlying86 rfl (info86 _)) rfl ⟨by rw [HTE.out], ?_⟩
      · exact HT6.out.res _
      · exact (HT6.out.setRow _).1
end Go.Proofs.Ytnjmcppljbkhnaa
