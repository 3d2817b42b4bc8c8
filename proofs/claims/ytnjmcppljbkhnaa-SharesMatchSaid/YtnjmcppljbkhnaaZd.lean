import Derived.Test.YtnjmcppljbkhnaaZc
set_option linter.unusedVariables false
set_option linter.unusedSimpArgs false
namespace Go.Proofs.Ytnjmcppljbkhnaa
open Go.RowKit
theorem dA_step (secret noise : ByteArray) (n x j v : Nat) (h : v = shV secret noise n j x) : upd (dA secret noise n x j) j v = dA secret noise n x (j + 1) := by
  have := dA_next secret noise n x j v h 0
  rw [dA_zero] at this
  exact this
set_option maxRecDepth 100000 in
set_option maxHeartbeats 4000000 in
theorem sharesOf32 (secret noise : ByteArray) (n many p : Nat) (w : World) (h1 : secret.size ≤ 1024) (hn : n = p + 1) (hp : n ≤ many) (hm : many ≤ 255) (hz : noise.size = secret.size * p) :
    Calls Try.prog 32 #[.string secret, .string noise, .int .i64 n, .int .i64 many] w fun e w' => ∃ v, e = .returned v ∧ SharesOut secret noise n many w w' v := by
  obtain ⟨i0, hi0, hi1, hi2, hi3⟩ := info_parts info46s
  have q1 : (n : Int) - 1 = (p : Int) := by omega
  have hsp : secret.size * p ≤ 1024 * 254 := Nat.mul_le_mul h1 (by omega)
  have HNZ := Lib.hid hz
  have HNP := Lib.hid hn
  have HRR := Lib.hid (show ∀ j, j < secret.size → j * p + p ≤ secret.size * p from fun j hj => by rw [← Nat.succ_mul]; exact Nat.mul_le_mul_right _ hj)
  clear hz hn
  generalize secret.size * p = r at *
  go_enter Try.func32, Try.ntmps32
  go_wp2_with fail
  go_loopw [9, 10] (fun ov xv wr => ∃ x : Nat, x ≤ many ∧ xv = .int .i64 ((x + 1 : Nat) : Int) ∧ wr.ownsRow w.heap.size 46 2 ov x (shC (fun i => shD secret noise n (i + 1)) x) ∧ Below w.heap.size w wr) (fun _ xv _ => many + 1 - (intOf xv).toNat)
  case atStart => exact ⟨0, by omega, rfl, World.ownsRow_nil _ _ _ _, Below.refl _ _⟩
  case round =>
    obtain ⟨x0, hx0, rfl, hown, hb⟩ := hrel
    have HO := Lib.hid hown
    have HB := Lib.hid hb
    clear hown hb
    obtain ⟨x, hx⟩ : ∃ x, x = x0 + 1 := ⟨_, rfl⟩
    rw [← hx]
    by_cases hlt : x0 < many
    · have hd : decide (x ≤ many) = true := decide_eq_true (by omega)
      have hle : x ≤ many := by omega
      have HX := Lib.hid hx
      have hx255 : x ≤ 255 := by omega
      clear hx
      generalize wr = wo at *
      have hmk := run_madeB wo secret.size (by omega)
      have HW0 := Lib.hid (show WS wo secret.size (dA secret noise n x 0) (madeB wo secret.size) from ⟨madeB_below wo _, (madeB_row wo _).congr (fun i hi => by unfold dA; rw [if_neg (by omega)])⟩)
      generalize madeB wo secret.size = w0 at *
      go_wp2_with fail
      clear hmk
      go_loopw [26] (fun jv wq => ∃ j : Nat, j ≤ secret.size ∧ jv = .int .i64 j ∧ WS wo secret.size (dA secret noise n x j) wq) (fun jv _ => secret.size - (intOf jv).toNat)
      case atStart => exact ⟨0, by omega, rfl, HW0.out⟩
      case round =>
        clear HW0
        obtain ⟨j, hj, rfl, hws⟩ := hrel
        have HWS := Lib.hid hws
        clear hws
        by_cases hlj : j < secret.size
        · have hdj : decide ((j : Int) < (secret.size : Int)) = true := decide_eq_true (by omega)
          have hj1 : (j : Int) < (secret.size : Int) := by omega
          have e0 := at8_get secret j hlj
          have HF0 := Lib.hid (show at8 secret j = rvl (cf secret noise n j) x 0 from rfl)
          have ha0 : at8 secret j < 256 := at8_lt secret j
          generalize at8 secret j = a0 at *
          go_wp2_with fail
          clear e0
          go_loop [13, 14, 35] (fun vv pv cv => ∃ c : Nat, c ≤ p ∧ cv = .int .i64 c ∧ vv = .int .i64 (rvl (cf secret noise n j) x c : Nat) ∧ pv = .int .i64 (rpw x c : Nat)) (fun _ _ cv => p - (intOf cv).toNat)
          case atStart => exact ⟨0, by omega, rfl, by rw [HF0.out], rfl⟩
          case round =>
            obtain ⟨c, hc, rfl, rfl, rfl⟩ := hrel
            by_cases hlc : c < p
            · have hdc : decide (c < p) = true := decide_eq_true hlc
              have HJ := HRR.out j hlj
              have hjp : j * p ≤ 260096 := by omega
              have e2 : (j : Int) * (p : Int) = ((j * p : Nat) : Int) := by simp
              have HE := Lib.hid (show rvl (cf secret noise n j) x c ^^^ tm (rpw x (c + 1)) (at8 noise (j * p + c)) = rvl (cf secret noise n j) x (c + 1) from by
                show _ = rvl (cf secret noise n j) x c ^^^ tm (rpw x (c + 1)) (cf secret noise n j (c + 1))
                have hnp := HNP.out
                unfold cf
                rw [if_neg (by omega), show n - 1 = p by omega, show j * p + (c + 1) - 1 = j * p + c by omega])
              have HP1 := Lib.hid (show tm (rpw x c) x = rpw x (c + 1) from rfl)
              have hu1 : j * p + c < noise.size := by have := HNZ.out; omega
              have hV := rvl_lt (cf secret noise n j) x c (cf_lt _ _ _ _)
              have HQ := Lib.hid (rpw_lt x c)
              have HQ1 := Lib.hid (rpw_lt x (c + 1))
              generalize j * p = q at *
              have e3 : (q : Int) + (c : Int) = ((q + c : Nat) : Int) := by omega
              have e8 := at8_get noise (q + c) hu1
              have hA := at8_lt noise (q + c)
              generalize q + c = u at *
              have hu2 : (u : Int) < (noise.size : Int) := by omega
              generalize at8 noise u = A at *
              have HC1 := Lib.hid (fun w => timesField65 (rpw x c) x w HQ.out (by omega))
              rw [HP1.out] at HC1
              have HC2 := Lib.hid (fun w => timesField65 (rpw x (c + 1)) A w HQ1.out hA)
              have hT := tm_lt (b := A) HQ1.out
              have x1 := i64_xor_nat (rvl (cf secret noise n j) x c) (tm (rpw x (c + 1)) A) (by omega) (by omega)
              have HK1 := Lib.hid (show c + 1 ≤ p from hlc)
              generalize rvl (cf secret noise n j) x c = V at *
              generalize hq1 : rpw x (c + 1) = Q1 at *
              have HQE := Lib.hid hq1
              clear hq1
              generalize rpw x c = Q0 at *
              generalize tm Q1 A = T at *
              go_wp2_with fail
              refine (HC1.out _).mono ?_
              rintro e w' ⟨rfl, rfl⟩
              go_wp2_with fail
              refine (HC2.out _).mono ?_
              rintro e w' ⟨rfl, rfl⟩
              go_wp2_with fail
              go_round
              case rel => exact ⟨c + 1, HK1.out, by go_num, by rw [← HE.out], by rw [HQE.out]⟩
              case measure => simp [intOf]; omega
            · have hdc : decide (c < p) = false := decide_eq_false hlc
              obtain rfl : c = p := by omega
              have y1 := (HWS.out.2.2 j hlj).1
              have z1 := (HWS.out.2.2 j hlj).2
              have HV := Lib.hid (show rvl (cf secret noise n j) x c = shV secret noise n j x from by
                unfold shV
                rw [← rvl_end (cf secret noise n j) x n (cf_lt _ _ _ _) (by omega) (by have := HNP.out; omega), show n - 1 = c by have := HNP.out; omega])
              have hV := rvl_lt (cf secret noise n j) x c (cf_lt _ _ _ _)
              generalize rvl (cf secret noise n j) x c = V at *
              have vw : IntKind.u8.wrap (V : Int) = (V : Int) := by rw [IntKind.wrap_u8]; omega
              go_wp2_with fail
              go_roundw
              case rel =>
                refine ⟨j + 1, by omega, by go_num, ?_⟩
                rw [← dA_step secret noise n x j _ HV.out]
                exact HWS.out.store j _ hlj
              case measure => simp [intOf]; omega
        · have hdj : decide ((j : Int) < (secret.size : Int)) = false := decide_eq_false (by omega)
          obtain rfl : j = secret.size := by omega
          have hcv := fun cap => conv_BR HWS.out.2 cap
          have e : strB secret.size (dA secret noise n x secret.size) = shD secret noise n x := strB_congr (fun q hq => by unfold dA; rw [if_pos hq])
          rw [e] at hcv
          have HS := Lib.hid (show shC (fun i => shD secret noise n (i + 1)) (x0 + 1) = shC (fun i => shD secret noise n (i + 1)) x0 ++ [.int .i64 (x : Nat), .string (shD secret noise n x)] from by rw [HX.out]; rfl)
          have HO2 := Lib.hid (own_below HO.out HWS.out.1)
          have HB2 := Lib.hid (show Below w.heap.size w wr from HB.out.trans (HWS.out.1.mono HB.out.size))
          have HK1 := Lib.hid (show x0 + 1 ≤ many from hlt)
          clear e HO HB HWS
          generalize shD secret noise n x = DD at *
          go_wp2_with (at_builtin; refine wpList_append_own _ rfl _ _ 43 rfl w.heap.size 46 i0 (.agg #[.int .i64 0, .string ⟨#[]⟩]) 2 24 Try.underlying43 hi0 hi1 hi2 hi3 rfl (by decide) _ _ _ rfl (HO2.out.alloc _) ⟨wr.heap.size, 0, none⟩ 1 1 [.int .i64 (x : Nat), .string DD] rfl rfl ?c1 ?c2 ?c3 ?c4 ?c5 ?_)
          case c1 =>
            intro j u hj
            match j, hj with
            | 0, hj => simp at hj; subst hj; simp [Addr.add]
            | 1, hj => simp at hj; subst hj; simp [Addr.add]
          case c2 =>
            intro u hu
            simp at hu
            rcases hu with rfl | rfl <;> rfl
          case c3 => unfold maxLen; omega
          case c4 => omega
          case c5 => have := HB2.out.size; simp; omega
          intro v' w1 hown' hgrow _
          have HBN := Lib.hid (show Below w.heap.size w w1 from ((HB2.out).alloc HB2.out.size _).grown hgrow (by have := HB2.out.size; simp; omega) (by
            intro q hq
            obtain ⟨_, h2⟩ := HO2.out
            rcases h2 with ⟨rfl, _⟩ | ⟨g, cap, cur, rfl, hbg, _⟩
            · simp [Value.ownBlock] at hq
            · simp [Value.ownBlock] at hq
              omega))
          have HON := Lib.hid (show w1.ownsRow w.heap.size 46 2 v' (x0 + 1) (shC (fun i => shD secret noise n (i + 1)) (x0 + 1)) from by
            rw [HS.out]
            exact hown')
          clear hown' hgrow HO2 HB2 hcv
          go_wp2_with fail
          go_roundw
          case rel => exact ⟨x0 + 1, HK1.out, by rw [show ((x0 + 1 + 1 : Nat) : Int) = (x : Int) + 1 by have := HX.out; omega], HON.out, HBN.out⟩
          case measure => have := HX.out; simp [intOf]; omega
    · have hd : decide (x ≤ many) = false := decide_eq_false (by omega)
      have hle : ¬ x ≤ many := by omega
      obtain rfl : x0 = many := by omega
      go_wp2_with fail
      go_ret
      obtain ⟨g, cap, rfl, q1, q2, q3, q4, q5⟩ := own_shares HO.out (by have := HNP.out; omega)
      exact ⟨_, rfl, g, cap, rfl, q1, q2, q3, q5, HB.out⟩
end Go.Proofs.Ytnjmcppljbkhnaa
