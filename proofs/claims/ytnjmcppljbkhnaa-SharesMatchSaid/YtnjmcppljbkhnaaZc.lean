import Derived.Test.YtnjmcppljbkhnaaZb
set_option linter.unusedVariables false
set_option linter.unusedSimpArgs false
namespace Go.Proofs.Ytnjmcppljbkhnaa
open Go.RowKit
def dA (secret noise : ByteArray) (n x j : Nat) : Nat → Nat := fun q => if q < j then shV secret noise n q x else 0
theorem dA_next (secret noise : ByteArray) (n x j v : Nat) (h : v = shV secret noise n j x) (u : Nat) : upd (upd (dA secret noise n x j) j u) j v = dA secret noise n x (j + 1) := by
  subst h
  funext q
  unfold upd dA
  by_cases e : q = j
  · subst e; rw [if_pos rfl, if_pos (by omega)]
  · rw [if_neg e, if_neg e]
    by_cases e2 : q < j
    · rw [if_pos e2, if_pos (by omega)]
    · rw [if_neg e2, if_neg (by omega)]
theorem dA_zero (secret noise : ByteArray) (n x j : Nat) : upd (dA secret noise n x j) j 0 = dA secret noise n x j := by
  funext q
  unfold upd dA
  by_cases e : q = j
  · subst e; rw [if_pos rfl, if_neg (by omega)]
  · rw [if_neg e]
theorem upd_twice (f : Nat → Nat) (j u v : Nat) : upd (upd f j u) j v = upd f j v := by
  funext q
  unfold upd
  by_cases e : q = j
  · rw [if_pos e, if_pos e]
  · rw [if_neg e, if_neg e, if_neg e]
theorem upd_at (f : Nat → Nat) (j u : Nat) : upd f j u j = u := by unfold upd; rw [if_pos rfl]
theorem own_below {w w' : World} {base e size n : Nat} {v : Value} {xs : List Value} (h : w.ownsRow base e size v n xs) (hb : Below w.heap.size w w') : w'.ownsRow base e size v n xs := by
  obtain ⟨h1, h2⟩ := h
  refine ⟨h1, ?_⟩
  rcases h2 with h2 | ⟨g, cap, cur, hv, hbg, hg, hc, hm, hs, ht⟩
  · exact Or.inl h2
  · refine Or.inr ⟨g, cap, cur, hv, hbg, ?_, hc, hm, hs, ht⟩
    have hlt : g < w.heap.size := by
      rcases Nat.lt_or_ge g w.heap.size with h | h
      · exact h
      · rw [Array.getElem?_eq_none h] at hg; cases hg
    rw [hb.block g hlt]; exact hg
def SharesOut (secret noise : ByteArray) (n many : Nat) (w w' : World) (v : Value) : Prop :=
  ∃ g cap, v = .slice (some ⟨g, 0, none⟩) many cap ∧ many ≤ cap ∧ cap ≤ maxLen ∧ w.heap.size ≤ g ∧ SRowI w' w'.heap.size (some ⟨g, 0, none⟩) many (fun i => ((i + 1 : Nat) : Int)) (fun i => shD secret noise n (i + 1)) ∧ Below w.heap.size w w'
set_option maxRecDepth 100000 in
set_option maxHeartbeats 4000000 in
theorem shares30_ok (secret noise : ByteArray) (n many p : Nat) (w : World) (h0 : 0 < secret.size) (h1 : secret.size ≤ 1024) (hn : n = p + 1) (hp : n ≤ many) (hm : many ≤ 255) (hz : noise.size = secret.size * p) :
    Calls Try.prog 30 #[.string secret, .string noise, .int .i64 n, .int .i64 many] w fun e w' => ∃ v, e = .returned (.tuple #[v, .int .i64 0]) ∧ SharesOut secret noise n many w w' v := by
  obtain ⟨i0, hi0, hi1, hi2, hi3⟩ := info_parts info46s
  have e := empty_of secret h0
  have d : decide ((1024 : Int) < (secret.size : Int)) = false := decide_eq_false (by omega)
  have a1 : decide ((many : Int) < 1) = false := decide_eq_false (by omega)
  have b1 : decide ((255 : Int) < (many : Int)) = false := decide_eq_false (by omega)
  have c1 : decide ((n : Int) < 1) = false := decide_eq_false (by omega)
  have d1 : decide (many < n) = false := decide_eq_false (by omega)
  have q1 : (n : Int) - 1 = (p : Int) := by omega
  have hsp : secret.size * p ≤ 1024 * 254 := Nat.mul_le_mul h1 (by omega)
  have q2 : (secret.size : Int) * (p : Int) = ((secret.size * p : Nat) : Int) := by simp
  have q3 : ((noise.size : Int) != ((secret.size * p : Nat) : Int)) = false := by simp only [bne_eq_false_iff_eq]; omega
  have q4 : ((noise.size : Int) == ((secret.size * p : Nat) : Int)) = true := by simp only [beq_iff_eq]; omega
  have HNZ := Lib.hid hz
  have HNP := Lib.hid hn
  clear hz hn
  have HRR := Lib.hid (show ∀ j, j < secret.size → j * p + p ≤ secret.size * p from fun j hj => by rw [← Nat.succ_mul]; exact Nat.mul_le_mul_right _ hj)
  generalize secret.size * p = r at *
  go_enter Try.func30, Try.ntmps30
  go_wp2_with fail
  clear q2 q3 q4 e d a1 b1 c1 d1
  go_loopw [10, 11] (fun ov xv wr => ∃ x : Nat, x ≤ many ∧ xv = .int .i64 ((x + 1 : Nat) : Int) ∧ wr.ownsRow w.heap.size 46 2 ov x (shC (fun i => shD secret noise n (i + 1)) x) ∧ Below w.heap.size w wr) (fun _ xv _ => many + 1 - (intOf xv).toNat)
  case atStart => exact ⟨0, by omega, rfl, World.ownsRow_nil _ _ _ _, Below.refl _ _⟩
  case round =>
    obtain ⟨x0, hx0, rfl, hown, hb⟩ := hrel
    have HO := Lib.hid hown
    have HB := Lib.hid hb
    clear hown hb
    obtain ⟨x, hx⟩ : ∃ x, x = x0 + 1 := ⟨_, rfl⟩
    rw [← hx]
    by_cases hlt : x0 < many
    · have hd : decide (x ≤ many) = true := decide_eq_true (by omega)
      have hle : x ≤ many := by omega
      have HX := Lib.hid hx
      have hx255 : x ≤ 255 := by omega
      clear hx
      generalize wr = wo at *
      have hmk := run_madeB wo secret.size (by omega)
      have HW0 := Lib.hid (show WS wo secret.size (dA secret noise n x 0) (madeB wo secret.size) from ⟨madeB_below wo _, (madeB_row wo _).congr (fun i hi => by unfold dA; rw [if_neg (by omega)])⟩)
      have hsz := madeB_size wo secret.size
      generalize madeB wo secret.size = w0 at *
      clear hsz
      go_wp2_with fail
      clear hmk
      go_loopw [57] (fun jv wq => ∃ j : Nat, j ≤ secret.size ∧ jv = .int .i64 j ∧ WS wo secret.size (dA secret noise n x j) wq) (fun jv _ => secret.size - (intOf jv).toNat)
      case atStart => exact ⟨0, by omega, rfl, HW0.out⟩
      case round =>
        clear HW0
        obtain ⟨j, hj, rfl, hws⟩ := hrel
        have HWS := Lib.hid hws
        clear hws
        by_cases hlj : j < secret.size
        · have hdj : decide ((j : Int) < (secret.size : Int)) = true := decide_eq_true (by omega)
          rw [← dA_zero] at HWS
          generalize wr = wj at *
          go_wp2_with fail
          go_loopw [14] (fun cv wq => ∃ c : Nat, c ≤ p ∧ cv = .int .i64 c ∧ WS wo secret.size (upd (dA secret noise n x j) j (hor (cf secret noise n j) x n (p - c))) wq) (fun cv _ => (intOf cv).toNat)
          case atStart => exact ⟨p, Nat.le_refl _, rfl, by rw [Nat.sub_self]; exact HWS.out⟩
          case round =>
            clear HWS
            obtain ⟨c, hc, rfl, hws⟩ := hrel
            have HWS := Lib.hid hws
            clear hws
            by_cases hlc : 1 ≤ c
            · have hdc : decide ((1 : Int) ≤ (c : Int)) = true := decide_eq_true (by omega)
              have hdc2 : decide ((c : Int) ≥ 1) = true := decide_eq_true (by omega)
              have y1 := (HWS.out.2.2 j hlj).1
              have z1 := (HWS.out.2.2 j hlj).2
              rw [upd_at] at y1
              have hj1 : (j : Int) < (secret.size : Int) := by omega
              have HVL := Lib.hid (hor_lt (cf secret noise n j) x n (p - c) (cf_lt _ _ _ _))
              have xw : IntKind.u8.wrap (x : Int) = (x : Int) := by rw [IntKind.wrap_u8]; omega
              have HJ := HRR.out j hlj
              have hjp : j * p ≤ 260096 := by omega
              have e2 : (j : Int) * (p : Int) = ((j * p : Nat) : Int) := by simp
              have HE := Lib.hid (show tm (hor (cf secret noise n j) x n (p - c)) x ^^^ at8 noise (j * p + c - 1) = hor (cf secret noise n j) x n (p - (c - 1)) from by
                rw [show p - (c - 1) = (p - c) + 1 by omega]
                show _ = tm (hor (cf secret noise n j) x n (p - c)) x ^^^ cf secret noise n j (n - 1 - (p - c))
                have hnp := HNP.out
                rw [show n - 1 - (p - c) = c by omega]
                unfold cf
                rw [if_neg (by omega), show n - 1 = p by omega])
              have s1 : IntKind.i64.wrap (p : Int) = (p : Int) := wraps_i64 _ (by omega) (by omega)
              have hu1 : j * p + c - 1 < noise.size := by have := HNZ.out; omega
              generalize j * p = q at *
              have s2 : IntKind.i64.wrap (q : Int) = (q : Int) := wraps_i64 _ (by omega) (by omega)
              have e3 : (q : Int) + (c : Int) = ((q + c : Nat) : Int) := by omega
              have hs1 : 1 ≤ q + c := by omega
              have hs2 : q + c ≤ 300000 := by omega
              have HC1 := Lib.hid (show c - 1 ≤ p ∧ ((c : Int) - 1) = ((c - 1 : Nat) : Int) from ⟨by omega, by omega⟩)
              generalize q + c = s at *
              have s3 : IntKind.i64.wrap (s : Int) = (s : Int) := wraps_i64 _ (by omega) (by omega)
              have e4 : (s : Int) - 1 = ((s - 1 : Nat) : Int) := by omega
              generalize s - 1 = u at *
              have s4 : IntKind.i64.wrap (u : Int) = (u : Int) := wraps_i64 _ (by omega) (by omega)
              have hu2 : (u : Int) < (noise.size : Int) := by omega
              have e8 := at8_get noise u hu1
              have HAL := Lib.hid (at8_lt noise u)
              generalize at8 noise u = A at *
              generalize hor (cf secret noise n j) x n (p - c) = V at *
              have HC := Lib.hid (fun w => times64 V x w HVL.out (by omega))
              have HTL := tm_lt (b := x) HVL.out
              have x1 := u8_xor_nat (tm V x) A HTL HAL.out
              generalize tm V x = T at *
              go_wp2_with fail
              refine wp_region_still_tail 20 (by kernel_rfl) (by kernel_rfl) ?_
              simp only [List.take_succ_cons, List.take_zero, List.drop_succ_cons, List.drop_zero]
              repeat still_step
              still_call (by refine (HC.out _).mono ?_; rintro e w' ⟨rfl, rfl⟩; exact ⟨rfl, rfl⟩)
              repeat still_step
              refine wpStill_nil ?_
              change wpList _ _ _ _ _ wr.drew
              go_wp2_with fail
              go_roundw
              case rel =>
                refine ⟨c - 1, HC1.out.1, by rw [← HC1.out.2], ?_⟩
                rw [← HE.out, ← upd_twice (dA secret noise n x j) j V]
                exact (HWS.out.store j _ hlj).drew
              case measure => simp [intOf]; omega
            · have hdc : decide ((1 : Int) ≤ (c : Int)) = false := decide_eq_false (by omega)
              have hdc2 : decide ((c : Int) ≥ 1) = false := decide_eq_false (by omega)
              obtain rfl : c = 0 := by omega
              rw [Nat.sub_zero] at HWS
              have y1 := (HWS.out.2.2 j hlj).1
              have z1 := (HWS.out.2.2 j hlj).2
              rw [upd_at] at y1
              have hj1 : (j : Int) < (secret.size : Int) := by omega
              have HVL := Lib.hid (hor_lt (cf secret noise n j) x n p (cf_lt _ _ _ _))
              have xw : IntKind.u8.wrap (x : Int) = (x : Int) := by rw [IntKind.wrap_u8]; omega
              have HE := Lib.hid (show tm (hor (cf secret noise n j) x n p) x ^^^ at8 secret j = shV secret noise n j x from by
                unfold shV
                have hnp := HNP.out
                show _ = hor (cf secret noise n j) x n n
                rw [show hor (cf secret noise n j) x n n = hor (cf secret noise n j) x n (p + 1) by rw [← hnp]]
                show _ = tm (hor (cf secret noise n j) x n p) x ^^^ cf secret noise n j (n - 1 - p)
                rw [show n - 1 - p = 0 by omega]
                rfl)
              have e8 := at8_get secret j hlj
              have HAL := Lib.hid (at8_lt secret j)
              generalize at8 secret j = A at *
              generalize hor (cf secret noise n j) x n p = V at *
              have HC := Lib.hid (fun w => times64 V x w HVL.out (by omega))
              have HTL := tm_lt (b := x) HVL.out
              have x1 := u8_xor_nat (tm V x) A HTL HAL.out
              generalize tm V x = T at *
              go_wp2_with fail
              refine wp_region_still_tail 14 (by kernel_rfl) (by kernel_rfl) ?_
              simp only [List.take_succ_cons, List.take_zero, List.drop_succ_cons, List.drop_zero]
              repeat still_step
              still_call (by refine (HC.out _).mono ?_; rintro e w' ⟨rfl, rfl⟩; exact ⟨rfl, rfl⟩)
              repeat still_step
              refine wpStill_nil ?_
              change wpList _ _ _ _ _ wr.drew
              go_wp2_with fail
              go_roundw
              case rel =>
                refine ⟨j + 1, by omega, by go_num, ?_⟩
                rw [← dA_next secret noise n x j _ HE.out V]
                exact (HWS.out.store j _ hlj).drew
              case measure => simp [intOf]; omega
        · have hdj : decide ((j : Int) < (secret.size : Int)) = false := decide_eq_false (by omega)
          obtain rfl : j = secret.size := by omega
          have hcv := fun cap => conv_BR HWS.out.2 cap
          have e : strB secret.size (dA secret noise n x secret.size) = shD secret noise n x := strB_congr (fun q hq => by unfold dA; rw [if_pos hq])
          rw [e] at hcv
          have HS := Lib.hid (show shC (fun i => shD secret noise n (i + 1)) (x0 + 1) = shC (fun i => shD secret noise n (i + 1)) x0 ++ [.int .i64 (x : Nat), .string (shD secret noise n x)] from by rw [HX.out]; rfl)
          have HO2 := Lib.hid (own_below HO.out HWS.out.1)
          have HB2 := Lib.hid (show Below w.heap.size w wr from HB.out.trans (HWS.out.1.mono HB.out.size))
          have HK1 := Lib.hid (show x0 + 1 ≤ many from hlt)
          clear e HO HB HWS
          generalize shD secret noise n x = DD at *
          go_wp2_with (at_builtin; refine wpList_append_own _ rfl _ _ 43 rfl w.heap.size 46 i0 (.agg #[.int .i64 0, .string ⟨#[]⟩]) 2 24 Try.underlying43 hi0 hi1 hi2 hi3 rfl (by decide) _ _ _ rfl (HO2.out.alloc _) ⟨wr.heap.size, 0, none⟩ 1 1 [.int .i64 (x : Nat), .string DD] rfl rfl ?c1 ?c2 ?c3 ?c4 ?c5 ?_)
          case c1 =>
            intro j u hj
            match j, hj with
            | 0, hj => simp at hj; subst hj; simp [Addr.add]
            | 1, hj => simp at hj; subst hj; simp [Addr.add]
          case c2 =>
            intro u hu
            simp at hu
            rcases hu with rfl | rfl <;> rfl
          case c3 => unfold maxLen; omega
          case c4 => omega
          case c5 => have := HB2.out.size; simp; omega
          intro v' w1 hown' hgrow _
          have HBN := Lib.hid (show Below w.heap.size w w1 from ((HB2.out).alloc HB2.out.size _).grown hgrow (by have := HB2.out.size; simp; omega) (by
            intro q hq
            obtain ⟨_, h2⟩ := HO2.out
            rcases h2 with ⟨rfl, _⟩ | ⟨g, cap, cur, rfl, hbg, _⟩
            · simp [Value.ownBlock] at hq
            · simp [Value.ownBlock] at hq
              omega))
          have HON := Lib.hid (show w1.ownsRow w.heap.size 46 2 v' (x0 + 1) (shC (fun i => shD secret noise n (i + 1)) (x0 + 1)) from by
            rw [HS.out]
            exact hown')
          clear hown' hgrow HO2 HB2 hcv
          go_wp2_with fail
          go_roundw
          case rel => exact ⟨x0 + 1, HK1.out, by rw [show ((x0 + 1 + 1 : Nat) : Int) = (x : Int) + 1 by have := HX.out; omega], HON.out, HBN.out⟩
          case measure => have := HX.out; simp [intOf]; omega
    · have hd : decide (x ≤ many) = false := decide_eq_false (by omega)
      have hle : ¬ x ≤ many := by omega
      obtain rfl : x0 = many := by omega
      go_wp2_with fail
      go_ret2
      obtain ⟨g, cap, rfl, q1, q2, q3, q4, q5⟩ := own_shares HO.out (by omega)
      exact ⟨_, rfl, g, cap, rfl, q1, q2, q3, q5, HB.out⟩
end Go.Proofs.Ytnjmcppljbkhnaa
