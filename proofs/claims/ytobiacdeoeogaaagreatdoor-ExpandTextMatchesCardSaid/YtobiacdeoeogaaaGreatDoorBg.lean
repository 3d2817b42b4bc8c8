import Derived.Test.YtobiacdeoeogaaaGreatDoorBf
import Derived.Test.YtobiacdeoeogaaaGreatDoorAh
import Derived.Maps.AppendAt
import Derived.Maps.GroupsBeside
set_option linter.unusedVariables false
set_option linter.unusedSimpArgs false
namespace Go.Proofs.YtobiacdeoeogaaaGreatDoor
open Go.RowKit Go.Maps
/-- places, as the program's integers. -/
def zsL (l : List Nat) : List Int := l.map Int.ofNat
theorem bestOf_stop (b : List UInt8) (at' lim : Nat) : ∀ (cs : List Nat) (r : Nat × Nat), lim ≤ r.1 → bestOf b at' lim cs r = r
  | [], _, _ => rfl
  | j :: cs, r, h => by
    have e : bestOf b at' lim (j :: cs) r = bestOf b at' lim cs (if r.1 < ml b j at' lim then (ml b j at' lim, at' - j) else r) := rfl
    rw [e, if_neg (by have := ml_le b lim j at'; omega)]
    exact bestOf_stop b at' lim cs r h
theorem bestOf_snoc (b : List UInt8) (at' lim : Nat) (cs : List Nat) (j : Nat) (r : Nat × Nat) : bestOf b at' lim (cs ++ [j]) r = (if (bestOf b at' lim cs r).1 < ml b j at' lim then (ml b j at' lim, at' - j) else bestOf b at' lim cs r) := by
  unfold bestOf
  rw [List.foldl_append]
  rfl
theorem bestOf_app (b : List UInt8) (at' lim : Nat) (cs ds : List Nat) (r : Nat × Nat) : bestOf b at' lim (cs ++ ds) r = bestOf b at' lim ds (bestOf b at' lim cs r) := by
  unfold bestOf
  rw [List.foldl_append]
theorem rev_drop {l : List Nat} {k j : Nat} (h : l[k]? = some j) : (l.drop k).reverse = (l.drop (k + 1)).reverse ++ [j] := by
  obtain ⟨hk, he⟩ := List.getElem?_eq_some_iff.1 h
  rw [List.drop_eq_getElem_cons hk, he, List.reverse_cons]
theorem cands_lt {b : List UInt8} {at' j k : Nat} (h : (cands b at')[k]? = some j) : j < at' := by
  have hm := List.mem_of_getElem? h
  unfold cands at hm
  exact List.mem_range.1 (List.mem_filter.1 hm).1
theorem zsL_len (l : List Nat) : (zsL l).length = l.length := by unfold zsL; rw [List.length_map]
theorem ints_cell {w : World} {base : Nat} {v : Value} {l : List Nat} (h : w.ownsInts base 3 .i64 v (zsL l)) : ∃ p c, v = .slice p l.length c ∧ ∀ k j : Nat, l[k]? = some j → ∃ g, p = some ⟨g, 0, none⟩ ∧ w.cell? ⟨g, k, none⟩ = some (.int .i64 (j : Int)) := by
  obtain ⟨⟨hl, hO⟩, _⟩ := h
  rw [zsL_len] at hO
  rcases hO with ⟨rfl, h0⟩ | ⟨g, cap, cur, rfl, _, hg, _, _, _, ht⟩
  · refine ⟨none, 0, by rw [h0], fun k j hk => ?_⟩
    have := (List.getElem?_eq_some_iff.1 hk).1
    omega
  · refine ⟨_, _, rfl, fun k j hk => ⟨g, rfl, ?_⟩⟩
    have hk' := (List.getElem?_eq_some_iff.1 hk).1
    have h1 : (cur.toList.take (l.length * 1))[k]? = some (.int .i64 (j : Int)) := by
      rw [ht]
      simp [zsL, hk]
    rw [List.getElem?_take, if_pos (by omega)] at h1
    simp [World.cell?, hg]
    simpa using h1
theorem drewN_ex1 (w : World) (q a : Nat) : ∃ m, (w.drewN q).drewN a = w.drewN m := ⟨q + a, by simp⟩
theorem drewN_ex2 (w : World) (q a c : Nat) : ∃ m, ((w.drewN q).drewN a).drewN c = w.drewN m := ⟨q + a + c, by simp⟩
set_option maxRecDepth 100000 in
set_option maxHeartbeats 8000000 in
theorem longest_ok (sb at' km base : Nat) (b : ByteArray) (ov v : Value) (r : Int) (w : World) (hS : Blk w sb 98 (szC b (.map (some km)) ov r)) (hat : at' < b.size) (hb : b.size ≤ 16384)
    (hlk : at' + 4 ≤ b.size → ∀ n, (Instr.lookup 96 (.map (some km)) (.string (b.extract at' (at' + 4))) false).run Tryz.prog (w.drewN n) = .ok v (w.drewN n))
    (ho : at' + 4 ≤ b.size → w.ownsInts base 3 .i64 v (zsL (cands b.data.toList at'))) :
    Calls Tryz.prog 48 #[pt sb, .int .i64 (at' : Int)] w fun e w' => e = .returned (.tuple #[.int .i64 ((best b.data.toList at').1 : Int), .int .i64 ((best b.data.toList at').2 : Int)]) ∧ ∃ q, w' = w.drewN q := by
  obtain ⟨bn, bd, hbst⟩ : ∃ bn bd, best b.data.toList at' = (bn, bd) := ⟨_, _, rfl⟩
  rw [hbst]
  have HBST := Lib.hid hbst
  clear hbst
  dsimp only
  obtain ⟨lim, hlim⟩ : ∃ lim, limOf b.data.toList at' = lim := ⟨_, rfl⟩
  have hl2 : lim = min 131 (b.size - at') := by rw [← hlim]; unfold limOf; rw [← Lib.size_eq]
  have hmin : min (131 : Int) ((b.size : Int) - (at' : Int)) = (lim : Int) := by omega
  have c0 := hS.cell 0
  have c1 := hS.cell 1
  simp at c0 c1
  by_cases h4 : lim < 4
  · have hd : decide ((lim : Int) < 4) = true := decide_eq_true (by omega)
    have hd' : (lim : Int) < 4 := by omega
    have hbest : best b.data.toList at' = (0, 0) := by unfold best; rw [hlim, if_pos h4]
    obtain ⟨rfl, rfl⟩ := Prod.mk.inj (HBST.out.symm.trans hbest)
    clear hl2 hlim hbest hlk ho hS
    go_enter Tryz.func48, Tryz.ntmps48
    go_wp2_with fail
    go_ret2
    exact ⟨rfl, 0, rfl⟩
  have hd : decide ((lim : Int) < 4) = false := decide_eq_false (by omega)
  have hd' : ¬ (lim : Int) < 4 := by omega
  have hsz : at' + 4 ≤ b.size := by omega
  have hlk := hlk hsz
  have HO := Lib.hid (ho hsz)
  have HLIM := Lib.hid hlim
  have hbl : at' + lim ≤ b.size := by omega
  clear ho hl2 hlim
  go_enter Tryz.func48, Tryz.ntmps48
  go_wp2_with fail
  go_quiet (fail)
  obtain ⟨p, c, rfl, hcell⟩ := ints_cell HO.out
  have hb0 : best b.data.toList at' = bestOf b.data.toList at' lim (cands b.data.toList at').reverse (0, 0) := by
    unfold best
    rw [HLIM.out, if_neg h4]
  have hb1 := HBST.out.symm.trans hb0
  obtain ⟨cs, hcs⟩ : ∃ cs, cands b.data.toList at' = cs := ⟨_, rfl⟩
  have hclt : ∀ k j : Nat, cs[k]? = some j → j < at' := fun k j h => cands_lt (b := b.data.toList) (by rw [hcs]; exact h)
  rw [hcs] at hcell hb1 ⊢
  have HB1 := Lib.hid hb1
  have HCL := Lib.hid hclt
  have HCE := Lib.hid hcell
  have hml : cs.length ≤ at' := by
    rw [← hcs]
    unfold cands
    exact Nat.le_trans (List.length_filter_le _ _) (by simp)
  clear hcs hcell HO hb0 hb1 HLIM hclt hlk c1 HBST
  have HS := Lib.hid hS
  clear hS c0
  go_wp2_with fail
  go_loopw [4, 5, 8, 9] (fun x y z _ wr => ∃ k : Nat, ∃ r' : Nat × Nat, x = .int .i64 (r'.1 : Int) ∧ y = .int .i64 (r'.2 : Int) ∧ z = .int .i64 ((k : Int) - 1) ∧ k ≤ cs.length ∧ r' = bestOf b.data.toList at' lim (cs.drop k).reverse (0, 0) ∧ r'.1 ≤ lim ∧ ∃ q, wr = w.drewN q) (fun x y z _ _ => (intOf z + 1).toNat)
  case atStart => exact ⟨cs.length, (0, 0), rfl, rfl, by rfl, Nat.le_refl _, by rw [List.drop_length]; rfl, Nat.zero_le _, nq, rfl⟩
  case round =>
    obtain ⟨k, ⟨n, d⟩, rfl, rfl, rfl, hk, hr, hrl, q, rfl⟩ := hrel
    have HR := Lib.hid hr
    clear hr
    dsimp only at hrl
    have HW := Lib.hid (show ∃ q', w.drewN q = w.drewN q' from ⟨q, rfl⟩)
    have hS0 : Blk (w.drewN q) sb 98 (szC b (.map (some km)) ov r) := ((Kp.refl [] w).drewN q).blk HS.out (by simp)
    have c0 := hS0.cell 0
    simp at c0
    cases k with
    | zero =>
      have hz : ((0 : Nat) : Int) - 1 = -1 := by omega
      rw [hz]
      clear hS0 hz
      go_wp2_with fail
      go_ret2
      obtain ⟨rfl, rfl⟩ := Prod.mk.inj (HB1.out.trans (by rw [HR.out, List.drop_zero]))
      exact ⟨rfl, HW.out⟩
    | succ k =>
      obtain ⟨j, hj⟩ : ∃ j, cs[k]? = some j := ⟨_, List.getElem?_eq_getElem (by omega)⟩
      obtain ⟨g, hpg, hcg⟩ := HCE.out k j hj
      have hjl := HCL.out k j hj
      have HJ := Lib.hid hj
      clear hj
      have hz : ((k + 1 : Nat) : Int) - 1 = (k : Int) := by omega
      rw [hz]
      have hdk : decide ((k : Int) ≥ 0) = true := decide_eq_true (by omega)
      by_cases hstop : n < lim
      · have hdn : decide ((n : Int) < (lim : Int)) = true := decide_eq_true (by omega)
        subst hpg
        have hcg0 : (w.drewN q).cell? ⟨g, k, none⟩ = some (.int .i64 (j : Int)) := by simpa using hcg
        have hc0 : (w.drewN q).cell? ⟨sb, 0, none⟩ = some (.string b) := by simpa using c0
        clear c0
        have SL := Lib.hid (fun w' => sameLength_ok b j at' lim hjl hbl (by omega) w')
        clear hS0 hz hcg
        generalize hw0 : w.drewN q = w0 at *
        have HW0 := Lib.hid hw0
        clear hw0
        by_cases hc : n < ml b.data.toList j at' lim
        · have hdc : decide ((ml b.data.toList j at' lim : Int) > (n : Int)) = true := decide_eq_true (by omega)
          go_wp2_with fail
          go_quiet ((go_at_call 71; exact Calls.quiet_of (SL.out _)))
          go_wp2_with fail
          go_quiet (fail)
          go_wp2_with fail
          go_roundw
          case rel =>
            refine ⟨k, (ml b.data.toList j at' lim, at' - j), rfl, by go_num, rfl, by omega, ?_, ml_le _ _ _ _, by rw [← HW0.out]; first | exact drewN_ex1 _ _ _ | exact drewN_ex2 _ _ _ _⟩
            rw [rev_drop HJ.out, bestOf_snoc, ← HR.out, if_pos hc]
          case measure => simp [intOf]
        · have hdc : decide ((ml b.data.toList j at' lim : Int) > (n : Int)) = false := decide_eq_false (by omega)
          go_wp2_with fail
          go_quiet ((go_at_call 71; exact Calls.quiet_of (SL.out _)))
          go_wp2_with fail
          go_roundw
          case rel =>
            refine ⟨k, (n, d), rfl, rfl, rfl, by omega, ?_, hrl, by rw [← HW0.out]; first | exact drewN_ex1 _ _ _ | exact drewN_ex2 _ _ _ _⟩
            rw [rev_drop HJ.out, bestOf_snoc, ← HR.out, if_neg hc]
          case measure => simp [intOf]
      · have hdn : decide ((n : Int) < (lim : Int)) = false := decide_eq_false (by omega)
        have hnl : n = lim := by omega
        clear hS0 hz hpg hcg
        go_wp2_with fail
        go_ret2
        have h1 : bestOf b.data.toList at' lim cs.reverse (0, 0) = (n, d) := by
          have h2 : cs.reverse = (cs.drop (k + 1)).reverse ++ (cs.take (k + 1)).reverse := by rw [← List.reverse_append, List.take_append_drop]
          rw [h2, bestOf_app, ← HR.out, bestOf_stop]
          omega
        obtain ⟨rfl, rfl⟩ := Prod.mk.inj (HB1.out.trans h1)
        exact ⟨rfl, HW.out⟩
end Go.Proofs.YtobiacdeoeogaaaGreatDoor
