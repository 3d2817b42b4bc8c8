import Derived.Test.YtdfloglicjocbaaVm
set_option linter.unusedVariables false
set_option linter.unusedSimpArgs false
namespace Go.Proofs.Ytdfloglicjocbaa
open Go.RowKit Go.Sort

set_option maxHeartbeats 4000000 in
set_option maxRecDepth 1000000 in
theorem orderOf41_5 (seed : Int) (la : Option Addr) (n lc : Nat) (s : Steps) (w : World) (hrow : StRow w w.heap.size la n s) (hn : n ≤ 20000) (hs0 : 0 ≤ seed) (hs1 : seed < 2147483648) :
    Calls Try.prog 41 #[.int .i64 5, .int .i64 seed, .slice la n lc] w (OrdPost 5 seed n s w) := by
  obtain ⟨i0, hi, hz0, hz1, hz2⟩ := info_parts int_info
  have HR := Lib.hid hrow
  have hO1 : Rf 5 w la n lc ((w.alloc (.cells #[.int .i64 5] 3)).alloc (.cells #[.slice la n lc] 76)) := by
    refine ⟨(Blk.new w 3 #[.int .i64 5]).below ((Below.refl _ _).alloc (Nat.le_refl _) _) (by simp), ?_, ((Below.refl _ _).alloc (Nat.le_refl _) _).alloc (by simp) _⟩
    have h := Blk.new (w.alloc (.cells #[.int .i64 5] 3)) 76 #[.slice la n lc]
    have e : (w.alloc (.cells #[.int .i64 5] 3)).heap.size = w.heap.size + 1 := by simp
    rwa [e] at h
  have HO1 := Lib.hid hO1
  clear hrow hO1
  go_enter Try.func41, Try.ntmps41
  go_wp2_with fail
  generalize (w.alloc (.cells #[.int .i64 5] 3)).alloc (.cells #[.slice la n lc] 76) = w1 at *
  go_loopw [7, 20] (fun ov iv wr => ∃ (k : Nat) (L : List Nat), k ≤ n ∧ iv = .int .i64 k ∧ Rf 5 w la n lc wr ∧ wr.ownsRow (w.heap.size + 2) 3 1 ov L.length ((intL L).map (Value.int .i64)) ∧ Hid (InsK 5 s n k L)) (fun _ iv _ => n - (intOf iv).toNat)
  case atStart => exact ⟨0, [], by omega, rfl, HO1.out, World.ownsRow_nil _ _ _ _, List.Perm.refl _, List.Pairwise.nil⟩
  case round =>
    clear HO1
    obtain ⟨k, L, hk, rfl, ho, hown, HI⟩ := hrel
    have HO := Lib.hid ho
    have HOwn := Lib.hid hown
    have hsz := ho.b.size
    have hkl := ho.k.lt
    have hol := ho.l.lt
    clear ho hown
    by_cases hlt : k < n
    · have hk1 : (k : Int) < (n : Int) := by omega
      obtain ⟨b, off, rfl, hbB, hc⟩ := (HR.out.below HO.out.b) k hlt
      have c0 := hc 0 (by omega)
      have c1 := hc 1 (by omega)
      have c2 := hc 2 (by omega)
      have c3 := hc 3 (by omega)
      have c4 := hc 4 (by omega)
      simp only [Steps.cells, Nat.add_zero] at c0 c1 c2 c3 c4
      have hbl : b < wr.heap.size := by omega
      have HBA := Lib.hid ((Below.refl wr.heap.size wr).alloc (Nat.le_refl _) (.cells (s.cells k) 124))
      clear hc
      by_cases h4 : s.K k = 4
      · have hcb : carB (s.K k) = true := by simp [carB, h4]
        have d1 : (s.K k != 4) = false := by simp [h4]
        clear h4
        have hfl := carr_len s.K k
        have HIL := Lib.hid HI.out.1.length_eq
        have hLl : L.length ≤ k := by rw [HIL.out]; exact hfl
        obtain ⟨ao, co, hov⟩ := own_len HOwn.out
        have HOV := Lib.hid hov
        subst hov
        clear hfl
        have HR1 := Lib.hid (HO.out.step (HBA.out))
        have HW1 := Lib.hid (HOwn.out.alloc (.cells (s.cells k) 124))
        unfold Steps.cells at HR1 HW1
        go_wp2_with (at_builtin; refine wpList_append_own_at _ rfl (.tmp 35) (.tmp 37) 26 rfl (w.heap.size + 2) 3 i0 (.int .i64 0) 1 8 Try.underlying26 hi hz0 hz1 hz2 rfl (by decide) _ _ _ rfl (HW1.out.alloc _) ⟨wr.heap.size + 1, 0, none⟩ 1 1 [.int .i64 (k : Int)] rfl rfl (by simpa using cell_one_new (wr.alloc (.cells #[.int .i64 (s.K k), .string (s.P k), .string (s.Q k), .int .i64 (s.S k), .int .i64 (s.T k)] 124)) (.int .i64 (k : Int)) 3) (by simp [Value.oneCell']) (by unfold maxLen; omega) (by omega) (by simp; omega) ?_)
        intro v' w3 hown3 hg3 _ _
        have hlb : ∀ b, (Value.slice ao L.length co).ownBlock = some b → w.heap.size + 2 ≤ b := fun b hb => (HW1.out.lt b hb).1
        have HR3 := Lib.hid ((HR1.out.step ((Below.refl _ _).alloc (Nat.le_refl _) (.cells #[.int .i64 (k : Int)] 3))).only hg3 hlb)
        have HW3 := Lib.hid (own_more hown3)
        obtain ⟨g, cap, hv3, hgb⟩ := own_blk HW3.out (by simp)
        subst hv3
        have hcl : (L ++ [k]).length = L.length + 1 := by simp
        have HW4 := Lib.hid (hcl ▸ HW3.out)
        rw [hcl]
        clear hown3 hg3 hlb HW3 hcl HR1 HW1 HO HOwn HBA hbl hol hkl
        go_wp2_with fail
        generalize hLm : L.length = mm at *
        have HLM := Lib.hid hLm
        clear hLm
        go_loopg [11] mm (fun kx qv wq => ∃ (q : Nat) (C : List Nat), qv = .int .i64 q ∧ q ≤ mm ∧ q ≤ kx ∧ wq.ownsRow (w.heap.size + 2) 3 1 (.slice (some ⟨g, 0, none⟩) (mm + 1) cap) (mm + 1) ((intL C).map (Value.int .i64)) ∧ Rf 5 w (some ⟨b, off, none⟩) n lc wq ∧ Hid (Gap L C q) ∧ Hid (q = mm ∨ aB 5 s k (L.getD q 0) = true))
        case atStart => exact ⟨mm, L ++ [k], rfl, Nat.le_refl _, Nat.le_refl _, HW4.out, HR3.out, (HLM.out ▸ gap_start L k), Or.inl rfl⟩
        case round =>
          clear HW4 HR3
          obtain ⟨q, C, rfl, hq1, hq2, hown4, hr4, HG, HA⟩ := hrel
          have HW4 := Lib.hid hown4
          have HR4 := Lib.hid hr4
          have ck := hr4.k.cell 0
          have cl := hr4.l.cell 0
          clear hown4 hr4
          rcases Nat.eq_zero_or_pos q with rfl | hq0
          · have HIN := Lib.hid (insK_step 5 s n k 0 L (by omega) hlt HI.out hcb (Nat.zero_le _) (Or.inl rfl) (by rw [HLM.out]; exact HA.out))
            have HGE := Lib.hid (gap_end L C 0 k (Nat.zero_le _) HG.out)
            have HP := Lib.hid (own_put (q := 0) (x := k) HW4.out)
            have cz := own_cell HW4.out 0 (by omega)
            have fz := HW4.out.frozenAt 0
            have HR5 := Lib.hid (HR4.out.only HP.out.2 (fun b hb => by injection hb with hb; omega))
            have HLN := Lib.hid (show (L.take 0 ++ k :: L.drop 0).length = mm + 1 by simp [HLM.out])
            go_wp2_with fail
            exact ⟨⟨k + 1, L.take 0 ++ k :: L.drop 0, by omega, by go_num, HR5.out, by rw [HLN.out, ← HGE.out]; exact HP.out.1, HIN.out⟩, by simp [intOf]; omega⟩
          · obtain ⟨p, rfl⟩ : ∃ p, q = p + 1 := ⟨q - 1, by omega⟩
            have hpl : p < L.length := by rw [HLM.out]; omega
            have hcp : C.getD p 0 = L.getD p 0 := HG.out.2.1 p (by omega)
            have hyk : L.getD p 0 < k := by
              have : L.getD p 0 = L[p] := by simp [List.getElem?_eq_getElem hpl]
              rw [this]; exact carr_lt s.K k _ (HI.out.1.mem_iff.1 (List.getElem_mem _))
            have ca := own_cell HW4.out p (by omega)
            have cb := own_cell HW4.out (p + 1) (by omega)
            have fb := HW4.out.frozenAt (p + 1)
            obtain ⟨lb, lo, e, _, hst⟩ := stRow_at (HR.out.below HR4.out.b) (by omega : 0 < n)
            cases e
            have HAH := Lib.hid (ahead63_5 s w.heap.size (w.heap.size + 1) b off n lc k (L.getD p 0) wr (HR4.out.k.cell 0) (HR4.out.l.cell 0) (hst k hlt) (hst _ (by omega)) hlt (by omega) hn)
            rw [hcp] at ca
            have e2 : (p : Int) + 1 - 1 = (p : Int) := by omega
            have e3 : (0 : Int) < (p : Int) + 1 := by omega
            have e4 : (p : Int) < (mm : Int) + 1 := by omega
            have e5 : (p : Int) + 1 < (mm : Int) + 1 := by omega
            clear hst
            cases hab : aB 5 s k (L.getD p 0)
            · have HIN := Lib.hid (insK_step 5 s n k (p + 1) L (by omega) hlt HI.out hcb (by omega) (Or.inr (by rw [Nat.add_sub_cancel]; exact hab)) (by rw [HLM.out]; exact HA.out))
              have HGE := Lib.hid (gap_end L C (p + 1) k (by omega) HG.out)
              have HLN := Lib.hid (show (L.take (p + 1) ++ k :: L.drop (p + 1)).length = mm + 1 by have := HLM.out; simp only [List.length_append, List.length_cons, List.length_take, List.length_drop]; omega)
              rw [hab] at HAH
              clear hab hcp
              obtain ⟨y, hy⟩ : ∃ y, y = L.getD p 0 := ⟨_, rfl⟩
              rw [← hy] at HAH ca
              clear hy hyk
              go_wp2_with fail
              refine HAH.out.mono ?_
              rintro e w5 ⟨rfl, md, rfl⟩
              have HP := Lib.hid (own_put (w := wr.drewN md) (q := p + 1) (x := k) HW4.out)
              have HR5 := Lib.hid ((HR4.out.step (below_drewN (Below.refl _ _) md)).only HP.out.2 (fun b hb => by injection hb with hb; omega))
              go_wp2_with fail
              exact ⟨⟨k + 1, L.take (p + 1) ++ k :: L.drop (p + 1), by omega, by go_num, HR5.out, by rw [HLN.out, ← HGE.out]; exact HP.out.1, HIN.out⟩, by simp [intOf]; omega⟩
            · have HG2 := Lib.hid (gap_step L C p hpl HG.out)
              have HA2 := Lib.hid (show p = mm ∨ aB 5 s k (L.getD p 0) = true from Or.inr hab)
              rw [hcp] at HG2
              rw [hab] at HAH
              clear hab hcp
              obtain ⟨y, hy⟩ : ∃ y, y = L.getD p 0 := ⟨_, rfl⟩
              rw [← hy] at HAH ca HG2
              clear hy hyk
              go_wp2_with fail
              refine HAH.out.mono ?_
              rintro e w5 ⟨rfl, md, rfl⟩
              have HP := Lib.hid (own_put (w := wr.drewN md) (q := p + 1) (x := y) HW4.out)
              have HR5 := Lib.hid ((HR4.out.step (below_drewN (Below.refl _ _) md)).only HP.out.2 (fun b hb => by injection hb with hb; omega))
              go_wp2_with fail
              (go_roundg p; (case measure => omega); (case rel => exact ⟨p, _, by first | rfl | go_num, by omega, Nat.le_refl _, HP.out.1, HR5.out, HG2, HA2⟩))
      · have d1 : (s.K k != 4) = true := by simp [h4]
        by_cases h5 : s.K k = 5
        · have hcb : carB (s.K k) = true := by simp [carB, h5]
          have d2 : (s.K k != 5) = false := by simp [h5]
          clear h4 h5
          have hfl := carr_len s.K k
          have HIL := Lib.hid HI.out.1.length_eq
          have hLl : L.length ≤ k := by rw [HIL.out]; exact hfl
          obtain ⟨ao, co, hov⟩ := own_len HOwn.out
          have HOV := Lib.hid hov
          subst hov
          clear hfl
          have HR1 := Lib.hid (HO.out.step (HBA.out))
          have HW1 := Lib.hid (HOwn.out.alloc (.cells (s.cells k) 124))
          unfold Steps.cells at HR1 HW1
          go_wp2_with (at_builtin; refine wpList_append_own_at _ rfl (.tmp 35) (.tmp 37) 26 rfl (w.heap.size + 2) 3 i0 (.int .i64 0) 1 8 Try.underlying26 hi hz0 hz1 hz2 rfl (by decide) _ _ _ rfl (HW1.out.alloc _) ⟨wr.heap.size + 1, 0, none⟩ 1 1 [.int .i64 (k : Int)] rfl rfl (by simpa using cell_one_new (wr.alloc (.cells #[.int .i64 (s.K k), .string (s.P k), .string (s.Q k), .int .i64 (s.S k), .int .i64 (s.T k)] 124)) (.int .i64 (k : Int)) 3) (by simp [Value.oneCell']) (by unfold maxLen; omega) (by omega) (by simp; omega) ?_)
          intro v' w3 hown3 hg3 _ _
          have hlb : ∀ b, (Value.slice ao L.length co).ownBlock = some b → w.heap.size + 2 ≤ b := fun b hb => (HW1.out.lt b hb).1
          have HR3 := Lib.hid ((HR1.out.step ((Below.refl _ _).alloc (Nat.le_refl _) (.cells #[.int .i64 (k : Int)] 3))).only hg3 hlb)
          have HW3 := Lib.hid (own_more hown3)
          obtain ⟨g, cap, hv3, hgb⟩ := own_blk HW3.out (by simp)
          subst hv3
          have hcl : (L ++ [k]).length = L.length + 1 := by simp
          have HW4 := Lib.hid (hcl ▸ HW3.out)
          rw [hcl]
          clear hown3 hg3 hlb HW3 hcl HR1 HW1 HO HOwn HBA hbl hol hkl
          go_wp2_with fail
          generalize hLm : L.length = mm at *
          have HLM := Lib.hid hLm
          clear hLm
          go_loopg [11] mm (fun kx qv wq => ∃ (q : Nat) (C : List Nat), qv = .int .i64 q ∧ q ≤ mm ∧ q ≤ kx ∧ wq.ownsRow (w.heap.size + 2) 3 1 (.slice (some ⟨g, 0, none⟩) (mm + 1) cap) (mm + 1) ((intL C).map (Value.int .i64)) ∧ Rf 5 w (some ⟨b, off, none⟩) n lc wq ∧ Hid (Gap L C q) ∧ Hid (q = mm ∨ aB 5 s k (L.getD q 0) = true))
          case atStart => exact ⟨mm, L ++ [k], rfl, Nat.le_refl _, Nat.le_refl _, HW4.out, HR3.out, (HLM.out ▸ gap_start L k), Or.inl rfl⟩
          case round =>
            clear HW4 HR3
            obtain ⟨q, C, rfl, hq1, hq2, hown4, hr4, HG, HA⟩ := hrel
            have HW4 := Lib.hid hown4
            have HR4 := Lib.hid hr4
            have ck := hr4.k.cell 0
            have cl := hr4.l.cell 0
            clear hown4 hr4
            rcases Nat.eq_zero_or_pos q with rfl | hq0
            · have HIN := Lib.hid (insK_step 5 s n k 0 L (by omega) hlt HI.out hcb (Nat.zero_le _) (Or.inl rfl) (by rw [HLM.out]; exact HA.out))
              have HGE := Lib.hid (gap_end L C 0 k (Nat.zero_le _) HG.out)
              have HP := Lib.hid (own_put (q := 0) (x := k) HW4.out)
              have cz := own_cell HW4.out 0 (by omega)
              have fz := HW4.out.frozenAt 0
              have HR5 := Lib.hid (HR4.out.only HP.out.2 (fun b hb => by injection hb with hb; omega))
              have HLN := Lib.hid (show (L.take 0 ++ k :: L.drop 0).length = mm + 1 by simp [HLM.out])
              go_wp2_with fail
              exact ⟨⟨k + 1, L.take 0 ++ k :: L.drop 0, by omega, by go_num, HR5.out, by rw [HLN.out, ← HGE.out]; exact HP.out.1, HIN.out⟩, by simp [intOf]; omega⟩
            · obtain ⟨p, rfl⟩ : ∃ p, q = p + 1 := ⟨q - 1, by omega⟩
              have hpl : p < L.length := by rw [HLM.out]; omega
              have hcp : C.getD p 0 = L.getD p 0 := HG.out.2.1 p (by omega)
              have hyk : L.getD p 0 < k := by
                have : L.getD p 0 = L[p] := by simp [List.getElem?_eq_getElem hpl]
                rw [this]; exact carr_lt s.K k _ (HI.out.1.mem_iff.1 (List.getElem_mem _))
              have ca := own_cell HW4.out p (by omega)
              have cb := own_cell HW4.out (p + 1) (by omega)
              have fb := HW4.out.frozenAt (p + 1)
              obtain ⟨lb, lo, e, _, hst⟩ := stRow_at (HR.out.below HR4.out.b) (by omega : 0 < n)
              cases e
              have HAH := Lib.hid (ahead63_5 s w.heap.size (w.heap.size + 1) b off n lc k (L.getD p 0) wr (HR4.out.k.cell 0) (HR4.out.l.cell 0) (hst k hlt) (hst _ (by omega)) hlt (by omega) hn)
              rw [hcp] at ca
              have e2 : (p : Int) + 1 - 1 = (p : Int) := by omega
              have e3 : (0 : Int) < (p : Int) + 1 := by omega
              have e4 : (p : Int) < (mm : Int) + 1 := by omega
              have e5 : (p : Int) + 1 < (mm : Int) + 1 := by omega
              clear hst
              cases hab : aB 5 s k (L.getD p 0)
              · have HIN := Lib.hid (insK_step 5 s n k (p + 1) L (by omega) hlt HI.out hcb (by omega) (Or.inr (by rw [Nat.add_sub_cancel]; exact hab)) (by rw [HLM.out]; exact HA.out))
                have HGE := Lib.hid (gap_end L C (p + 1) k (by omega) HG.out)
                have HLN := Lib.hid (show (L.take (p + 1) ++ k :: L.drop (p + 1)).length = mm + 1 by have := HLM.out; simp only [List.length_append, List.length_cons, List.length_take, List.length_drop]; omega)
                rw [hab] at HAH
                clear hab hcp
                obtain ⟨y, hy⟩ : ∃ y, y = L.getD p 0 := ⟨_, rfl⟩
                rw [← hy] at HAH ca
                clear hy hyk
                go_wp2_with fail
                refine HAH.out.mono ?_
                rintro e w5 ⟨rfl, md, rfl⟩
                have HP := Lib.hid (own_put (w := wr.drewN md) (q := p + 1) (x := k) HW4.out)
                have HR5 := Lib.hid ((HR4.out.step (below_drewN (Below.refl _ _) md)).only HP.out.2 (fun b hb => by injection hb with hb; omega))
                go_wp2_with fail
                exact ⟨⟨k + 1, L.take (p + 1) ++ k :: L.drop (p + 1), by omega, by go_num, HR5.out, by rw [HLN.out, ← HGE.out]; exact HP.out.1, HIN.out⟩, by simp [intOf]; omega⟩
              · have HG2 := Lib.hid (gap_step L C p hpl HG.out)
                have HA2 := Lib.hid (show p = mm ∨ aB 5 s k (L.getD p 0) = true from Or.inr hab)
                rw [hcp] at HG2
                rw [hab] at HAH
                clear hab hcp
                obtain ⟨y, hy⟩ : ∃ y, y = L.getD p 0 := ⟨_, rfl⟩
                rw [← hy] at HAH ca HG2
                clear hy hyk
                go_wp2_with fail
                refine HAH.out.mono ?_
                rintro e w5 ⟨rfl, md, rfl⟩
                have HP := Lib.hid (own_put (w := wr.drewN md) (q := p + 1) (x := y) HW4.out)
                have HR5 := Lib.hid ((HR4.out.step (below_drewN (Below.refl _ _) md)).only HP.out.2 (fun b hb => by injection hb with hb; omega))
                go_wp2_with fail
                (go_roundg p; (case measure => omega); (case rel => exact ⟨p, _, by first | rfl | go_num, by omega, Nat.le_refl _, HP.out.1, HR5.out, HG2, HA2⟩))
        · have d2 : (s.K k != 5) = true := by simp [h5]
          have HIN := Lib.hid (insK_no 5 s n k L HI.out (by simp [carB, h4, h5]))
          have HO2 := Lib.hid (HO.out.step HBA.out)
          have HW2 := Lib.hid (HOwn.out.alloc (.cells (s.cells k) 124))
          unfold Steps.cells at HO2 HW2
          clear h4 h5
          go_wp2_with fail
          go_roundw
          case rel => exact ⟨k + 1, L, by omega, by go_num, HO2.out, HW2.out, HIN.out⟩
          case measure => simp [intOf]; omega
    · obtain rfl : k = n := by omega
      have hd : ¬ (k : Int) < (k : Int) := by omega
      obtain ⟨a3, cap3, hv3, hrow3⟩ := Row.of_own HOwn.out (intL_len _)
      have HRow := Lib.hid hrow3
      have hLn : L.length ≤ k := by rw [HI.out.1.length_eq]; exact carr_len s.K k
      rw [intL_len] at hv3
      have ck := HO.out.k.cell 0
      subst hv3
      clear hrow3 hlt
      obtain ⟨W2, rfl⟩ : ∃ W2, W2 = wr := ⟨_, rfl⟩
      go_wp2_with fail
      go_loopg [12, 13, 14] L.length (fun kx mv av bv wq => ∃ (p r : Nat) (M : List Nat), av = .int .i64 p ∧ bv = .int .i64 ((p : Int) + (r : Int) - 1) ∧ r ≤ kx ∧ p + r ≤ L.length ∧ M.length + r = L.length ∧ wq.ownsRow W2.heap.size 3 1 mv M.length ((intL M).map (Value.int .i64)) ∧ Below W2.heap.size W2 wq ∧ Hid (M ++ mixR L p r = mixR L 0 L.length))
      case atStart => exact ⟨0, L.length, [], rfl, by congr 1; omega, Nat.le_refl _, by omega, by simp, World.ownsRow_nil _ _ _ _, Below.refl _ _, rfl⟩
      case round =>
        obtain ⟨p, r, M, rfl, rfl, hkx, hpr, hMl, hm, hb, HX⟩ := hrel
        have HM := Lib.hid hm
        have HB := Lib.hid hb
        have hszr := hb.size
        clear hm hb
        rcases Nat.eq_zero_or_pos r with rfl | hr0
        · have HE := Lib.hid (show finL 5 seed L = M by rw [fin5, ← HX.out]; simp [mixR])
          obtain ⟨a4, cap4, hv4, hrow4⟩ := Row.of_own HM.out (intL_len _)
          have HRow4 := Lib.hid hrow4
          subst hv4
          have hz : ¬ (p : Int) ≤ (p : Int) + ((0 : Nat) : Int) - 1 := by omega
          clear hrow4
          go_wp2_with fail
          go_ret
          exact ⟨L, a4, cap4, ⟨HI.out.1, HI.out.2⟩, by rw [HE.out, ← intL_len M]; rfl, by rw [HE.out]; exact HRow4.out, below_step HO.out.b (Nat.le_refl _) HB.out⟩
        · obtain ⟨m, rfl⟩ : ∃ m, r = m + 1 := ⟨r - 1, by omega⟩
          obtain ⟨b3, off3, rfl, hb3, ca⟩ := ((HRow.out.below HB.out).more hszr) p (by rw [intL_len]; omega)
          obtain ⟨b4, off4, e4, _, cb⟩ := ((HRow.out.below HB.out).more hszr) (p + m) (by rw [intL_len]; omega)
          cases e4
          have hgx : ∀ j, j < L.length → (intL L).getD j 0 = ((L.getD j 0 : Nat) : Int) := fun j hj => by simp [intL, List.getElem?_eq_getElem hj]
          rw [hgx p (by omega)] at ca
          rw [hgx (p + m) (by omega)] at cb
          obtain ⟨x, hx⟩ : ∃ x, x = L.getD p 0 := ⟨_, rfl⟩
          obtain ⟨y, hy⟩ : ∃ y, y = L.getD (p + m) 0 := ⟨_, rfl⟩
          rw [← hx] at ca
          rw [← hy] at cb
          have HXX := Lib.hid (And.intro hx hy)
          clear hx hy hgx
          have HCB := Lib.hid cb
          clear cb
          have hz : (p : Int) ≤ (p : Int) + ((m + 1 : Nat) : Int) - 1 := by omega
          have hz2 : (p : Int) + ((m + 1 : Nat) : Int) - 1 = ((p + m : Nat) : Int) := by omega
          rw [hz2]
          rw [hz2] at hz
          clear hz2
          have hkp : (p : Int) < (L.length : Int) := by omega
          go_wp2_with (at_builtin; refine wpList_append_own_at _ rfl (.tmp 74) (.tmp 79) 26 rfl W2.heap.size 3 i0 (.int .i64 0) 1 8 Try.underlying26 hi hz0 hz1 hz2 rfl (by decide) _ _ _ rfl (HM.out.alloc _) ⟨wr.heap.size, 0, none⟩ 1 1 [.int .i64 (x : Int)] rfl rfl (cell_one_new _ _ _) (by simp [Value.oneCell']) (by unfold maxLen; omega) (by omega) (by simp; omega) ?_)
          intro v' w3 hown3 hg3 _ _
          have HM3 := Lib.hid (own_more hown3)
          have HB3 := Lib.hid (grow_below HB.out HM.out (Nat.le_refl _) hszr hg3)
          have hsz3 := HB3.out.size
          clear hown3 hg3 ca HM HB HCB
          by_cases hm0 : 0 < m
          · have hmz : (p : Int) + 1 ≤ ((p + m : Nat) : Int) := by omega
            have hmz2 : (p : Int) + 1 ≤ (p : Int) + (m : Int) := by omega
            obtain ⟨b5, off5, e5, hb5, cb⟩ := ((HRow.out.below HB3.out).more hsz3) (p + m) (by rw [intL_len]; omega)
            cases e5
            rw [show (intL L).getD (p + m) 0 = ((L.getD (p + m) 0 : Nat) : Int) by simp [intL, List.getElem?_eq_getElem (show p + m < L.length by omega)], ← HXX.out.2] at cb
            have hkq : ((p + m : Nat) : Int) < (L.length : Int) := by omega
            have hml : (M ++ [x]).length ≤ 20001 := by simp; omega
            have HX2 := Lib.hid (show (M ++ [x] ++ [y]) ++ mixR L (p + 1) (m - 1) = mixR L 0 L.length by rw [← HX.out, mixR_two L p m hm0, ← HXX.out.1, ← HXX.out.2]; simp)
            go_wp2_with (at_builtin; refine wpList_append_own_at _ rfl (.tmp 86) (.tmp 91) 26 rfl W2.heap.size 3 i0 (.int .i64 0) 1 8 Try.underlying26 hi hz0 hz1 hz2 rfl (by decide) _ _ _ rfl (HM3.out.alloc _) ⟨w3.heap.size, 0, none⟩ 1 1 [.int .i64 (y : Int)] rfl rfl (cell_one_new _ _ _) (by simp [Value.oneCell']) (by unfold maxLen; omega) (by omega) (by simp; omega) ?_)
            intro v4 w4 hown4 hg4 _ _
            have HM4 := Lib.hid (own_more (F := M ++ [x]) (by rw [show (M ++ [x]).length = M.length + 1 by simp]; exact hown4))
            have HB4 := Lib.hid (grow_below HB3.out HM3.out (Nat.le_refl _) hsz3 hg4)
            clear hown4 hg4 cb hml
            go_wp2_with fail
            go_roundg (m - 1)
            case measure => omega
            case rel => exact ⟨p + 1, m - 1, M ++ [x] ++ [y], by go_num, by congr 1; omega, Nat.le_refl _, by omega, by simp; omega, HM4.out, HB4.out, HX2⟩
          · obtain rfl : m = 0 := by omega
            have hmz : ¬ (p : Int) + 1 ≤ ((p + 0 : Nat) : Int) := by omega
            have hmz2 : ¬ (p : Int) + 1 ≤ (p : Int) := by omega
            have HX2 := Lib.hid (show (M ++ [x]) ++ mixR L (p + 1) 0 = mixR L 0 L.length by rw [← HX.out, mixR_one, ← HXX.out.1]; simp [mixR])
            go_wp2_with fail
            go_roundg 0
            case measure => omega
            case rel => exact ⟨p + 1, 0, M ++ [x], by go_num, by congr 1; omega, Nat.le_refl _, by omega, by simp; omega, HM3.out, HB3.out, HX2⟩

set_option maxHeartbeats 4000000 in
set_option maxRecDepth 1000000 in
theorem orderOf41_6 (seed : Int) (la : Option Addr) (n lc : Nat) (s : Steps) (w : World) (hrow : StRow w w.heap.size la n s) (hn : n ≤ 20000) (hs0 : 0 ≤ seed) (hs1 : seed < 2147483648) :
    Calls Try.prog 41 #[.int .i64 6, .int .i64 seed, .slice la n lc] w (OrdPost 6 seed n s w) := by
  obtain ⟨i0, hi, hz0, hz1, hz2⟩ := info_parts int_info
  have HR := Lib.hid hrow
  have hO1 : Rf 6 w la n lc ((w.alloc (.cells #[.int .i64 6] 3)).alloc (.cells #[.slice la n lc] 76)) := by
    refine ⟨(Blk.new w 3 #[.int .i64 6]).below ((Below.refl _ _).alloc (Nat.le_refl _) _) (by simp), ?_, ((Below.refl _ _).alloc (Nat.le_refl _) _).alloc (by simp) _⟩
    have h := Blk.new (w.alloc (.cells #[.int .i64 6] 3)) 76 #[.slice la n lc]
    have e : (w.alloc (.cells #[.int .i64 6] 3)).heap.size = w.heap.size + 1 := by simp
    rwa [e] at h
  have HO1 := Lib.hid hO1
  clear hrow hO1
  go_enter Try.func41, Try.ntmps41
  go_wp2_with fail
  generalize (w.alloc (.cells #[.int .i64 6] 3)).alloc (.cells #[.slice la n lc] 76) = w1 at *
  go_loopw [7, 20] (fun ov iv wr => ∃ (k : Nat) (L : List Nat), k ≤ n ∧ iv = .int .i64 k ∧ Rf 6 w la n lc wr ∧ wr.ownsRow (w.heap.size + 2) 3 1 ov L.length ((intL L).map (Value.int .i64)) ∧ Hid (InsK 6 s n k L)) (fun _ iv _ => n - (intOf iv).toNat)
  case atStart => exact ⟨0, [], by omega, rfl, HO1.out, World.ownsRow_nil _ _ _ _, List.Perm.refl _, List.Pairwise.nil⟩
  case round =>
    clear HO1
    obtain ⟨k, L, hk, rfl, ho, hown, HI⟩ := hrel
    have HO := Lib.hid ho
    have HOwn := Lib.hid hown
    have hsz := ho.b.size
    have hkl := ho.k.lt
    have hol := ho.l.lt
    clear ho hown
    by_cases hlt : k < n
    · have hk1 : (k : Int) < (n : Int) := by omega
      obtain ⟨b, off, rfl, hbB, hc⟩ := (HR.out.below HO.out.b) k hlt
      have c0 := hc 0 (by omega)
      have c1 := hc 1 (by omega)
      have c2 := hc 2 (by omega)
      have c3 := hc 3 (by omega)
      have c4 := hc 4 (by omega)
      simp only [Steps.cells, Nat.add_zero] at c0 c1 c2 c3 c4
      have hbl : b < wr.heap.size := by omega
      have HBA := Lib.hid ((Below.refl wr.heap.size wr).alloc (Nat.le_refl _) (.cells (s.cells k) 124))
      clear hc
      by_cases h4 : s.K k = 4
      · have hcb : carB (s.K k) = true := by simp [carB, h4]
        have d1 : (s.K k != 4) = false := by simp [h4]
        clear h4
        have hfl := carr_len s.K k
        have HIL := Lib.hid HI.out.1.length_eq
        have hLl : L.length ≤ k := by rw [HIL.out]; exact hfl
        obtain ⟨ao, co, hov⟩ := own_len HOwn.out
        have HOV := Lib.hid hov
        subst hov
        clear hfl
        have HR1 := Lib.hid (HO.out.step (HBA.out))
        have HW1 := Lib.hid (HOwn.out.alloc (.cells (s.cells k) 124))
        unfold Steps.cells at HR1 HW1
        go_wp2_with (at_builtin; refine wpList_append_own_at _ rfl (.tmp 35) (.tmp 37) 26 rfl (w.heap.size + 2) 3 i0 (.int .i64 0) 1 8 Try.underlying26 hi hz0 hz1 hz2 rfl (by decide) _ _ _ rfl (HW1.out.alloc _) ⟨wr.heap.size + 1, 0, none⟩ 1 1 [.int .i64 (k : Int)] rfl rfl (by simpa using cell_one_new (wr.alloc (.cells #[.int .i64 (s.K k), .string (s.P k), .string (s.Q k), .int .i64 (s.S k), .int .i64 (s.T k)] 124)) (.int .i64 (k : Int)) 3) (by simp [Value.oneCell']) (by unfold maxLen; omega) (by omega) (by simp; omega) ?_)
        intro v' w3 hown3 hg3 _ _
        have hlb : ∀ b, (Value.slice ao L.length co).ownBlock = some b → w.heap.size + 2 ≤ b := fun b hb => (HW1.out.lt b hb).1
        have HR3 := Lib.hid ((HR1.out.step ((Below.refl _ _).alloc (Nat.le_refl _) (.cells #[.int .i64 (k : Int)] 3))).only hg3 hlb)
        have HW3 := Lib.hid (own_more hown3)
        obtain ⟨g, cap, hv3, hgb⟩ := own_blk HW3.out (by simp)
        subst hv3
        have hcl : (L ++ [k]).length = L.length + 1 := by simp
        have HW4 := Lib.hid (hcl ▸ HW3.out)
        rw [hcl]
        clear hown3 hg3 hlb HW3 hcl HR1 HW1 HO HOwn HBA hbl hol hkl
        go_wp2_with fail
        generalize hLm : L.length = mm at *
        have HLM := Lib.hid hLm
        clear hLm
        go_loopg [11] mm (fun kx qv wq => ∃ (q : Nat) (C : List Nat), qv = .int .i64 q ∧ q ≤ mm ∧ q ≤ kx ∧ wq.ownsRow (w.heap.size + 2) 3 1 (.slice (some ⟨g, 0, none⟩) (mm + 1) cap) (mm + 1) ((intL C).map (Value.int .i64)) ∧ Rf 6 w (some ⟨b, off, none⟩) n lc wq ∧ Hid (Gap L C q) ∧ Hid (q = mm ∨ aB 6 s k (L.getD q 0) = true))
        case atStart => exact ⟨mm, L ++ [k], rfl, Nat.le_refl _, Nat.le_refl _, HW4.out, HR3.out, (HLM.out ▸ gap_start L k), Or.inl rfl⟩
        case round =>
          clear HW4 HR3
          obtain ⟨q, C, rfl, hq1, hq2, hown4, hr4, HG, HA⟩ := hrel
          have HW4 := Lib.hid hown4
          have HR4 := Lib.hid hr4
          have ck := hr4.k.cell 0
          have cl := hr4.l.cell 0
          clear hown4 hr4
          rcases Nat.eq_zero_or_pos q with rfl | hq0
          · have HIN := Lib.hid (insK_step 6 s n k 0 L (by omega) hlt HI.out hcb (Nat.zero_le _) (Or.inl rfl) (by rw [HLM.out]; exact HA.out))
            have HGE := Lib.hid (gap_end L C 0 k (Nat.zero_le _) HG.out)
            have HP := Lib.hid (own_put (q := 0) (x := k) HW4.out)
            have cz := own_cell HW4.out 0 (by omega)
            have fz := HW4.out.frozenAt 0
            have HR5 := Lib.hid (HR4.out.only HP.out.2 (fun b hb => by injection hb with hb; omega))
            have HLN := Lib.hid (show (L.take 0 ++ k :: L.drop 0).length = mm + 1 by simp [HLM.out])
            go_wp2_with fail
            exact ⟨⟨k + 1, L.take 0 ++ k :: L.drop 0, by omega, by go_num, HR5.out, by rw [HLN.out, ← HGE.out]; exact HP.out.1, HIN.out⟩, by simp [intOf]; omega⟩
          · obtain ⟨p, rfl⟩ : ∃ p, q = p + 1 := ⟨q - 1, by omega⟩
            have hpl : p < L.length := by rw [HLM.out]; omega
            have hcp : C.getD p 0 = L.getD p 0 := HG.out.2.1 p (by omega)
            have hyk : L.getD p 0 < k := by
              have : L.getD p 0 = L[p] := by simp [List.getElem?_eq_getElem hpl]
              rw [this]; exact carr_lt s.K k _ (HI.out.1.mem_iff.1 (List.getElem_mem _))
            have ca := own_cell HW4.out p (by omega)
            have cb := own_cell HW4.out (p + 1) (by omega)
            have fb := HW4.out.frozenAt (p + 1)
            obtain ⟨lb, lo, e, _, hst⟩ := stRow_at (HR.out.below HR4.out.b) (by omega : 0 < n)
            cases e
            have HAH := Lib.hid (ahead63_6 s w.heap.size (w.heap.size + 1) b off n lc k (L.getD p 0) wr (HR4.out.k.cell 0) (HR4.out.l.cell 0) (hst k hlt) (hst _ (by omega)) hlt (by omega) hn)
            rw [hcp] at ca
            have e2 : (p : Int) + 1 - 1 = (p : Int) := by omega
            have e3 : (0 : Int) < (p : Int) + 1 := by omega
            have e4 : (p : Int) < (mm : Int) + 1 := by omega
            have e5 : (p : Int) + 1 < (mm : Int) + 1 := by omega
            clear hst
            cases hab : aB 6 s k (L.getD p 0)
            · have HIN := Lib.hid (insK_step 6 s n k (p + 1) L (by omega) hlt HI.out hcb (by omega) (Or.inr (by rw [Nat.add_sub_cancel]; exact hab)) (by rw [HLM.out]; exact HA.out))
              have HGE := Lib.hid (gap_end L C (p + 1) k (by omega) HG.out)
              have HLN := Lib.hid (show (L.take (p + 1) ++ k :: L.drop (p + 1)).length = mm + 1 by have := HLM.out; simp only [List.length_append, List.length_cons, List.length_take, List.length_drop]; omega)
              rw [hab] at HAH
              clear hab hcp
              obtain ⟨y, hy⟩ : ∃ y, y = L.getD p 0 := ⟨_, rfl⟩
              rw [← hy] at HAH ca
              clear hy hyk
              go_wp2_with fail
              refine HAH.out.mono ?_
              rintro e w5 ⟨rfl, md, rfl⟩
              have HP := Lib.hid (own_put (w := wr.drewN md) (q := p + 1) (x := k) HW4.out)
              have HR5 := Lib.hid ((HR4.out.step (below_drewN (Below.refl _ _) md)).only HP.out.2 (fun b hb => by injection hb with hb; omega))
              go_wp2_with fail
              exact ⟨⟨k + 1, L.take (p + 1) ++ k :: L.drop (p + 1), by omega, by go_num, HR5.out, by rw [HLN.out, ← HGE.out]; exact HP.out.1, HIN.out⟩, by simp [intOf]; omega⟩
            · have HG2 := Lib.hid (gap_step L C p hpl HG.out)
              have HA2 := Lib.hid (show p = mm ∨ aB 6 s k (L.getD p 0) = true from Or.inr hab)
              rw [hcp] at HG2
              rw [hab] at HAH
              clear hab hcp
              obtain ⟨y, hy⟩ : ∃ y, y = L.getD p 0 := ⟨_, rfl⟩
              rw [← hy] at HAH ca HG2
              clear hy hyk
              go_wp2_with fail
              refine HAH.out.mono ?_
              rintro e w5 ⟨rfl, md, rfl⟩
              have HP := Lib.hid (own_put (w := wr.drewN md) (q := p + 1) (x := y) HW4.out)
              have HR5 := Lib.hid ((HR4.out.step (below_drewN (Below.refl _ _) md)).only HP.out.2 (fun b hb => by injection hb with hb; omega))
              go_wp2_with fail
              (go_roundg p; (case measure => omega); (case rel => exact ⟨p, _, by first | rfl | go_num, by omega, Nat.le_refl _, HP.out.1, HR5.out, HG2, HA2⟩))
      · have d1 : (s.K k != 4) = true := by simp [h4]
        by_cases h5 : s.K k = 5
        · have hcb : carB (s.K k) = true := by simp [carB, h5]
          have d2 : (s.K k != 5) = false := by simp [h5]
          clear h4 h5
          have hfl := carr_len s.K k
          have HIL := Lib.hid HI.out.1.length_eq
          have hLl : L.length ≤ k := by rw [HIL.out]; exact hfl
          obtain ⟨ao, co, hov⟩ := own_len HOwn.out
          have HOV := Lib.hid hov
          subst hov
          clear hfl
          have HR1 := Lib.hid (HO.out.step (HBA.out))
          have HW1 := Lib.hid (HOwn.out.alloc (.cells (s.cells k) 124))
          unfold Steps.cells at HR1 HW1
          go_wp2_with (at_builtin; refine wpList_append_own_at _ rfl (.tmp 35) (.tmp 37) 26 rfl (w.heap.size + 2) 3 i0 (.int .i64 0) 1 8 Try.underlying26 hi hz0 hz1 hz2 rfl (by decide) _ _ _ rfl (HW1.out.alloc _) ⟨wr.heap.size + 1, 0, none⟩ 1 1 [.int .i64 (k : Int)] rfl rfl (by simpa using cell_one_new (wr.alloc (.cells #[.int .i64 (s.K k), .string (s.P k), .string (s.Q k), .int .i64 (s.S k), .int .i64 (s.T k)] 124)) (.int .i64 (k : Int)) 3) (by simp [Value.oneCell']) (by unfold maxLen; omega) (by omega) (by simp; omega) ?_)
          intro v' w3 hown3 hg3 _ _
          have hlb : ∀ b, (Value.slice ao L.length co).ownBlock = some b → w.heap.size + 2 ≤ b := fun b hb => (HW1.out.lt b hb).1
          have HR3 := Lib.hid ((HR1.out.step ((Below.refl _ _).alloc (Nat.le_refl _) (.cells #[.int .i64 (k : Int)] 3))).only hg3 hlb)
          have HW3 := Lib.hid (own_more hown3)
          obtain ⟨g, cap, hv3, hgb⟩ := own_blk HW3.out (by simp)
          subst hv3
          have hcl : (L ++ [k]).length = L.length + 1 := by simp
          have HW4 := Lib.hid (hcl ▸ HW3.out)
          rw [hcl]
          clear hown3 hg3 hlb HW3 hcl HR1 HW1 HO HOwn HBA hbl hol hkl
          go_wp2_with fail
          generalize hLm : L.length = mm at *
          have HLM := Lib.hid hLm
          clear hLm
          go_loopg [11] mm (fun kx qv wq => ∃ (q : Nat) (C : List Nat), qv = .int .i64 q ∧ q ≤ mm ∧ q ≤ kx ∧ wq.ownsRow (w.heap.size + 2) 3 1 (.slice (some ⟨g, 0, none⟩) (mm + 1) cap) (mm + 1) ((intL C).map (Value.int .i64)) ∧ Rf 6 w (some ⟨b, off, none⟩) n lc wq ∧ Hid (Gap L C q) ∧ Hid (q = mm ∨ aB 6 s k (L.getD q 0) = true))
          case atStart => exact ⟨mm, L ++ [k], rfl, Nat.le_refl _, Nat.le_refl _, HW4.out, HR3.out, (HLM.out ▸ gap_start L k), Or.inl rfl⟩
          case round =>
            clear HW4 HR3
            obtain ⟨q, C, rfl, hq1, hq2, hown4, hr4, HG, HA⟩ := hrel
            have HW4 := Lib.hid hown4
            have HR4 := Lib.hid hr4
            have ck := hr4.k.cell 0
            have cl := hr4.l.cell 0
            clear hown4 hr4
            rcases Nat.eq_zero_or_pos q with rfl | hq0
            · have HIN := Lib.hid (insK_step 6 s n k 0 L (by omega) hlt HI.out hcb (Nat.zero_le _) (Or.inl rfl) (by rw [HLM.out]; exact HA.out))
              have HGE := Lib.hid (gap_end L C 0 k (Nat.zero_le _) HG.out)
              have HP := Lib.hid (own_put (q := 0) (x := k) HW4.out)
              have cz := own_cell HW4.out 0 (by omega)
              have fz := HW4.out.frozenAt 0
              have HR5 := Lib.hid (HR4.out.only HP.out.2 (fun b hb => by injection hb with hb; omega))
              have HLN := Lib.hid (show (L.take 0 ++ k :: L.drop 0).length = mm + 1 by simp [HLM.out])
              go_wp2_with fail
              exact ⟨⟨k + 1, L.take 0 ++ k :: L.drop 0, by omega, by go_num, HR5.out, by rw [HLN.out, ← HGE.out]; exact HP.out.1, HIN.out⟩, by simp [intOf]; omega⟩
            · obtain ⟨p, rfl⟩ : ∃ p, q = p + 1 := ⟨q - 1, by omega⟩
              have hpl : p < L.length := by rw [HLM.out]; omega
              have hcp : C.getD p 0 = L.getD p 0 := HG.out.2.1 p (by omega)
              have hyk : L.getD p 0 < k := by
                have : L.getD p 0 = L[p] := by simp [List.getElem?_eq_getElem hpl]
                rw [this]; exact carr_lt s.K k _ (HI.out.1.mem_iff.1 (List.getElem_mem _))
              have ca := own_cell HW4.out p (by omega)
              have cb := own_cell HW4.out (p + 1) (by omega)
              have fb := HW4.out.frozenAt (p + 1)
              obtain ⟨lb, lo, e, _, hst⟩ := stRow_at (HR.out.below HR4.out.b) (by omega : 0 < n)
              cases e
              have HAH := Lib.hid (ahead63_6 s w.heap.size (w.heap.size + 1) b off n lc k (L.getD p 0) wr (HR4.out.k.cell 0) (HR4.out.l.cell 0) (hst k hlt) (hst _ (by omega)) hlt (by omega) hn)
              rw [hcp] at ca
              have e2 : (p : Int) + 1 - 1 = (p : Int) := by omega
              have e3 : (0 : Int) < (p : Int) + 1 := by omega
              have e4 : (p : Int) < (mm : Int) + 1 := by omega
              have e5 : (p : Int) + 1 < (mm : Int) + 1 := by omega
              clear hst
              cases hab : aB 6 s k (L.getD p 0)
              · have HIN := Lib.hid (insK_step 6 s n k (p + 1) L (by omega) hlt HI.out hcb (by omega) (Or.inr (by rw [Nat.add_sub_cancel]; exact hab)) (by rw [HLM.out]; exact HA.out))
                have HGE := Lib.hid (gap_end L C (p + 1) k (by omega) HG.out)
                have HLN := Lib.hid (show (L.take (p + 1) ++ k :: L.drop (p + 1)).length = mm + 1 by have := HLM.out; simp only [List.length_append, List.length_cons, List.length_take, List.length_drop]; omega)
                rw [hab] at HAH
                clear hab hcp
                obtain ⟨y, hy⟩ : ∃ y, y = L.getD p 0 := ⟨_, rfl⟩
                rw [← hy] at HAH ca
                clear hy hyk
                go_wp2_with fail
                refine HAH.out.mono ?_
                rintro e w5 ⟨rfl, md, rfl⟩
                have HP := Lib.hid (own_put (w := wr.drewN md) (q := p + 1) (x := k) HW4.out)
                have HR5 := Lib.hid ((HR4.out.step (below_drewN (Below.refl _ _) md)).only HP.out.2 (fun b hb => by injection hb with hb; omega))
                go_wp2_with fail
                exact ⟨⟨k + 1, L.take (p + 1) ++ k :: L.drop (p + 1), by omega, by go_num, HR5.out, by rw [HLN.out, ← HGE.out]; exact HP.out.1, HIN.out⟩, by simp [intOf]; omega⟩
              · have HG2 := Lib.hid (gap_step L C p hpl HG.out)
                have HA2 := Lib.hid (show p = mm ∨ aB 6 s k (L.getD p 0) = true from Or.inr hab)
                rw [hcp] at HG2
                rw [hab] at HAH
                clear hab hcp
                obtain ⟨y, hy⟩ : ∃ y, y = L.getD p 0 := ⟨_, rfl⟩
                rw [← hy] at HAH ca HG2
                clear hy hyk
                go_wp2_with fail
                refine HAH.out.mono ?_
                rintro e w5 ⟨rfl, md, rfl⟩
                have HP := Lib.hid (own_put (w := wr.drewN md) (q := p + 1) (x := y) HW4.out)
                have HR5 := Lib.hid ((HR4.out.step (below_drewN (Below.refl _ _) md)).only HP.out.2 (fun b hb => by injection hb with hb; omega))
                go_wp2_with fail
                (go_roundg p; (case measure => omega); (case rel => exact ⟨p, _, by first | rfl | go_num, by omega, Nat.le_refl _, HP.out.1, HR5.out, HG2, HA2⟩))
        · have d2 : (s.K k != 5) = true := by simp [h5]
          have HIN := Lib.hid (insK_no 6 s n k L HI.out (by simp [carB, h4, h5]))
          have HO2 := Lib.hid (HO.out.step HBA.out)
          have HW2 := Lib.hid (HOwn.out.alloc (.cells (s.cells k) 124))
          unfold Steps.cells at HO2 HW2
          clear h4 h5
          go_wp2_with fail
          go_roundw
          case rel => exact ⟨k + 1, L, by omega, by go_num, HO2.out, HW2.out, HIN.out⟩
          case measure => simp [intOf]; omega
    · obtain rfl : k = n := by omega
      have hd : ¬ (k : Int) < (k : Int) := by omega
      rcases Nat.eq_zero_or_pos L.length with hL0 | hL0
      · obtain ⟨a3, cap3, hv3, hrow3⟩ := Row.of_own HOwn.out (intL_len _)
        have hLe : L = [] := List.eq_nil_of_length_eq_zero hL0
        subst hLe
        subst hv3
        have ck := HO.out.k.cell 0
        clear hrow3 hL0
        go_wp2_with fail
        go_loopw [1, 15] (fun sv iv wq => sv = .int .i64 seed ∧ iv = .int .i64 (-1) ∧ wq = wr) (fun _ _ _ => 0)
        case atStart => exact ⟨rfl, by first | rfl | (simp [intL]; decide +kernel), rfl⟩
        case round =>
          obtain ⟨rfl, rfl, rfl⟩ := hrel
          go_wp2_with fail
          go_ret
          exact ⟨[], a3, cap3, ⟨HI.out.1, HI.out.2⟩, rfl, fun i hi => by simp [fin6, intL, shufL] at hi, HO.out.b⟩
      · have hLn : L.length ≤ k := by rw [HI.out.1.length_eq]; exact carr_len s.K k
        obtain ⟨blk, cap, hv, hblk⟩ := own_blk HOwn.out (fun e => by rw [e] at hL0; simp at hL0)
        subst hv
        have ck := HO.out.k.cell 0
        obtain ⟨N, hNN⟩ : ∃ N, L.length = N := ⟨_, rfl⟩
        have HR1 := Lib.hid (hNN ▸ HOwn.out)
        rw [hNN] at hL0 hLn
        have HNN := Lib.hid hNN
        have HSK := Lib.hid (show SortedK 6 s k L from ⟨HI.out.1, HI.out.2⟩)
        have HB1 := Lib.hid HO.out.b
        have hb0 := HO.out.b.size
        rw [hNN]
        clear hNN HOwn HI HO
        go_wp2_with fail
        go_loopw [1, 15] (fun sv iv wr => ∃ (i : Nat) (sd : Int) (C : List Nat), sv = .int .i64 sd ∧ iv = .int .i64 i ∧ i < N ∧ 0 ≤ sd ∧ sd < 2147483648 ∧ wr.ownsRow (w.heap.size + 2) 3 1 (.slice (some ⟨blk, 0, none⟩) N cap) N ((intL C).map (Value.int .i64)) ∧ Below w.heap.size w wr ∧ Hid (shufL sd i C = shufL seed (N - 1) L)) (fun _ iv _ => (intOf iv).toNat)
        case atStart => exact ⟨N - 1, seed, L, rfl, by congr 1; omega, by omega, hs0, hs1, HR1.out, HB1.out, rfl⟩
        case round =>
          clear HR1 HB1 ck
          obtain ⟨i, sd, C, rfl, rfl, hiN, hd0, hd1, hown, hb, HS⟩ := hrel
          have HOwn := Lib.hid hown
          have HBb := Lib.hid hb
          clear hown hb
          by_cases hi0 : 0 < i
          · have hiz : (0 : Int) < (i : Int) := by omega
            obtain ⟨bc1, bc2⟩ := chanceI_bd sd
            have HCH := Lib.hid (chance50 sd)
            obtain ⟨q, hq⟩ : ∃ q : Nat, q = (chanceI sd % ((i : Int) + 1)).toNat := ⟨_, rfl⟩
            have hm0 := Int.emod_nonneg (chanceI sd) (show (i : Int) + 1 ≠ 0 by omega)
            have hm1 := Int.emod_lt_of_pos (chanceI sd) (show 0 < (i : Int) + 1 by omega)
            have HS2 := Lib.hid (show shufL (chanceI sd) (i - 1) (exL C i q) = shufL seed (N - 1) L by
              rw [← HS.out]
              obtain ⟨p, rfl⟩ : ∃ p, i = p + 1 := ⟨i - 1, by omega⟩
              rw [shufL, hq]
              rw [show ((p + 1 : Nat) : Int) + 1 = (p : Int) + 2 by omega]
              rfl)
            have hqz : chanceI sd % ((i : Int) + 1) = (q : Int) := by omega
            have hqi : q ≤ i := by omega
            clear hq hm0 hm1
            generalize chanceI sd = sd' at *
            have ca := own_cell HOwn.out i hiN
            have cb := own_cell HOwn.out q (by omega)
            have fa := HOwn.out.frozenAt i
            have fb := HOwn.out.frozenAt q
            obtain ⟨x, hx⟩ : ∃ x, x = (((C.getD i 0 : Nat) : Nat) : Int) := ⟨_, rfl⟩
            obtain ⟨y, hy⟩ : ∃ y, y = (((C.getD q 0 : Nat) : Nat) : Int) := ⟨_, rfl⟩
            obtain ⟨u, cc⟩ := cell_two (v := .int .i64 y) cb ⟨_, ca⟩
            have HSW := Lib.hid (own_swap2 HOwn.out (show w.heap.size ≤ blk by omega) HBb.out i q)
            rw [← hx, ← hy] at HSW
            rw [← hx] at ca
            rw [← hy] at cb
            have k1 : (i : Int) < (N : Int) := by omega
            have k2 : (q : Int) < (N : Int) := by omega
            clear hx hy
            go_wp2_with (go_at_call 50; refine (HCH.out _ hd0 hd1).mono ?_; rintro e w' ⟨rfl, rfl⟩)
            go_big_region
            generalize ((wr.setCell ⟨blk, i, none⟩ (.int .i64 y)).setCell ⟨blk, q, none⟩ (.int .i64 x)).drew = w3 at HSW ⊢
            clear ca cb cc fa fb
            go_wp2_with fail
            go_roundw
            case rel => exact ⟨i - 1, sd', _, rfl, by congr 1; omega, by omega, bc1, bc2, HSW.out.1, HSW.out.2, HS2⟩
            case measure => simp [intOf]; omega
          · obtain rfl : i = 0 := by omega
            have hiz : ¬ (0 : Int) < ((0 : Nat) : Int) := by omega
            have HSF := Lib.hid (show finL 6 seed L = C by rw [fin6, HNN.out, ← HS.out]; rfl)
            have hll : C.length = N := by have := HOwn.out.1; simpa [intL] using this
            obtain ⟨a3, cap3, hv3, hrow3⟩ := Row.of_own HOwn.out (by rw [intL_len]; exact hll)
            obtain ⟨rfl, rfl⟩ : a3 = some ⟨blk, 0, none⟩ ∧ cap3 = cap := by injection hv3 with e1 e2 e3; exact ⟨e1.symm, e3.symm⟩
            have HRow := Lib.hid hrow3
            have HLL := Lib.hid hll
            clear hrow3 hv3 hll
            go_wp2_with fail
            go_ret
            exact ⟨L, _, _, HSK.out, by rw [HSF.out, HLL.out]; rfl, by rw [HSF.out]; exact HRow.out, HBb.out⟩

end Go.Proofs.Ytdfloglicjocbaa
