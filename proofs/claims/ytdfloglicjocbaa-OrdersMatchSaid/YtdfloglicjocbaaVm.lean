import Derived.Test.YtdfloglicjocbaaVl
set_option linter.unusedVariables false
set_option linter.unusedSimpArgs false
namespace Go.Proofs.Ytdfloglicjocbaa
open Go.RowKit Go.Sort

/-- what holds while 'OrderOf' collects. -/
structure Rf (kind : Int) (w : World) (la : Option Addr) (n lc : Nat) (wr : World) : Prop where
  k : Blk wr w.heap.size 3 #[.int .i64 kind]
  l : Blk wr (w.heap.size + 1) 76 #[.slice la n lc]
  b : Below w.heap.size w wr
theorem Rf.step {kind : Int} {w : World} {la : Option Addr} {n lc : Nat} {wr w' : World} (h : Rf kind w la n lc wr) (hb : Below wr.heap.size wr w') : Rf kind w la n lc w' :=
  ⟨h.k.below hb h.k.lt, h.l.below hb h.l.lt, below_step h.b (Nat.le_refl _) hb⟩
theorem Rf.only {kind : Int} {w : World} {la : Option Addr} {n lc : Nat} {wr w' : World} {r : Option Nat} (h : Rf kind w la n lc wr) (hg : wr.grownBy w' r) (hr : ∀ b, r = some b → w.heap.size + 2 ≤ b) : Rf kind w la n lc w' :=
  ⟨blk_grown h.k hg (fun e => by have := hr _ e; omega), blk_grown h.l hg (fun e => by have := hr _ e; omega), h.b.grown hg h.b.size (fun q hq => by have := hr q hq; omega)⟩
theorem own_swap2 {w0 w : World} {B base n g cap : Nat} {L : List Nat} (h : w.ownsRow base 3 1 (.slice (some ⟨g, 0, none⟩) n cap) n ((intL L).map (Value.int .i64))) (hB : B ≤ g) (hb : Below B w0 w) (i q : Nat) :
    ((w.setCell ⟨g, i, none⟩ (.int .i64 ((L.getD q 0 : Nat) : Int))).setCell ⟨g, q, none⟩ (.int .i64 ((L.getD i 0 : Nat) : Int))).drew.ownsRow base 3 1 (.slice (some ⟨g, 0, none⟩) n cap) n ((intL (exL L i q)).map (Value.int .i64)) ∧
    Below B w0 ((w.setCell ⟨g, i, none⟩ (.int .i64 ((L.getD q 0 : Nat) : Int))).setCell ⟨g, q, none⟩ (.int .i64 ((L.getD i 0 : Nat) : Int))).drew := by
  have h1 := (h.stored i (.int .i64 ((L.getD q 0 : Nat) : Int))).1
  have h2 := (h1.stored q (.int .i64 ((L.getD i 0 : Nat) : Int))).1
  rw [exL_cells] at h2
  exact ⟨h2, ((hb.setCell hB _).setCell hB _).drew⟩
theorem own_len {w : World} {base : Nat} {v : Value} {L : List Nat} (h : w.ownsRow base 3 1 v L.length ((intL L).map (Value.int .i64))) : ∃ a cap, v = .slice a L.length cap := by
  rcases h.2 with ⟨e, h0⟩ | ⟨g, cap, cur, e, _⟩
  · exact ⟨none, 0, by rw [e, h0]⟩
  · exact ⟨_, cap, e⟩
theorem own_put {w : World} {base g n cap q x : Nat} {C : List Nat} (h : w.ownsRow base 3 1 (.slice (some ⟨g, 0, none⟩) n cap) n ((intL C).map (Value.int .i64))) : (w.setCell ⟨g, q, none⟩ (.int .i64 (x : Int))).ownsRow base 3 1 (.slice (some ⟨g, 0, none⟩) n cap) n ((intL (C.set q x)).map (Value.int .i64)) ∧ w.grownBy (w.setCell ⟨g, q, none⟩ (.int .i64 (x : Int))) (some g) := by
  have h1 := h.stored q (.int .i64 (x : Int))
  refine ⟨?_, h1.2⟩
  have e : ((intL C).map (Value.int .i64)).set q (.int .i64 (x : Int)) = (intL (C.set q x)).map (Value.int .i64) := by simp [intL, List.map_set]
  rw [← e]; exact h1.1

set_option maxHeartbeats 4000000 in
set_option maxRecDepth 1000000 in
theorem orderOf41_1 (seed : Int) (la : Option Addr) (n lc : Nat) (s : Steps) (w : World) (hrow : StRow w w.heap.size la n s) (hn : n ≤ 20000) (hs0 : 0 ≤ seed) (hs1 : seed < 2147483648) :
    Calls Try.prog 41 #[.int .i64 1, .int .i64 seed, .slice la n lc] w (OrdPost 1 seed n s w) := by
  obtain ⟨i0, hi, hz0, hz1, hz2⟩ := info_parts int_info
  have HR := Lib.hid hrow
  have hO1 : Rf 1 w la n lc ((w.alloc (.cells #[.int .i64 1] 3)).alloc (.cells #[.slice la n lc] 76)) := by
    refine ⟨(Blk.new w 3 #[.int .i64 1]).below ((Below.refl _ _).alloc (Nat.le_refl _) _) (by simp), ?_, ((Below.refl _ _).alloc (Nat.le_refl _) _).alloc (by simp) _⟩
    have h := Blk.new (w.alloc (.cells #[.int .i64 1] 3)) 76 #[.slice la n lc]
    have e : (w.alloc (.cells #[.int .i64 1] 3)).heap.size = w.heap.size + 1 := by simp
    rwa [e] at h
  have HO1 := Lib.hid hO1
  clear hrow hO1
  go_enter Try.func41, Try.ntmps41
  go_wp2_with fail
  generalize (w.alloc (.cells #[.int .i64 1] 3)).alloc (.cells #[.slice la n lc] 76) = w1 at *
  go_loopw [7, 20] (fun ov iv wr => ∃ (k : Nat) (L : List Nat), k ≤ n ∧ iv = .int .i64 k ∧ Rf 1 w la n lc wr ∧ wr.ownsRow (w.heap.size + 2) 3 1 ov L.length ((intL L).map (Value.int .i64)) ∧ Hid (InsK 1 s n k L)) (fun _ iv _ => n - (intOf iv).toNat)
  case atStart => exact ⟨0, [], by omega, rfl, HO1.out, World.ownsRow_nil _ _ _ _, List.Perm.refl _, List.Pairwise.nil⟩
  case round =>
    clear HO1
    obtain ⟨k, L, hk, rfl, ho, hown, HI⟩ := hrel
    have HO := Lib.hid ho
    have HOwn := Lib.hid hown
    have hsz := ho.b.size
    have hkl := ho.k.lt
    have hol := ho.l.lt
    clear ho hown
    by_cases hlt : k < n
    · have hk1 : (k : Int) < (n : Int) := by omega
      obtain ⟨b, off, rfl, hbB, hc⟩ := (HR.out.below HO.out.b) k hlt
      have c0 := hc 0 (by omega)
      have c1 := hc 1 (by omega)
      have c2 := hc 2 (by omega)
      have c3 := hc 3 (by omega)
      have c4 := hc 4 (by omega)
      simp only [Steps.cells, Nat.add_zero] at c0 c1 c2 c3 c4
      have hbl : b < wr.heap.size := by omega
      have HBA := Lib.hid ((Below.refl wr.heap.size wr).alloc (Nat.le_refl _) (.cells (s.cells k) 124))
      clear hc
      by_cases h4 : s.K k = 4
      · have hcb : carB (s.K k) = true := by simp [carB, h4]
        have d1 : (s.K k != 4) = false := by simp [h4]
        clear h4
        have hfl := carr_len s.K k
        have HIL := Lib.hid HI.out.1.length_eq
        have hLl : L.length ≤ k := by rw [HIL.out]; exact hfl
        obtain ⟨ao, co, hov⟩ := own_len HOwn.out
        have HOV := Lib.hid hov
        subst hov
        clear hfl
        have HR1 := Lib.hid (HO.out.step (HBA.out))
        have HW1 := Lib.hid (HOwn.out.alloc (.cells (s.cells k) 124))
        unfold Steps.cells at HR1 HW1
        go_wp2_with (at_builtin; refine wpList_append_own_at _ rfl (.tmp 35) (.tmp 37) 26 rfl (w.heap.size + 2) 3 i0 (.int .i64 0) 1 8 Try.underlying26 hi hz0 hz1 hz2 rfl (by decide) _ _ _ rfl (HW1.out.alloc _) ⟨wr.heap.size + 1, 0, none⟩ 1 1 [.int .i64 (k : Int)] rfl rfl (by simpa using cell_one_new (wr.alloc (.cells #[.int .i64 (s.K k), .string (s.P k), .string (s.Q k), .int .i64 (s.S k), .int .i64 (s.T k)] 124)) (.int .i64 (k : Int)) 3) (by simp [Value.oneCell']) (by unfold maxLen; omega) (by omega) (by simp; omega) ?_)
        intro v' w3 hown3 hg3 _ _
        have hlb : ∀ b, (Value.slice ao L.length co).ownBlock = some b → w.heap.size + 2 ≤ b := fun b hb => (HW1.out.lt b hb).1
        have HR3 := Lib.hid ((HR1.out.step ((Below.refl _ _).alloc (Nat.le_refl _) (.cells #[.int .i64 (k : Int)] 3))).only hg3 hlb)
        have HW3 := Lib.hid (own_more hown3)
        obtain ⟨g, cap, hv3, hgb⟩ := own_blk HW3.out (by simp)
        subst hv3
        have hcl : (L ++ [k]).length = L.length + 1 := by simp
        have HW4 := Lib.hid (hcl ▸ HW3.out)
        rw [hcl]
        clear hown3 hg3 hlb HW3 hcl HR1 HW1 HO HOwn HBA hbl hol hkl
        go_wp2_with fail
        generalize hLm : L.length = mm at *
        have HLM := Lib.hid hLm
        clear hLm
        go_loopg [11] mm (fun kx qv wq => ∃ (q : Nat) (C : List Nat), qv = .int .i64 q ∧ q ≤ mm ∧ q ≤ kx ∧ wq.ownsRow (w.heap.size + 2) 3 1 (.slice (some ⟨g, 0, none⟩) (mm + 1) cap) (mm + 1) ((intL C).map (Value.int .i64)) ∧ Rf 1 w (some ⟨b, off, none⟩) n lc wq ∧ Hid (Gap L C q) ∧ Hid (q = mm ∨ aB 1 s k (L.getD q 0) = true))
        case atStart => exact ⟨mm, L ++ [k], rfl, Nat.le_refl _, Nat.le_refl _, HW4.out, HR3.out, (HLM.out ▸ gap_start L k), Or.inl rfl⟩
        case round =>
          clear HW4 HR3
          obtain ⟨q, C, rfl, hq1, hq2, hown4, hr4, HG, HA⟩ := hrel
          have HW4 := Lib.hid hown4
          have HR4 := Lib.hid hr4
          have ck := hr4.k.cell 0
          have cl := hr4.l.cell 0
          clear hown4 hr4
          rcases Nat.eq_zero_or_pos q with rfl | hq0
          · have HIN := Lib.hid (insK_step 1 s n k 0 L (by omega) hlt HI.out hcb (Nat.zero_le _) (Or.inl rfl) (by rw [HLM.out]; exact HA.out))
            have HGE := Lib.hid (gap_end L C 0 k (Nat.zero_le _) HG.out)
            have HP := Lib.hid (own_put (q := 0) (x := k) HW4.out)
            have cz := own_cell HW4.out 0 (by omega)
            have fz := HW4.out.frozenAt 0
            have HR5 := Lib.hid (HR4.out.only HP.out.2 (fun b hb => by injection hb with hb; omega))
            have HLN := Lib.hid (show (L.take 0 ++ k :: L.drop 0).length = mm + 1 by simp [HLM.out])
            go_wp2_with fail
            exact ⟨⟨k + 1, L.take 0 ++ k :: L.drop 0, by omega, by go_num, HR5.out, by rw [HLN.out, ← HGE.out]; exact HP.out.1, HIN.out⟩, by simp [intOf]; omega⟩
          · obtain ⟨p, rfl⟩ : ∃ p, q = p + 1 := ⟨q - 1, by omega⟩
            have hpl : p < L.length := by rw [HLM.out]; omega
            have hcp : C.getD p 0 = L.getD p 0 := HG.out.2.1 p (by omega)
            have hyk : L.getD p 0 < k := by
              have : L.getD p 0 = L[p] := by simp [List.getElem?_eq_getElem hpl]
              rw [this]; exact carr_lt s.K k _ (HI.out.1.mem_iff.1 (List.getElem_mem _))
            have ca := own_cell HW4.out p (by omega)
            have cb := own_cell HW4.out (p + 1) (by omega)
            have fb := HW4.out.frozenAt (p + 1)
            obtain ⟨lb, lo, e, _, hst⟩ := stRow_at (HR.out.below HR4.out.b) (by omega : 0 < n)
            cases e
            have HAH := Lib.hid (ahead63_1 s w.heap.size (w.heap.size + 1) b off n lc k (L.getD p 0) wr (HR4.out.k.cell 0) (HR4.out.l.cell 0) (hst k hlt) (hst _ (by omega)) hlt (by omega) hn)
            rw [hcp] at ca
            have e2 : (p : Int) + 1 - 1 = (p : Int) := by omega
            have e3 : (0 : Int) < (p : Int) + 1 := by omega
            have e4 : (p : Int) < (mm : Int) + 1 := by omega
            have e5 : (p : Int) + 1 < (mm : Int) + 1 := by omega
            clear hst
            cases hab : aB 1 s k (L.getD p 0)
            · have HIN := Lib.hid (insK_step 1 s n k (p + 1) L (by omega) hlt HI.out hcb (by omega) (Or.inr (by rw [Nat.add_sub_cancel]; exact hab)) (by rw [HLM.out]; exact HA.out))
              have HGE := Lib.hid (gap_end L C (p + 1) k (by omega) HG.out)
              have HLN := Lib.hid (show (L.take (p + 1) ++ k :: L.drop (p + 1)).length = mm + 1 by have := HLM.out; simp only [List.length_append, List.length_cons, List.length_take, List.length_drop]; omega)
              rw [hab] at HAH
              clear hab hcp
              obtain ⟨y, hy⟩ : ∃ y, y = L.getD p 0 := ⟨_, rfl⟩
              rw [← hy] at HAH ca
              clear hy hyk
              go_wp2_with fail
              refine HAH.out.mono ?_
              rintro e w5 ⟨rfl, md, rfl⟩
              have HP := Lib.hid (own_put (w := wr.drewN md) (q := p + 1) (x := k) HW4.out)
              have HR5 := Lib.hid ((HR4.out.step (below_drewN (Below.refl _ _) md)).only HP.out.2 (fun b hb => by injection hb with hb; omega))
              go_wp2_with fail
              exact ⟨⟨k + 1, L.take (p + 1) ++ k :: L.drop (p + 1), by omega, by go_num, HR5.out, by rw [HLN.out, ← HGE.out]; exact HP.out.1, HIN.out⟩, by simp [intOf]; omega⟩
            · have HG2 := Lib.hid (gap_step L C p hpl HG.out)
              have HA2 := Lib.hid (show p = mm ∨ aB 1 s k (L.getD p 0) = true from Or.inr hab)
              rw [hcp] at HG2
              rw [hab] at HAH
              clear hab hcp
              obtain ⟨y, hy⟩ : ∃ y, y = L.getD p 0 := ⟨_, rfl⟩
              rw [← hy] at HAH ca HG2
              clear hy hyk
              go_wp2_with fail
              refine HAH.out.mono ?_
              rintro e w5 ⟨rfl, md, rfl⟩
              have HP := Lib.hid (own_put (w := wr.drewN md) (q := p + 1) (x := y) HW4.out)
              have HR5 := Lib.hid ((HR4.out.step (below_drewN (Below.refl _ _) md)).only HP.out.2 (fun b hb => by injection hb with hb; omega))
              go_wp2_with fail
              (go_roundg p; (case measure => omega); (case rel => exact ⟨p, _, by first | rfl | go_num, by omega, Nat.le_refl _, HP.out.1, HR5.out, HG2, HA2⟩))
      · have d1 : (s.K k != 4) = true := by simp [h4]
        by_cases h5 : s.K k = 5
        · have hcb : carB (s.K k) = true := by simp [carB, h5]
          have d2 : (s.K k != 5) = false := by simp [h5]
          clear h4 h5
          have hfl := carr_len s.K k
          have HIL := Lib.hid HI.out.1.length_eq
          have hLl : L.length ≤ k := by rw [HIL.out]; exact hfl
          obtain ⟨ao, co, hov⟩ := own_len HOwn.out
          have HOV := Lib.hid hov
          subst hov
          clear hfl
          have HR1 := Lib.hid (HO.out.step (HBA.out))
          have HW1 := Lib.hid (HOwn.out.alloc (.cells (s.cells k) 124))
          unfold Steps.cells at HR1 HW1
          go_wp2_with (at_builtin; refine wpList_append_own_at _ rfl (.tmp 35) (.tmp 37) 26 rfl (w.heap.size + 2) 3 i0 (.int .i64 0) 1 8 Try.underlying26 hi hz0 hz1 hz2 rfl (by decide) _ _ _ rfl (HW1.out.alloc _) ⟨wr.heap.size + 1, 0, none⟩ 1 1 [.int .i64 (k : Int)] rfl rfl (by simpa using cell_one_new (wr.alloc (.cells #[.int .i64 (s.K k), .string (s.P k), .string (s.Q k), .int .i64 (s.S k), .int .i64 (s.T k)] 124)) (.int .i64 (k : Int)) 3) (by simp [Value.oneCell']) (by unfold maxLen; omega) (by omega) (by simp; omega) ?_)
          intro v' w3 hown3 hg3 _ _
          have hlb : ∀ b, (Value.slice ao L.length co).ownBlock = some b → w.heap.size + 2 ≤ b := fun b hb => (HW1.out.lt b hb).1
          have HR3 := Lib.hid ((HR1.out.step ((Below.refl _ _).alloc (Nat.le_refl _) (.cells #[.int .i64 (k : Int)] 3))).only hg3 hlb)
          have HW3 := Lib.hid (own_more hown3)
          obtain ⟨g, cap, hv3, hgb⟩ := own_blk HW3.out (by simp)
          subst hv3
          have hcl : (L ++ [k]).length = L.length + 1 := by simp
          have HW4 := Lib.hid (hcl ▸ HW3.out)
          rw [hcl]
          clear hown3 hg3 hlb HW3 hcl HR1 HW1 HO HOwn HBA hbl hol hkl
          go_wp2_with fail
          generalize hLm : L.length = mm at *
          have HLM := Lib.hid hLm
          clear hLm
          go_loopg [11] mm (fun kx qv wq => ∃ (q : Nat) (C : List Nat), qv = .int .i64 q ∧ q ≤ mm ∧ q ≤ kx ∧ wq.ownsRow (w.heap.size + 2) 3 1 (.slice (some ⟨g, 0, none⟩) (mm + 1) cap) (mm + 1) ((intL C).map (Value.int .i64)) ∧ Rf 1 w (some ⟨b, off, none⟩) n lc wq ∧ Hid (Gap L C q) ∧ Hid (q = mm ∨ aB 1 s k (L.getD q 0) = true))
          case atStart => exact ⟨mm, L ++ [k], rfl, Nat.le_refl _, Nat.le_refl _, HW4.out, HR3.out, (HLM.out ▸ gap_start L k), Or.inl rfl⟩
          case round =>
            clear HW4 HR3
            obtain ⟨q, C, rfl, hq1, hq2, hown4, hr4, HG, HA⟩ := hrel
            have HW4 := Lib.hid hown4
            have HR4 := Lib.hid hr4
            have ck := hr4.k.cell 0
            have cl := hr4.l.cell 0
            clear hown4 hr4
            rcases Nat.eq_zero_or_pos q with rfl | hq0
            · have HIN := Lib.hid (insK_step 1 s n k 0 L (by omega) hlt HI.out hcb (Nat.zero_le _) (Or.inl rfl) (by rw [HLM.out]; exact HA.out))
              have HGE := Lib.hid (gap_end L C 0 k (Nat.zero_le _) HG.out)
              have HP := Lib.hid (own_put (q := 0) (x := k) HW4.out)
              have cz := own_cell HW4.out 0 (by omega)
              have fz := HW4.out.frozenAt 0
              have HR5 := Lib.hid (HR4.out.only HP.out.2 (fun b hb => by injection hb with hb; omega))
              have HLN := Lib.hid (show (L.take 0 ++ k :: L.drop 0).length = mm + 1 by simp [HLM.out])
              go_wp2_with fail
              exact ⟨⟨k + 1, L.take 0 ++ k :: L.drop 0, by omega, by go_num, HR5.out, by rw [HLN.out, ← HGE.out]; exact HP.out.1, HIN.out⟩, by simp [intOf]; omega⟩
            · obtain ⟨p, rfl⟩ : ∃ p, q = p + 1 := ⟨q - 1, by omega⟩
              have hpl : p < L.length := by rw [HLM.out]; omega
              have hcp : C.getD p 0 = L.getD p 0 := HG.out.2.1 p (by omega)
              have hyk : L.getD p 0 < k := by
                have : L.getD p 0 = L[p] := by simp [List.getElem?_eq_getElem hpl]
                rw [this]; exact carr_lt s.K k _ (HI.out.1.mem_iff.1 (List.getElem_mem _))
              have ca := own_cell HW4.out p (by omega)
              have cb := own_cell HW4.out (p + 1) (by omega)
              have fb := HW4.out.frozenAt (p + 1)
              obtain ⟨lb, lo, e, _, hst⟩ := stRow_at (HR.out.below HR4.out.b) (by omega : 0 < n)
              cases e
              have HAH := Lib.hid (ahead63_1 s w.heap.size (w.heap.size + 1) b off n lc k (L.getD p 0) wr (HR4.out.k.cell 0) (HR4.out.l.cell 0) (hst k hlt) (hst _ (by omega)) hlt (by omega) hn)
              rw [hcp] at ca
              have e2 : (p : Int) + 1 - 1 = (p : Int) := by omega
              have e3 : (0 : Int) < (p : Int) + 1 := by omega
              have e4 : (p : Int) < (mm : Int) + 1 := by omega
              have e5 : (p : Int) + 1 < (mm : Int) + 1 := by omega
              clear hst
              cases hab : aB 1 s k (L.getD p 0)
              · have HIN := Lib.hid (insK_step 1 s n k (p + 1) L (by omega) hlt HI.out hcb (by omega) (Or.inr (by rw [Nat.add_sub_cancel]; exact hab)) (by rw [HLM.out]; exact HA.out))
                have HGE := Lib.hid (gap_end L C (p + 1) k (by omega) HG.out)
                have HLN := Lib.hid (show (L.take (p + 1) ++ k :: L.drop (p + 1)).length = mm + 1 by have := HLM.out; simp only [List.length_append, List.length_cons, List.length_take, List.length_drop]; omega)
                rw [hab] at HAH
                clear hab hcp
                obtain ⟨y, hy⟩ : ∃ y, y = L.getD p 0 := ⟨_, rfl⟩
                rw [← hy] at HAH ca
                clear hy hyk
                go_wp2_with fail
                refine HAH.out.mono ?_
                rintro e w5 ⟨rfl, md, rfl⟩
                have HP := Lib.hid (own_put (w := wr.drewN md) (q := p + 1) (x := k) HW4.out)
                have HR5 := Lib.hid ((HR4.out.step (below_drewN (Below.refl _ _) md)).only HP.out.2 (fun b hb => by injection hb with hb; omega))
                go_wp2_with fail
                exact ⟨⟨k + 1, L.take (p + 1) ++ k :: L.drop (p + 1), by omega, by go_num, HR5.out, by rw [HLN.out, ← HGE.out]; exact HP.out.1, HIN.out⟩, by simp [intOf]; omega⟩
              · have HG2 := Lib.hid (gap_step L C p hpl HG.out)
                have HA2 := Lib.hid (show p = mm ∨ aB 1 s k (L.getD p 0) = true from Or.inr hab)
                rw [hcp] at HG2
                rw [hab] at HAH
                clear hab hcp
                obtain ⟨y, hy⟩ : ∃ y, y = L.getD p 0 := ⟨_, rfl⟩
                rw [← hy] at HAH ca HG2
                clear hy hyk
                go_wp2_with fail
                refine HAH.out.mono ?_
                rintro e w5 ⟨rfl, md, rfl⟩
                have HP := Lib.hid (own_put (w := wr.drewN md) (q := p + 1) (x := y) HW4.out)
                have HR5 := Lib.hid ((HR4.out.step (below_drewN (Below.refl _ _) md)).only HP.out.2 (fun b hb => by injection hb with hb; omega))
                go_wp2_with fail
                (go_roundg p; (case measure => omega); (case rel => exact ⟨p, _, by first | rfl | go_num, by omega, Nat.le_refl _, HP.out.1, HR5.out, HG2, HA2⟩))
        · have d2 : (s.K k != 5) = true := by simp [h5]
          have HIN := Lib.hid (insK_no 1 s n k L HI.out (by simp [carB, h4, h5]))
          have HO2 := Lib.hid (HO.out.step HBA.out)
          have HW2 := Lib.hid (HOwn.out.alloc (.cells (s.cells k) 124))
          unfold Steps.cells at HO2 HW2
          clear h4 h5
          go_wp2_with fail
          go_roundw
          case rel => exact ⟨k + 1, L, by omega, by go_num, HO2.out, HW2.out, HIN.out⟩
          case measure => simp [intOf]; omega
    · obtain rfl : k = n := by omega
      have hd : ¬ (k : Int) < (k : Int) := by omega
      obtain ⟨a3, cap3, hv3, hrow3⟩ := Row.of_own HOwn.out (intL_len _)
      have HRow := Lib.hid hrow3
      have hLn : L.length ≤ k := by rw [HI.out.1.length_eq]; exact carr_len s.K k
      rw [intL_len] at hv3
      have ck := HO.out.k.cell 0
      subst hv3
      clear hrow3
      go_wp2_with fail
      go_ret
      exact ⟨L, a3, cap3, ⟨HI.out.1, HI.out.2⟩, by rw [finL_id 1 seed _ (by omega) (by omega)]; rfl, by rw [finL_id 1 seed _ (by omega) (by omega)]; exact HRow.out, HO.out.b⟩

set_option maxHeartbeats 4000000 in
set_option maxRecDepth 1000000 in
theorem orderOf41_2 (seed : Int) (la : Option Addr) (n lc : Nat) (s : Steps) (w : World) (hrow : StRow w w.heap.size la n s) (hn : n ≤ 20000) (hs0 : 0 ≤ seed) (hs1 : seed < 2147483648) :
    Calls Try.prog 41 #[.int .i64 2, .int .i64 seed, .slice la n lc] w (OrdPost 2 seed n s w) := by
  obtain ⟨i0, hi, hz0, hz1, hz2⟩ := info_parts int_info
  have HR := Lib.hid hrow
  have hO1 : Rf 2 w la n lc ((w.alloc (.cells #[.int .i64 2] 3)).alloc (.cells #[.slice la n lc] 76)) := by
    refine ⟨(Blk.new w 3 #[.int .i64 2]).below ((Below.refl _ _).alloc (Nat.le_refl _) _) (by simp), ?_, ((Below.refl _ _).alloc (Nat.le_refl _) _).alloc (by simp) _⟩
    have h := Blk.new (w.alloc (.cells #[.int .i64 2] 3)) 76 #[.slice la n lc]
    have e : (w.alloc (.cells #[.int .i64 2] 3)).heap.size = w.heap.size + 1 := by simp
    rwa [e] at h
  have HO1 := Lib.hid hO1
  clear hrow hO1
  go_enter Try.func41, Try.ntmps41
  go_wp2_with fail
  generalize (w.alloc (.cells #[.int .i64 2] 3)).alloc (.cells #[.slice la n lc] 76) = w1 at *
  go_loopw [7, 20] (fun ov iv wr => ∃ (k : Nat) (L : List Nat), k ≤ n ∧ iv = .int .i64 k ∧ Rf 2 w la n lc wr ∧ wr.ownsRow (w.heap.size + 2) 3 1 ov L.length ((intL L).map (Value.int .i64)) ∧ Hid (InsK 2 s n k L)) (fun _ iv _ => n - (intOf iv).toNat)
  case atStart => exact ⟨0, [], by omega, rfl, HO1.out, World.ownsRow_nil _ _ _ _, List.Perm.refl _, List.Pairwise.nil⟩
  case round =>
    clear HO1
    obtain ⟨k, L, hk, rfl, ho, hown, HI⟩ := hrel
    have HO := Lib.hid ho
    have HOwn := Lib.hid hown
    have hsz := ho.b.size
    have hkl := ho.k.lt
    have hol := ho.l.lt
    clear ho hown
    by_cases hlt : k < n
    · have hk1 : (k : Int) < (n : Int) := by omega
      obtain ⟨b, off, rfl, hbB, hc⟩ := (HR.out.below HO.out.b) k hlt
      have c0 := hc 0 (by omega)
      have c1 := hc 1 (by omega)
      have c2 := hc 2 (by omega)
      have c3 := hc 3 (by omega)
      have c4 := hc 4 (by omega)
      simp only [Steps.cells, Nat.add_zero] at c0 c1 c2 c3 c4
      have hbl : b < wr.heap.size := by omega
      have HBA := Lib.hid ((Below.refl wr.heap.size wr).alloc (Nat.le_refl _) (.cells (s.cells k) 124))
      clear hc
      by_cases h4 : s.K k = 4
      · have hcb : carB (s.K k) = true := by simp [carB, h4]
        have d1 : (s.K k != 4) = false := by simp [h4]
        clear h4
        have hfl := carr_len s.K k
        have HIL := Lib.hid HI.out.1.length_eq
        have hLl : L.length ≤ k := by rw [HIL.out]; exact hfl
        obtain ⟨ao, co, hov⟩ := own_len HOwn.out
        have HOV := Lib.hid hov
        subst hov
        clear hfl
        have HR1 := Lib.hid (HO.out.step (HBA.out))
        have HW1 := Lib.hid (HOwn.out.alloc (.cells (s.cells k) 124))
        unfold Steps.cells at HR1 HW1
        go_wp2_with (at_builtin; refine wpList_append_own_at _ rfl (.tmp 35) (.tmp 37) 26 rfl (w.heap.size + 2) 3 i0 (.int .i64 0) 1 8 Try.underlying26 hi hz0 hz1 hz2 rfl (by decide) _ _ _ rfl (HW1.out.alloc _) ⟨wr.heap.size + 1, 0, none⟩ 1 1 [.int .i64 (k : Int)] rfl rfl (by simpa using cell_one_new (wr.alloc (.cells #[.int .i64 (s.K k), .string (s.P k), .string (s.Q k), .int .i64 (s.S k), .int .i64 (s.T k)] 124)) (.int .i64 (k : Int)) 3) (by simp [Value.oneCell']) (by unfold maxLen; omega) (by omega) (by simp; omega) ?_)
        intro v' w3 hown3 hg3 _ _
        have hlb : ∀ b, (Value.slice ao L.length co).ownBlock = some b → w.heap.size + 2 ≤ b := fun b hb => (HW1.out.lt b hb).1
        have HR3 := Lib.hid ((HR1.out.step ((Below.refl _ _).alloc (Nat.le_refl _) (.cells #[.int .i64 (k : Int)] 3))).only hg3 hlb)
        have HW3 := Lib.hid (own_more hown3)
        obtain ⟨g, cap, hv3, hgb⟩ := own_blk HW3.out (by simp)
        subst hv3
        have hcl : (L ++ [k]).length = L.length + 1 := by simp
        have HW4 := Lib.hid (hcl ▸ HW3.out)
        rw [hcl]
        clear hown3 hg3 hlb HW3 hcl HR1 HW1 HO HOwn HBA hbl hol hkl
        go_wp2_with fail
        generalize hLm : L.length = mm at *
        have HLM := Lib.hid hLm
        clear hLm
        go_loopg [11] mm (fun kx qv wq => ∃ (q : Nat) (C : List Nat), qv = .int .i64 q ∧ q ≤ mm ∧ q ≤ kx ∧ wq.ownsRow (w.heap.size + 2) 3 1 (.slice (some ⟨g, 0, none⟩) (mm + 1) cap) (mm + 1) ((intL C).map (Value.int .i64)) ∧ Rf 2 w (some ⟨b, off, none⟩) n lc wq ∧ Hid (Gap L C q) ∧ Hid (q = mm ∨ aB 2 s k (L.getD q 0) = true))
        case atStart => exact ⟨mm, L ++ [k], rfl, Nat.le_refl _, Nat.le_refl _, HW4.out, HR3.out, (HLM.out ▸ gap_start L k), Or.inl rfl⟩
        case round =>
          clear HW4 HR3
          obtain ⟨q, C, rfl, hq1, hq2, hown4, hr4, HG, HA⟩ := hrel
          have HW4 := Lib.hid hown4
          have HR4 := Lib.hid hr4
          have ck := hr4.k.cell 0
          have cl := hr4.l.cell 0
          clear hown4 hr4
          rcases Nat.eq_zero_or_pos q with rfl | hq0
          · have HIN := Lib.hid (insK_step 2 s n k 0 L (by omega) hlt HI.out hcb (Nat.zero_le _) (Or.inl rfl) (by rw [HLM.out]; exact HA.out))
            have HGE := Lib.hid (gap_end L C 0 k (Nat.zero_le _) HG.out)
            have HP := Lib.hid (own_put (q := 0) (x := k) HW4.out)
            have cz := own_cell HW4.out 0 (by omega)
            have fz := HW4.out.frozenAt 0
            have HR5 := Lib.hid (HR4.out.only HP.out.2 (fun b hb => by injection hb with hb; omega))
            have HLN := Lib.hid (show (L.take 0 ++ k :: L.drop 0).length = mm + 1 by simp [HLM.out])
            go_wp2_with fail
            exact ⟨⟨k + 1, L.take 0 ++ k :: L.drop 0, by omega, by go_num, HR5.out, by rw [HLN.out, ← HGE.out]; exact HP.out.1, HIN.out⟩, by simp [intOf]; omega⟩
          · obtain ⟨p, rfl⟩ : ∃ p, q = p + 1 := ⟨q - 1, by omega⟩
            have hpl : p < L.length := by rw [HLM.out]; omega
            have hcp : C.getD p 0 = L.getD p 0 := HG.out.2.1 p (by omega)
            have hyk : L.getD p 0 < k := by
              have : L.getD p 0 = L[p] := by simp [List.getElem?_eq_getElem hpl]
              rw [this]; exact carr_lt s.K k _ (HI.out.1.mem_iff.1 (List.getElem_mem _))
            have ca := own_cell HW4.out p (by omega)
            have cb := own_cell HW4.out (p + 1) (by omega)
            have fb := HW4.out.frozenAt (p + 1)
            obtain ⟨lb, lo, e, _, hst⟩ := stRow_at (HR.out.below HR4.out.b) (by omega : 0 < n)
            cases e
            have HAH := Lib.hid (ahead63_2 s w.heap.size (w.heap.size + 1) b off n lc k (L.getD p 0) wr (HR4.out.k.cell 0) (HR4.out.l.cell 0) (hst k hlt) (hst _ (by omega)) hlt (by omega) hn)
            rw [hcp] at ca
            have e2 : (p : Int) + 1 - 1 = (p : Int) := by omega
            have e3 : (0 : Int) < (p : Int) + 1 := by omega
            have e4 : (p : Int) < (mm : Int) + 1 := by omega
            have e5 : (p : Int) + 1 < (mm : Int) + 1 := by omega
            clear hst
            cases hab : aB 2 s k (L.getD p 0)
            · have HIN := Lib.hid (insK_step 2 s n k (p + 1) L (by omega) hlt HI.out hcb (by omega) (Or.inr (by rw [Nat.add_sub_cancel]; exact hab)) (by rw [HLM.out]; exact HA.out))
              have HGE := Lib.hid (gap_end L C (p + 1) k (by omega) HG.out)
              have HLN := Lib.hid (show (L.take (p + 1) ++ k :: L.drop (p + 1)).length = mm + 1 by have := HLM.out; simp only [List.length_append, List.length_cons, List.length_take, List.length_drop]; omega)
              rw [hab] at HAH
              clear hab hcp
              obtain ⟨y, hy⟩ : ∃ y, y = L.getD p 0 := ⟨_, rfl⟩
              rw [← hy] at HAH ca
              clear hy hyk
              go_wp2_with fail
              refine HAH.out.mono ?_
              rintro e w5 ⟨rfl, md, rfl⟩
              have HP := Lib.hid (own_put (w := wr.drewN md) (q := p + 1) (x := k) HW4.out)
              have HR5 := Lib.hid ((HR4.out.step (below_drewN (Below.refl _ _) md)).only HP.out.2 (fun b hb => by injection hb with hb; omega))
              go_wp2_with fail
              exact ⟨⟨k + 1, L.take (p + 1) ++ k :: L.drop (p + 1), by omega, by go_num, HR5.out, by rw [HLN.out, ← HGE.out]; exact HP.out.1, HIN.out⟩, by simp [intOf]; omega⟩
            · have HG2 := Lib.hid (gap_step L C p hpl HG.out)
              have HA2 := Lib.hid (show p = mm ∨ aB 2 s k (L.getD p 0) = true from Or.inr hab)
              rw [hcp] at HG2
              rw [hab] at HAH
              clear hab hcp
              obtain ⟨y, hy⟩ : ∃ y, y = L.getD p 0 := ⟨_, rfl⟩
              rw [← hy] at HAH ca HG2
              clear hy hyk
              go_wp2_with fail
              refine HAH.out.mono ?_
              rintro e w5 ⟨rfl, md, rfl⟩
              have HP := Lib.hid (own_put (w := wr.drewN md) (q := p + 1) (x := y) HW4.out)
              have HR5 := Lib.hid ((HR4.out.step (below_drewN (Below.refl _ _) md)).only HP.out.2 (fun b hb => by injection hb with hb; omega))
              go_wp2_with fail
              (go_roundg p; (case measure => omega); (case rel => exact ⟨p, _, by first | rfl | go_num, by omega, Nat.le_refl _, HP.out.1, HR5.out, HG2, HA2⟩))
      · have d1 : (s.K k != 4) = true := by simp [h4]
        by_cases h5 : s.K k = 5
        · have hcb : carB (s.K k) = true := by simp [carB, h5]
          have d2 : (s.K k != 5) = false := by simp [h5]
          clear h4 h5
          have hfl := carr_len s.K k
          have HIL := Lib.hid HI.out.1.length_eq
          have hLl : L.length ≤ k := by rw [HIL.out]; exact hfl
          obtain ⟨ao, co, hov⟩ := own_len HOwn.out
          have HOV := Lib.hid hov
          subst hov
          clear hfl
          have HR1 := Lib.hid (HO.out.step (HBA.out))
          have HW1 := Lib.hid (HOwn.out.alloc (.cells (s.cells k) 124))
          unfold Steps.cells at HR1 HW1
          go_wp2_with (at_builtin; refine wpList_append_own_at _ rfl (.tmp 35) (.tmp 37) 26 rfl (w.heap.size + 2) 3 i0 (.int .i64 0) 1 8 Try.underlying26 hi hz0 hz1 hz2 rfl (by decide) _ _ _ rfl (HW1.out.alloc _) ⟨wr.heap.size + 1, 0, none⟩ 1 1 [.int .i64 (k : Int)] rfl rfl (by simpa using cell_one_new (wr.alloc (.cells #[.int .i64 (s.K k), .string (s.P k), .string (s.Q k), .int .i64 (s.S k), .int .i64 (s.T k)] 124)) (.int .i64 (k : Int)) 3) (by simp [Value.oneCell']) (by unfold maxLen; omega) (by omega) (by simp; omega) ?_)
          intro v' w3 hown3 hg3 _ _
          have hlb : ∀ b, (Value.slice ao L.length co).ownBlock = some b → w.heap.size + 2 ≤ b := fun b hb => (HW1.out.lt b hb).1
          have HR3 := Lib.hid ((HR1.out.step ((Below.refl _ _).alloc (Nat.le_refl _) (.cells #[.int .i64 (k : Int)] 3))).only hg3 hlb)
          have HW3 := Lib.hid (own_more hown3)
          obtain ⟨g, cap, hv3, hgb⟩ := own_blk HW3.out (by simp)
          subst hv3
          have hcl : (L ++ [k]).length = L.length + 1 := by simp
          have HW4 := Lib.hid (hcl ▸ HW3.out)
          rw [hcl]
          clear hown3 hg3 hlb HW3 hcl HR1 HW1 HO HOwn HBA hbl hol hkl
          go_wp2_with fail
          generalize hLm : L.length = mm at *
          have HLM := Lib.hid hLm
          clear hLm
          go_loopg [11] mm (fun kx qv wq => ∃ (q : Nat) (C : List Nat), qv = .int .i64 q ∧ q ≤ mm ∧ q ≤ kx ∧ wq.ownsRow (w.heap.size + 2) 3 1 (.slice (some ⟨g, 0, none⟩) (mm + 1) cap) (mm + 1) ((intL C).map (Value.int .i64)) ∧ Rf 2 w (some ⟨b, off, none⟩) n lc wq ∧ Hid (Gap L C q) ∧ Hid (q = mm ∨ aB 2 s k (L.getD q 0) = true))
          case atStart => exact ⟨mm, L ++ [k], rfl, Nat.le_refl _, Nat.le_refl _, HW4.out, HR3.out, (HLM.out ▸ gap_start L k), Or.inl rfl⟩
          case round =>
            clear HW4 HR3
            obtain ⟨q, C, rfl, hq1, hq2, hown4, hr4, HG, HA⟩ := hrel
            have HW4 := Lib.hid hown4
            have HR4 := Lib.hid hr4
            have ck := hr4.k.cell 0
            have cl := hr4.l.cell 0
            clear hown4 hr4
            rcases Nat.eq_zero_or_pos q with rfl | hq0
            · have HIN := Lib.hid (insK_step 2 s n k 0 L (by omega) hlt HI.out hcb (Nat.zero_le _) (Or.inl rfl) (by rw [HLM.out]; exact HA.out))
              have HGE := Lib.hid (gap_end L C 0 k (Nat.zero_le _) HG.out)
              have HP := Lib.hid (own_put (q := 0) (x := k) HW4.out)
              have cz := own_cell HW4.out 0 (by omega)
              have fz := HW4.out.frozenAt 0
              have HR5 := Lib.hid (HR4.out.only HP.out.2 (fun b hb => by injection hb with hb; omega))
              have HLN := Lib.hid (show (L.take 0 ++ k :: L.drop 0).length = mm + 1 by simp [HLM.out])
              go_wp2_with fail
              exact ⟨⟨k + 1, L.take 0 ++ k :: L.drop 0, by omega, by go_num, HR5.out, by rw [HLN.out, ← HGE.out]; exact HP.out.1, HIN.out⟩, by simp [intOf]; omega⟩
            · obtain ⟨p, rfl⟩ : ∃ p, q = p + 1 := ⟨q - 1, by omega⟩
              have hpl : p < L.length := by rw [HLM.out]; omega
              have hcp : C.getD p 0 = L.getD p 0 := HG.out.2.1 p (by omega)
              have hyk : L.getD p 0 < k := by
                have : L.getD p 0 = L[p] := by simp [List.getElem?_eq_getElem hpl]
                rw [this]; exact carr_lt s.K k _ (HI.out.1.mem_iff.1 (List.getElem_mem _))
              have ca := own_cell HW4.out p (by omega)
              have cb := own_cell HW4.out (p + 1) (by omega)
              have fb := HW4.out.frozenAt (p + 1)
              obtain ⟨lb, lo, e, _, hst⟩ := stRow_at (HR.out.below HR4.out.b) (by omega : 0 < n)
              cases e
              have HAH := Lib.hid (ahead63_2 s w.heap.size (w.heap.size + 1) b off n lc k (L.getD p 0) wr (HR4.out.k.cell 0) (HR4.out.l.cell 0) (hst k hlt) (hst _ (by omega)) hlt (by omega) hn)
              rw [hcp] at ca
              have e2 : (p : Int) + 1 - 1 = (p : Int) := by omega
              have e3 : (0 : Int) < (p : Int) + 1 := by omega
              have e4 : (p : Int) < (mm : Int) + 1 := by omega
              have e5 : (p : Int) + 1 < (mm : Int) + 1 := by omega
              clear hst
              cases hab : aB 2 s k (L.getD p 0)
              · have HIN := Lib.hid (insK_step 2 s n k (p + 1) L (by omega) hlt HI.out hcb (by omega) (Or.inr (by rw [Nat.add_sub_cancel]; exact hab)) (by rw [HLM.out]; exact HA.out))
                have HGE := Lib.hid (gap_end L C (p + 1) k (by omega) HG.out)
                have HLN := Lib.hid (show (L.take (p + 1) ++ k :: L.drop (p + 1)).length = mm + 1 by have := HLM.out; simp only [List.length_append, List.length_cons, List.length_take, List.length_drop]; omega)
                rw [hab] at HAH
                clear hab hcp
                obtain ⟨y, hy⟩ : ∃ y, y = L.getD p 0 := ⟨_, rfl⟩
                rw [← hy] at HAH ca
                clear hy hyk
                go_wp2_with fail
                refine HAH.out.mono ?_
                rintro e w5 ⟨rfl, md, rfl⟩
                have HP := Lib.hid (own_put (w := wr.drewN md) (q := p + 1) (x := k) HW4.out)
                have HR5 := Lib.hid ((HR4.out.step (below_drewN (Below.refl _ _) md)).only HP.out.2 (fun b hb => by injection hb with hb; omega))
                go_wp2_with fail
                exact ⟨⟨k + 1, L.take (p + 1) ++ k :: L.drop (p + 1), by omega, by go_num, HR5.out, by rw [HLN.out, ← HGE.out]; exact HP.out.1, HIN.out⟩, by simp [intOf]; omega⟩
              · have HG2 := Lib.hid (gap_step L C p hpl HG.out)
                have HA2 := Lib.hid (show p = mm ∨ aB 2 s k (L.getD p 0) = true from Or.inr hab)
                rw [hcp] at HG2
                rw [hab] at HAH
                clear hab hcp
                obtain ⟨y, hy⟩ : ∃ y, y = L.getD p 0 := ⟨_, rfl⟩
                rw [← hy] at HAH ca HG2
                clear hy hyk
                go_wp2_with fail
                refine HAH.out.mono ?_
                rintro e w5 ⟨rfl, md, rfl⟩
                have HP := Lib.hid (own_put (w := wr.drewN md) (q := p + 1) (x := y) HW4.out)
                have HR5 := Lib.hid ((HR4.out.step (below_drewN (Below.refl _ _) md)).only HP.out.2 (fun b hb => by injection hb with hb; omega))
                go_wp2_with fail
                (go_roundg p; (case measure => omega); (case rel => exact ⟨p, _, by first | rfl | go_num, by omega, Nat.le_refl _, HP.out.1, HR5.out, HG2, HA2⟩))
        · have d2 : (s.K k != 5) = true := by simp [h5]
          have HIN := Lib.hid (insK_no 2 s n k L HI.out (by simp [carB, h4, h5]))
          have HO2 := Lib.hid (HO.out.step HBA.out)
          have HW2 := Lib.hid (HOwn.out.alloc (.cells (s.cells k) 124))
          unfold Steps.cells at HO2 HW2
          clear h4 h5
          go_wp2_with fail
          go_roundw
          case rel => exact ⟨k + 1, L, by omega, by go_num, HO2.out, HW2.out, HIN.out⟩
          case measure => simp [intOf]; omega
    · obtain rfl : k = n := by omega
      have hd : ¬ (k : Int) < (k : Int) := by omega
      obtain ⟨a3, cap3, hv3, hrow3⟩ := Row.of_own HOwn.out (intL_len _)
      have HRow := Lib.hid hrow3
      have hLn : L.length ≤ k := by rw [HI.out.1.length_eq]; exact carr_len s.K k
      rw [intL_len] at hv3
      have ck := HO.out.k.cell 0
      subst hv3
      clear hrow3
      go_wp2_with fail
      go_ret
      exact ⟨L, a3, cap3, ⟨HI.out.1, HI.out.2⟩, by rw [finL_id 2 seed _ (by omega) (by omega)]; rfl, by rw [finL_id 2 seed _ (by omega) (by omega)]; exact HRow.out, HO.out.b⟩

set_option maxHeartbeats 4000000 in
set_option maxRecDepth 1000000 in
theorem orderOf41_3 (seed : Int) (la : Option Addr) (n lc : Nat) (s : Steps) (w : World) (hrow : StRow w w.heap.size la n s) (hn : n ≤ 20000) (hs0 : 0 ≤ seed) (hs1 : seed < 2147483648) :
    Calls Try.prog 41 #[.int .i64 3, .int .i64 seed, .slice la n lc] w (OrdPost 3 seed n s w) := by
  obtain ⟨i0, hi, hz0, hz1, hz2⟩ := info_parts int_info
  have HR := Lib.hid hrow
  have hO1 : Rf 3 w la n lc ((w.alloc (.cells #[.int .i64 3] 3)).alloc (.cells #[.slice la n lc] 76)) := by
    refine ⟨(Blk.new w 3 #[.int .i64 3]).below ((Below.refl _ _).alloc (Nat.le_refl _) _) (by simp), ?_, ((Below.refl _ _).alloc (Nat.le_refl _) _).alloc (by simp) _⟩
    have h := Blk.new (w.alloc (.cells #[.int .i64 3] 3)) 76 #[.slice la n lc]
    have e : (w.alloc (.cells #[.int .i64 3] 3)).heap.size = w.heap.size + 1 := by simp
    rwa [e] at h
  have HO1 := Lib.hid hO1
  clear hrow hO1
  go_enter Try.func41, Try.ntmps41
  go_wp2_with fail
  generalize (w.alloc (.cells #[.int .i64 3] 3)).alloc (.cells #[.slice la n lc] 76) = w1 at *
  go_loopw [7, 20] (fun ov iv wr => ∃ (k : Nat) (L : List Nat), k ≤ n ∧ iv = .int .i64 k ∧ Rf 3 w la n lc wr ∧ wr.ownsRow (w.heap.size + 2) 3 1 ov L.length ((intL L).map (Value.int .i64)) ∧ Hid (InsK 3 s n k L)) (fun _ iv _ => n - (intOf iv).toNat)
  case atStart => exact ⟨0, [], by omega, rfl, HO1.out, World.ownsRow_nil _ _ _ _, List.Perm.refl _, List.Pairwise.nil⟩
  case round =>
    clear HO1
    obtain ⟨k, L, hk, rfl, ho, hown, HI⟩ := hrel
    have HO := Lib.hid ho
    have HOwn := Lib.hid hown
    have hsz := ho.b.size
    have hkl := ho.k.lt
    have hol := ho.l.lt
    clear ho hown
    by_cases hlt : k < n
    · have hk1 : (k : Int) < (n : Int) := by omega
      obtain ⟨b, off, rfl, hbB, hc⟩ := (HR.out.below HO.out.b) k hlt
      have c0 := hc 0 (by omega)
      have c1 := hc 1 (by omega)
      have c2 := hc 2 (by omega)
      have c3 := hc 3 (by omega)
      have c4 := hc 4 (by omega)
      simp only [Steps.cells, Nat.add_zero] at c0 c1 c2 c3 c4
      have hbl : b < wr.heap.size := by omega
      have HBA := Lib.hid ((Below.refl wr.heap.size wr).alloc (Nat.le_refl _) (.cells (s.cells k) 124))
      clear hc
      by_cases h4 : s.K k = 4
      · have hcb : carB (s.K k) = true := by simp [carB, h4]
        have d1 : (s.K k != 4) = false := by simp [h4]
        clear h4
        have hfl := carr_len s.K k
        have HIL := Lib.hid HI.out.1.length_eq
        have hLl : L.length ≤ k := by rw [HIL.out]; exact hfl
        obtain ⟨ao, co, hov⟩ := own_len HOwn.out
        have HOV := Lib.hid hov
        subst hov
        clear hfl
        have HR1 := Lib.hid (HO.out.step (HBA.out))
        have HW1 := Lib.hid (HOwn.out.alloc (.cells (s.cells k) 124))
        unfold Steps.cells at HR1 HW1
        go_wp2_with (at_builtin; refine wpList_append_own_at _ rfl (.tmp 35) (.tmp 37) 26 rfl (w.heap.size + 2) 3 i0 (.int .i64 0) 1 8 Try.underlying26 hi hz0 hz1 hz2 rfl (by decide) _ _ _ rfl (HW1.out.alloc _) ⟨wr.heap.size + 1, 0, none⟩ 1 1 [.int .i64 (k : Int)] rfl rfl (by simpa using cell_one_new (wr.alloc (.cells #[.int .i64 (s.K k), .string (s.P k), .string (s.Q k), .int .i64 (s.S k), .int .i64 (s.T k)] 124)) (.int .i64 (k : Int)) 3) (by simp [Value.oneCell']) (by unfold maxLen; omega) (by omega) (by simp; omega) ?_)
        intro v' w3 hown3 hg3 _ _
        have hlb : ∀ b, (Value.slice ao L.length co).ownBlock = some b → w.heap.size + 2 ≤ b := fun b hb => (HW1.out.lt b hb).1
        have HR3 := Lib.hid ((HR1.out.step ((Below.refl _ _).alloc (Nat.le_refl _) (.cells #[.int .i64 (k : Int)] 3))).only hg3 hlb)
        have HW3 := Lib.hid (own_more hown3)
        obtain ⟨g, cap, hv3, hgb⟩ := own_blk HW3.out (by simp)
        subst hv3
        have hcl : (L ++ [k]).length = L.length + 1 := by simp
        have HW4 := Lib.hid (hcl ▸ HW3.out)
        rw [hcl]
        clear hown3 hg3 hlb HW3 hcl HR1 HW1 HO HOwn HBA hbl hol hkl
        go_wp2_with fail
        generalize hLm : L.length = mm at *
        have HLM := Lib.hid hLm
        clear hLm
        go_loopg [11] mm (fun kx qv wq => ∃ (q : Nat) (C : List Nat), qv = .int .i64 q ∧ q ≤ mm ∧ q ≤ kx ∧ wq.ownsRow (w.heap.size + 2) 3 1 (.slice (some ⟨g, 0, none⟩) (mm + 1) cap) (mm + 1) ((intL C).map (Value.int .i64)) ∧ Rf 3 w (some ⟨b, off, none⟩) n lc wq ∧ Hid (Gap L C q) ∧ Hid (q = mm ∨ aB 3 s k (L.getD q 0) = true))
        case atStart => exact ⟨mm, L ++ [k], rfl, Nat.le_refl _, Nat.le_refl _, HW4.out, HR3.out, (HLM.out ▸ gap_start L k), Or.inl rfl⟩
        case round =>
          clear HW4 HR3
          obtain ⟨q, C, rfl, hq1, hq2, hown4, hr4, HG, HA⟩ := hrel
          have HW4 := Lib.hid hown4
          have HR4 := Lib.hid hr4
          have ck := hr4.k.cell 0
          have cl := hr4.l.cell 0
          clear hown4 hr4
          rcases Nat.eq_zero_or_pos q with rfl | hq0
          · have HIN := Lib.hid (insK_step 3 s n k 0 L (by omega) hlt HI.out hcb (Nat.zero_le _) (Or.inl rfl) (by rw [HLM.out]; exact HA.out))
            have HGE := Lib.hid (gap_end L C 0 k (Nat.zero_le _) HG.out)
            have HP := Lib.hid (own_put (q := 0) (x := k) HW4.out)
            have cz := own_cell HW4.out 0 (by omega)
            have fz := HW4.out.frozenAt 0
            have HR5 := Lib.hid (HR4.out.only HP.out.2 (fun b hb => by injection hb with hb; omega))
            have HLN := Lib.hid (show (L.take 0 ++ k :: L.drop 0).length = mm + 1 by simp [HLM.out])
            go_wp2_with fail
            exact ⟨⟨k + 1, L.take 0 ++ k :: L.drop 0, by omega, by go_num, HR5.out, by rw [HLN.out, ← HGE.out]; exact HP.out.1, HIN.out⟩, by simp [intOf]; omega⟩
          · obtain ⟨p, rfl⟩ : ∃ p, q = p + 1 := ⟨q - 1, by omega⟩
            have hpl : p < L.length := by rw [HLM.out]; omega
            have hcp : C.getD p 0 = L.getD p 0 := HG.out.2.1 p (by omega)
            have hyk : L.getD p 0 < k := by
              have : L.getD p 0 = L[p] := by simp [List.getElem?_eq_getElem hpl]
              rw [this]; exact carr_lt s.K k _ (HI.out.1.mem_iff.1 (List.getElem_mem _))
            have ca := own_cell HW4.out p (by omega)
            have cb := own_cell HW4.out (p + 1) (by omega)
            have fb := HW4.out.frozenAt (p + 1)
            obtain ⟨lb, lo, e, _, hst⟩ := stRow_at (HR.out.below HR4.out.b) (by omega : 0 < n)
            cases e
            have HAH := Lib.hid (ahead63_3 s w.heap.size (w.heap.size + 1) b off n lc k (L.getD p 0) wr (HR4.out.k.cell 0) (HR4.out.l.cell 0) (hst k hlt) (hst _ (by omega)) hlt (by omega) hn)
            rw [hcp] at ca
            have e2 : (p : Int) + 1 - 1 = (p : Int) := by omega
            have e3 : (0 : Int) < (p : Int) + 1 := by omega
            have e4 : (p : Int) < (mm : Int) + 1 := by omega
            have e5 : (p : Int) + 1 < (mm : Int) + 1 := by omega
            clear hst
            cases hab : aB 3 s k (L.getD p 0)
            · have HIN := Lib.hid (insK_step 3 s n k (p + 1) L (by omega) hlt HI.out hcb (by omega) (Or.inr (by rw [Nat.add_sub_cancel]; exact hab)) (by rw [HLM.out]; exact HA.out))
              have HGE := Lib.hid (gap_end L C (p + 1) k (by omega) HG.out)
              have HLN := Lib.hid (show (L.take (p + 1) ++ k :: L.drop (p + 1)).length = mm + 1 by have := HLM.out; simp only [List.length_append, List.length_cons, List.length_take, List.length_drop]; omega)
              rw [hab] at HAH
              clear hab hcp
              obtain ⟨y, hy⟩ : ∃ y, y = L.getD p 0 := ⟨_, rfl⟩
              rw [← hy] at HAH ca
              clear hy hyk
              go_wp2_with fail
              refine HAH.out.mono ?_
              rintro e w5 ⟨rfl, md, rfl⟩
              have HP := Lib.hid (own_put (w := wr.drewN md) (q := p + 1) (x := k) HW4.out)
              have HR5 := Lib.hid ((HR4.out.step (below_drewN (Below.refl _ _) md)).only HP.out.2 (fun b hb => by injection hb with hb; omega))
              go_wp2_with fail
              exact ⟨⟨k + 1, L.take (p + 1) ++ k :: L.drop (p + 1), by omega, by go_num, HR5.out, by rw [HLN.out, ← HGE.out]; exact HP.out.1, HIN.out⟩, by simp [intOf]; omega⟩
            · have HG2 := Lib.hid (gap_step L C p hpl HG.out)
              have HA2 := Lib.hid (show p = mm ∨ aB 3 s k (L.getD p 0) = true from Or.inr hab)
              rw [hcp] at HG2
              rw [hab] at HAH
              clear hab hcp
              obtain ⟨y, hy⟩ : ∃ y, y = L.getD p 0 := ⟨_, rfl⟩
              rw [← hy] at HAH ca HG2
              clear hy hyk
              go_wp2_with fail
              refine HAH.out.mono ?_
              rintro e w5 ⟨rfl, md, rfl⟩
              have HP := Lib.hid (own_put (w := wr.drewN md) (q := p + 1) (x := y) HW4.out)
              have HR5 := Lib.hid ((HR4.out.step (below_drewN (Below.refl _ _) md)).only HP.out.2 (fun b hb => by injection hb with hb; omega))
              go_wp2_with fail
              (go_roundg p; (case measure => omega); (case rel => exact ⟨p, _, by first | rfl | go_num, by omega, Nat.le_refl _, HP.out.1, HR5.out, HG2, HA2⟩))
      · have d1 : (s.K k != 4) = true := by simp [h4]
        by_cases h5 : s.K k = 5
        · have hcb : carB (s.K k) = true := by simp [carB, h5]
          have d2 : (s.K k != 5) = false := by simp [h5]
          clear h4 h5
          have hfl := carr_len s.K k
          have HIL := Lib.hid HI.out.1.length_eq
          have hLl : L.length ≤ k := by rw [HIL.out]; exact hfl
          obtain ⟨ao, co, hov⟩ := own_len HOwn.out
          have HOV := Lib.hid hov
          subst hov
          clear hfl
          have HR1 := Lib.hid (HO.out.step (HBA.out))
          have HW1 := Lib.hid (HOwn.out.alloc (.cells (s.cells k) 124))
          unfold Steps.cells at HR1 HW1
          go_wp2_with (at_builtin; refine wpList_append_own_at _ rfl (.tmp 35) (.tmp 37) 26 rfl (w.heap.size + 2) 3 i0 (.int .i64 0) 1 8 Try.underlying26 hi hz0 hz1 hz2 rfl (by decide) _ _ _ rfl (HW1.out.alloc _) ⟨wr.heap.size + 1, 0, none⟩ 1 1 [.int .i64 (k : Int)] rfl rfl (by simpa using cell_one_new (wr.alloc (.cells #[.int .i64 (s.K k), .string (s.P k), .string (s.Q k), .int .i64 (s.S k), .int .i64 (s.T k)] 124)) (.int .i64 (k : Int)) 3) (by simp [Value.oneCell']) (by unfold maxLen; omega) (by omega) (by simp; omega) ?_)
          intro v' w3 hown3 hg3 _ _
          have hlb : ∀ b, (Value.slice ao L.length co).ownBlock = some b → w.heap.size + 2 ≤ b := fun b hb => (HW1.out.lt b hb).1
          have HR3 := Lib.hid ((HR1.out.step ((Below.refl _ _).alloc (Nat.le_refl _) (.cells #[.int .i64 (k : Int)] 3))).only hg3 hlb)
          have HW3 := Lib.hid (own_more hown3)
          obtain ⟨g, cap, hv3, hgb⟩ := own_blk HW3.out (by simp)
          subst hv3
          have hcl : (L ++ [k]).length = L.length + 1 := by simp
          have HW4 := Lib.hid (hcl ▸ HW3.out)
          rw [hcl]
          clear hown3 hg3 hlb HW3 hcl HR1 HW1 HO HOwn HBA hbl hol hkl
          go_wp2_with fail
          generalize hLm : L.length = mm at *
          have HLM := Lib.hid hLm
          clear hLm
          go_loopg [11] mm (fun kx qv wq => ∃ (q : Nat) (C : List Nat), qv = .int .i64 q ∧ q ≤ mm ∧ q ≤ kx ∧ wq.ownsRow (w.heap.size + 2) 3 1 (.slice (some ⟨g, 0, none⟩) (mm + 1) cap) (mm + 1) ((intL C).map (Value.int .i64)) ∧ Rf 3 w (some ⟨b, off, none⟩) n lc wq ∧ Hid (Gap L C q) ∧ Hid (q = mm ∨ aB 3 s k (L.getD q 0) = true))
          case atStart => exact ⟨mm, L ++ [k], rfl, Nat.le_refl _, Nat.le_refl _, HW4.out, HR3.out, (HLM.out ▸ gap_start L k), Or.inl rfl⟩
          case round =>
            clear HW4 HR3
            obtain ⟨q, C, rfl, hq1, hq2, hown4, hr4, HG, HA⟩ := hrel
            have HW4 := Lib.hid hown4
            have HR4 := Lib.hid hr4
            have ck := hr4.k.cell 0
            have cl := hr4.l.cell 0
            clear hown4 hr4
            rcases Nat.eq_zero_or_pos q with rfl | hq0
            · have HIN := Lib.hid (insK_step 3 s n k 0 L (by omega) hlt HI.out hcb (Nat.zero_le _) (Or.inl rfl) (by rw [HLM.out]; exact HA.out))
              have HGE := Lib.hid (gap_end L C 0 k (Nat.zero_le _) HG.out)
              have HP := Lib.hid (own_put (q := 0) (x := k) HW4.out)
              have cz := own_cell HW4.out 0 (by omega)
              have fz := HW4.out.frozenAt 0
              have HR5 := Lib.hid (HR4.out.only HP.out.2 (fun b hb => by injection hb with hb; omega))
              have HLN := Lib.hid (show (L.take 0 ++ k :: L.drop 0).length = mm + 1 by simp [HLM.out])
              go_wp2_with fail
              exact ⟨⟨k + 1, L.take 0 ++ k :: L.drop 0, by omega, by go_num, HR5.out, by rw [HLN.out, ← HGE.out]; exact HP.out.1, HIN.out⟩, by simp [intOf]; omega⟩
            · obtain ⟨p, rfl⟩ : ∃ p, q = p + 1 := ⟨q - 1, by omega⟩
              have hpl : p < L.length := by rw [HLM.out]; omega
              have hcp : C.getD p 0 = L.getD p 0 := HG.out.2.1 p (by omega)
              have hyk : L.getD p 0 < k := by
                have : L.getD p 0 = L[p] := by simp [List.getElem?_eq_getElem hpl]
                rw [this]; exact carr_lt s.K k _ (HI.out.1.mem_iff.1 (List.getElem_mem _))
              have ca := own_cell HW4.out p (by omega)
              have cb := own_cell HW4.out (p + 1) (by omega)
              have fb := HW4.out.frozenAt (p + 1)
              obtain ⟨lb, lo, e, _, hst⟩ := stRow_at (HR.out.below HR4.out.b) (by omega : 0 < n)
              cases e
              have HAH := Lib.hid (ahead63_3 s w.heap.size (w.heap.size + 1) b off n lc k (L.getD p 0) wr (HR4.out.k.cell 0) (HR4.out.l.cell 0) (hst k hlt) (hst _ (by omega)) hlt (by omega) hn)
              rw [hcp] at ca
              have e2 : (p : Int) + 1 - 1 = (p : Int) := by omega
              have e3 : (0 : Int) < (p : Int) + 1 := by omega
              have e4 : (p : Int) < (mm : Int) + 1 := by omega
              have e5 : (p : Int) + 1 < (mm : Int) + 1 := by omega
              clear hst
              cases hab : aB 3 s k (L.getD p 0)
              · have HIN := Lib.hid (insK_step 3 s n k (p + 1) L (by omega) hlt HI.out hcb (by omega) (Or.inr (by rw [Nat.add_sub_cancel]; exact hab)) (by rw [HLM.out]; exact HA.out))
                have HGE := Lib.hid (gap_end L C (p + 1) k (by omega) HG.out)
                have HLN := Lib.hid (show (L.take (p + 1) ++ k :: L.drop (p + 1)).length = mm + 1 by have := HLM.out; simp only [List.length_append, List.length_cons, List.length_take, List.length_drop]; omega)
                rw [hab] at HAH
                clear hab hcp
                obtain ⟨y, hy⟩ : ∃ y, y = L.getD p 0 := ⟨_, rfl⟩
                rw [← hy] at HAH ca
                clear hy hyk
                go_wp2_with fail
                refine HAH.out.mono ?_
                rintro e w5 ⟨rfl, md, rfl⟩
                have HP := Lib.hid (own_put (w := wr.drewN md) (q := p + 1) (x := k) HW4.out)
                have HR5 := Lib.hid ((HR4.out.step (below_drewN (Below.refl _ _) md)).only HP.out.2 (fun b hb => by injection hb with hb; omega))
                go_wp2_with fail
                exact ⟨⟨k + 1, L.take (p + 1) ++ k :: L.drop (p + 1), by omega, by go_num, HR5.out, by rw [HLN.out, ← HGE.out]; exact HP.out.1, HIN.out⟩, by simp [intOf]; omega⟩
              · have HG2 := Lib.hid (gap_step L C p hpl HG.out)
                have HA2 := Lib.hid (show p = mm ∨ aB 3 s k (L.getD p 0) = true from Or.inr hab)
                rw [hcp] at HG2
                rw [hab] at HAH
                clear hab hcp
                obtain ⟨y, hy⟩ : ∃ y, y = L.getD p 0 := ⟨_, rfl⟩
                rw [← hy] at HAH ca HG2
                clear hy hyk
                go_wp2_with fail
                refine HAH.out.mono ?_
                rintro e w5 ⟨rfl, md, rfl⟩
                have HP := Lib.hid (own_put (w := wr.drewN md) (q := p + 1) (x := y) HW4.out)
                have HR5 := Lib.hid ((HR4.out.step (below_drewN (Below.refl _ _) md)).only HP.out.2 (fun b hb => by injection hb with hb; omega))
                go_wp2_with fail
                (go_roundg p; (case measure => omega); (case rel => exact ⟨p, _, by first | rfl | go_num, by omega, Nat.le_refl _, HP.out.1, HR5.out, HG2, HA2⟩))
        · have d2 : (s.K k != 5) = true := by simp [h5]
          have HIN := Lib.hid (insK_no 3 s n k L HI.out (by simp [carB, h4, h5]))
          have HO2 := Lib.hid (HO.out.step HBA.out)
          have HW2 := Lib.hid (HOwn.out.alloc (.cells (s.cells k) 124))
          unfold Steps.cells at HO2 HW2
          clear h4 h5
          go_wp2_with fail
          go_roundw
          case rel => exact ⟨k + 1, L, by omega, by go_num, HO2.out, HW2.out, HIN.out⟩
          case measure => simp [intOf]; omega
    · obtain rfl : k = n := by omega
      have hd : ¬ (k : Int) < (k : Int) := by omega
      obtain ⟨a3, cap3, hv3, hrow3⟩ := Row.of_own HOwn.out (intL_len _)
      have HRow := Lib.hid hrow3
      have hLn : L.length ≤ k := by rw [HI.out.1.length_eq]; exact carr_len s.K k
      rw [intL_len] at hv3
      have ck := HO.out.k.cell 0
      subst hv3
      clear hrow3
      go_wp2_with fail
      go_ret
      exact ⟨L, a3, cap3, ⟨HI.out.1, HI.out.2⟩, by rw [finL_id 3 seed _ (by omega) (by omega)]; rfl, by rw [finL_id 3 seed _ (by omega) (by omega)]; exact HRow.out, HO.out.b⟩

set_option maxHeartbeats 4000000 in
set_option maxRecDepth 1000000 in
theorem orderOf41_4 (seed : Int) (la : Option Addr) (n lc : Nat) (s : Steps) (w : World) (hrow : StRow w w.heap.size la n s) (hn : n ≤ 20000) (hs0 : 0 ≤ seed) (hs1 : seed < 2147483648) :
    Calls Try.prog 41 #[.int .i64 4, .int .i64 seed, .slice la n lc] w (OrdPost 4 seed n s w) := by
  obtain ⟨i0, hi, hz0, hz1, hz2⟩ := info_parts int_info
  have HR := Lib.hid hrow
  have hO1 : Rf 4 w la n lc ((w.alloc (.cells #[.int .i64 4] 3)).alloc (.cells #[.slice la n lc] 76)) := by
    refine ⟨(Blk.new w 3 #[.int .i64 4]).below ((Below.refl _ _).alloc (Nat.le_refl _) _) (by simp), ?_, ((Below.refl _ _).alloc (Nat.le_refl _) _).alloc (by simp) _⟩
    have h := Blk.new (w.alloc (.cells #[.int .i64 4] 3)) 76 #[.slice la n lc]
    have e : (w.alloc (.cells #[.int .i64 4] 3)).heap.size = w.heap.size + 1 := by simp
    rwa [e] at h
  have HO1 := Lib.hid hO1
  clear hrow hO1
  go_enter Try.func41, Try.ntmps41
  go_wp2_with fail
  generalize (w.alloc (.cells #[.int .i64 4] 3)).alloc (.cells #[.slice la n lc] 76) = w1 at *
  go_loopw [7, 20] (fun ov iv wr => ∃ (k : Nat) (L : List Nat), k ≤ n ∧ iv = .int .i64 k ∧ Rf 4 w la n lc wr ∧ wr.ownsRow (w.heap.size + 2) 3 1 ov L.length ((intL L).map (Value.int .i64)) ∧ Hid (InsK 4 s n k L)) (fun _ iv _ => n - (intOf iv).toNat)
  case atStart => exact ⟨0, [], by omega, rfl, HO1.out, World.ownsRow_nil _ _ _ _, List.Perm.refl _, List.Pairwise.nil⟩
  case round =>
    clear HO1
    obtain ⟨k, L, hk, rfl, ho, hown, HI⟩ := hrel
    have HO := Lib.hid ho
    have HOwn := Lib.hid hown
    have hsz := ho.b.size
    have hkl := ho.k.lt
    have hol := ho.l.lt
    clear ho hown
    by_cases hlt : k < n
    · have hk1 : (k : Int) < (n : Int) := by omega
      obtain ⟨b, off, rfl, hbB, hc⟩ := (HR.out.below HO.out.b) k hlt
      have c0 := hc 0 (by omega)
      have c1 := hc 1 (by omega)
      have c2 := hc 2 (by omega)
      have c3 := hc 3 (by omega)
      have c4 := hc 4 (by omega)
      simp only [Steps.cells, Nat.add_zero] at c0 c1 c2 c3 c4
      have hbl : b < wr.heap.size := by omega
      have HBA := Lib.hid ((Below.refl wr.heap.size wr).alloc (Nat.le_refl _) (.cells (s.cells k) 124))
      clear hc
      by_cases h4 : s.K k = 4
      · have hcb : carB (s.K k) = true := by simp [carB, h4]
        have d1 : (s.K k != 4) = false := by simp [h4]
        clear h4
        have hfl := carr_len s.K k
        have HIL := Lib.hid HI.out.1.length_eq
        have hLl : L.length ≤ k := by rw [HIL.out]; exact hfl
        obtain ⟨ao, co, hov⟩ := own_len HOwn.out
        have HOV := Lib.hid hov
        subst hov
        clear hfl
        have HR1 := Lib.hid (HO.out.step (HBA.out))
        have HW1 := Lib.hid (HOwn.out.alloc (.cells (s.cells k) 124))
        unfold Steps.cells at HR1 HW1
        go_wp2_with (at_builtin; refine wpList_append_own_at _ rfl (.tmp 35) (.tmp 37) 26 rfl (w.heap.size + 2) 3 i0 (.int .i64 0) 1 8 Try.underlying26 hi hz0 hz1 hz2 rfl (by decide) _ _ _ rfl (HW1.out.alloc _) ⟨wr.heap.size + 1, 0, none⟩ 1 1 [.int .i64 (k : Int)] rfl rfl (by simpa using cell_one_new (wr.alloc (.cells #[.int .i64 (s.K k), .string (s.P k), .string (s.Q k), .int .i64 (s.S k), .int .i64 (s.T k)] 124)) (.int .i64 (k : Int)) 3) (by simp [Value.oneCell']) (by unfold maxLen; omega) (by omega) (by simp; omega) ?_)
        intro v' w3 hown3 hg3 _ _
        have hlb : ∀ b, (Value.slice ao L.length co).ownBlock = some b → w.heap.size + 2 ≤ b := fun b hb => (HW1.out.lt b hb).1
        have HR3 := Lib.hid ((HR1.out.step ((Below.refl _ _).alloc (Nat.le_refl _) (.cells #[.int .i64 (k : Int)] 3))).only hg3 hlb)
        have HW3 := Lib.hid (own_more hown3)
        obtain ⟨g, cap, hv3, hgb⟩ := own_blk HW3.out (by simp)
        subst hv3
        have hcl : (L ++ [k]).length = L.length + 1 := by simp
        have HW4 := Lib.hid (hcl ▸ HW3.out)
        rw [hcl]
        clear hown3 hg3 hlb HW3 hcl HR1 HW1 HO HOwn HBA hbl hol hkl
        go_wp2_with fail
        generalize hLm : L.length = mm at *
        have HLM := Lib.hid hLm
        clear hLm
        go_loopg [11] mm (fun kx qv wq => ∃ (q : Nat) (C : List Nat), qv = .int .i64 q ∧ q ≤ mm ∧ q ≤ kx ∧ wq.ownsRow (w.heap.size + 2) 3 1 (.slice (some ⟨g, 0, none⟩) (mm + 1) cap) (mm + 1) ((intL C).map (Value.int .i64)) ∧ Rf 4 w (some ⟨b, off, none⟩) n lc wq ∧ Hid (Gap L C q) ∧ Hid (q = mm ∨ aB 4 s k (L.getD q 0) = true))
        case atStart => exact ⟨mm, L ++ [k], rfl, Nat.le_refl _, Nat.le_refl _, HW4.out, HR3.out, (HLM.out ▸ gap_start L k), Or.inl rfl⟩
        case round =>
          clear HW4 HR3
          obtain ⟨q, C, rfl, hq1, hq2, hown4, hr4, HG, HA⟩ := hrel
          have HW4 := Lib.hid hown4
          have HR4 := Lib.hid hr4
          have ck := hr4.k.cell 0
          have cl := hr4.l.cell 0
          clear hown4 hr4
          rcases Nat.eq_zero_or_pos q with rfl | hq0
          · have HIN := Lib.hid (insK_step 4 s n k 0 L (by omega) hlt HI.out hcb (Nat.zero_le _) (Or.inl rfl) (by rw [HLM.out]; exact HA.out))
            have HGE := Lib.hid (gap_end L C 0 k (Nat.zero_le _) HG.out)
            have HP := Lib.hid (own_put (q := 0) (x := k) HW4.out)
            have cz := own_cell HW4.out 0 (by omega)
            have fz := HW4.out.frozenAt 0
            have HR5 := Lib.hid (HR4.out.only HP.out.2 (fun b hb => by injection hb with hb; omega))
            have HLN := Lib.hid (show (L.take 0 ++ k :: L.drop 0).length = mm + 1 by simp [HLM.out])
            go_wp2_with fail
            exact ⟨⟨k + 1, L.take 0 ++ k :: L.drop 0, by omega, by go_num, HR5.out, by rw [HLN.out, ← HGE.out]; exact HP.out.1, HIN.out⟩, by simp [intOf]; omega⟩
          · obtain ⟨p, rfl⟩ : ∃ p, q = p + 1 := ⟨q - 1, by omega⟩
            have hpl : p < L.length := by rw [HLM.out]; omega
            have hcp : C.getD p 0 = L.getD p 0 := HG.out.2.1 p (by omega)
            have hyk : L.getD p 0 < k := by
              have : L.getD p 0 = L[p] := by simp [List.getElem?_eq_getElem hpl]
              rw [this]; exact carr_lt s.K k _ (HI.out.1.mem_iff.1 (List.getElem_mem _))
            have ca := own_cell HW4.out p (by omega)
            have cb := own_cell HW4.out (p + 1) (by omega)
            have fb := HW4.out.frozenAt (p + 1)
            obtain ⟨lb, lo, e, _, hst⟩ := stRow_at (HR.out.below HR4.out.b) (by omega : 0 < n)
            cases e
            have HAH := Lib.hid (ahead63_4 s w.heap.size (w.heap.size + 1) b off n lc k (L.getD p 0) wr (HR4.out.k.cell 0) (HR4.out.l.cell 0) (hst k hlt) (hst _ (by omega)) hlt (by omega) hn)
            rw [hcp] at ca
            have e2 : (p : Int) + 1 - 1 = (p : Int) := by omega
            have e3 : (0 : Int) < (p : Int) + 1 := by omega
            have e4 : (p : Int) < (mm : Int) + 1 := by omega
            have e5 : (p : Int) + 1 < (mm : Int) + 1 := by omega
            clear hst
            cases hab : aB 4 s k (L.getD p 0)
            · have HIN := Lib.hid (insK_step 4 s n k (p + 1) L (by omega) hlt HI.out hcb (by omega) (Or.inr (by rw [Nat.add_sub_cancel]; exact hab)) (by rw [HLM.out]; exact HA.out))
              have HGE := Lib.hid (gap_end L C (p + 1) k (by omega) HG.out)
              have HLN := Lib.hid (show (L.take (p + 1) ++ k :: L.drop (p + 1)).length = mm + 1 by have := HLM.out; simp only [List.length_append, List.length_cons, List.length_take, List.length_drop]; omega)
              rw [hab] at HAH
              clear hab hcp
              obtain ⟨y, hy⟩ : ∃ y, y = L.getD p 0 := ⟨_, rfl⟩
              rw [← hy] at HAH ca
              clear hy hyk
              go_wp2_with fail
              refine HAH.out.mono ?_
              rintro e w5 ⟨rfl, md, rfl⟩
              have HP := Lib.hid (own_put (w := wr.drewN md) (q := p + 1) (x := k) HW4.out)
              have HR5 := Lib.hid ((HR4.out.step (below_drewN (Below.refl _ _) md)).only HP.out.2 (fun b hb => by injection hb with hb; omega))
              go_wp2_with fail
              exact ⟨⟨k + 1, L.take (p + 1) ++ k :: L.drop (p + 1), by omega, by go_num, HR5.out, by rw [HLN.out, ← HGE.out]; exact HP.out.1, HIN.out⟩, by simp [intOf]; omega⟩
            · have HG2 := Lib.hid (gap_step L C p hpl HG.out)
              have HA2 := Lib.hid (show p = mm ∨ aB 4 s k (L.getD p 0) = true from Or.inr hab)
              rw [hcp] at HG2
              rw [hab] at HAH
              clear hab hcp
              obtain ⟨y, hy⟩ : ∃ y, y = L.getD p 0 := ⟨_, rfl⟩
              rw [← hy] at HAH ca HG2
              clear hy hyk
              go_wp2_with fail
              refine HAH.out.mono ?_
              rintro e w5 ⟨rfl, md, rfl⟩
              have HP := Lib.hid (own_put (w := wr.drewN md) (q := p + 1) (x := y) HW4.out)
              have HR5 := Lib.hid ((HR4.out.step (below_drewN (Below.refl _ _) md)).only HP.out.2 (fun b hb => by injection hb with hb; omega))
              go_wp2_with fail
              (go_roundg p; (case measure => omega); (case rel => exact ⟨p, _, by first | rfl | go_num, by omega, Nat.le_refl _, HP.out.1, HR5.out, HG2, HA2⟩))
      · have d1 : (s.K k != 4) = true := by simp [h4]
        by_cases h5 : s.K k = 5
        · have hcb : carB (s.K k) = true := by simp [carB, h5]
          have d2 : (s.K k != 5) = false := by simp [h5]
          clear h4 h5
          have hfl := carr_len s.K k
          have HIL := Lib.hid HI.out.1.length_eq
          have hLl : L.length ≤ k := by rw [HIL.out]; exact hfl
          obtain ⟨ao, co, hov⟩ := own_len HOwn.out
          have HOV := Lib.hid hov
          subst hov
          clear hfl
          have HR1 := Lib.hid (HO.out.step (HBA.out))
          have HW1 := Lib.hid (HOwn.out.alloc (.cells (s.cells k) 124))
          unfold Steps.cells at HR1 HW1
          go_wp2_with (at_builtin; refine wpList_append_own_at _ rfl (.tmp 35) (.tmp 37) 26 rfl (w.heap.size + 2) 3 i0 (.int .i64 0) 1 8 Try.underlying26 hi hz0 hz1 hz2 rfl (by decide) _ _ _ rfl (HW1.out.alloc _) ⟨wr.heap.size + 1, 0, none⟩ 1 1 [.int .i64 (k : Int)] rfl rfl (by simpa using cell_one_new (wr.alloc (.cells #[.int .i64 (s.K k), .string (s.P k), .string (s.Q k), .int .i64 (s.S k), .int .i64 (s.T k)] 124)) (.int .i64 (k : Int)) 3) (by simp [Value.oneCell']) (by unfold maxLen; omega) (by omega) (by simp; omega) ?_)
          intro v' w3 hown3 hg3 _ _
          have hlb : ∀ b, (Value.slice ao L.length co).ownBlock = some b → w.heap.size + 2 ≤ b := fun b hb => (HW1.out.lt b hb).1
          have HR3 := Lib.hid ((HR1.out.step ((Below.refl _ _).alloc (Nat.le_refl _) (.cells #[.int .i64 (k : Int)] 3))).only hg3 hlb)
          have HW3 := Lib.hid (own_more hown3)
          obtain ⟨g, cap, hv3, hgb⟩ := own_blk HW3.out (by simp)
          subst hv3
          have hcl : (L ++ [k]).length = L.length + 1 := by simp
          have HW4 := Lib.hid (hcl ▸ HW3.out)
          rw [hcl]
          clear hown3 hg3 hlb HW3 hcl HR1 HW1 HO HOwn HBA hbl hol hkl
          go_wp2_with fail
          generalize hLm : L.length = mm at *
          have HLM := Lib.hid hLm
          clear hLm
          go_loopg [11] mm (fun kx qv wq => ∃ (q : Nat) (C : List Nat), qv = .int .i64 q ∧ q ≤ mm ∧ q ≤ kx ∧ wq.ownsRow (w.heap.size + 2) 3 1 (.slice (some ⟨g, 0, none⟩) (mm + 1) cap) (mm + 1) ((intL C).map (Value.int .i64)) ∧ Rf 4 w (some ⟨b, off, none⟩) n lc wq ∧ Hid (Gap L C q) ∧ Hid (q = mm ∨ aB 4 s k (L.getD q 0) = true))
          case atStart => exact ⟨mm, L ++ [k], rfl, Nat.le_refl _, Nat.le_refl _, HW4.out, HR3.out, (HLM.out ▸ gap_start L k), Or.inl rfl⟩
          case round =>
            clear HW4 HR3
            obtain ⟨q, C, rfl, hq1, hq2, hown4, hr4, HG, HA⟩ := hrel
            have HW4 := Lib.hid hown4
            have HR4 := Lib.hid hr4
            have ck := hr4.k.cell 0
            have cl := hr4.l.cell 0
            clear hown4 hr4
            rcases Nat.eq_zero_or_pos q with rfl | hq0
            · have HIN := Lib.hid (insK_step 4 s n k 0 L (by omega) hlt HI.out hcb (Nat.zero_le _) (Or.inl rfl) (by rw [HLM.out]; exact HA.out))
              have HGE := Lib.hid (gap_end L C 0 k (Nat.zero_le _) HG.out)
              have HP := Lib.hid (own_put (q := 0) (x := k) HW4.out)
              have cz := own_cell HW4.out 0 (by omega)
              have fz := HW4.out.frozenAt 0
              have HR5 := Lib.hid (HR4.out.only HP.out.2 (fun b hb => by injection hb with hb; omega))
              have HLN := Lib.hid (show (L.take 0 ++ k :: L.drop 0).length = mm + 1 by simp [HLM.out])
              go_wp2_with fail
              exact ⟨⟨k + 1, L.take 0 ++ k :: L.drop 0, by omega, by go_num, HR5.out, by rw [HLN.out, ← HGE.out]; exact HP.out.1, HIN.out⟩, by simp [intOf]; omega⟩
            · obtain ⟨p, rfl⟩ : ∃ p, q = p + 1 := ⟨q - 1, by omega⟩
              have hpl : p < L.length := by rw [HLM.out]; omega
              have hcp : C.getD p 0 = L.getD p 0 := HG.out.2.1 p (by omega)
              have hyk : L.getD p 0 < k := by
                have : L.getD p 0 = L[p] := by simp [List.getElem?_eq_getElem hpl]
                rw [this]; exact carr_lt s.K k _ (HI.out.1.mem_iff.1 (List.getElem_mem _))
              have ca := own_cell HW4.out p (by omega)
              have cb := own_cell HW4.out (p + 1) (by omega)
              have fb := HW4.out.frozenAt (p + 1)
              obtain ⟨lb, lo, e, _, hst⟩ := stRow_at (HR.out.below HR4.out.b) (by omega : 0 < n)
              cases e
              have HAH := Lib.hid (ahead63_4 s w.heap.size (w.heap.size + 1) b off n lc k (L.getD p 0) wr (HR4.out.k.cell 0) (HR4.out.l.cell 0) (hst k hlt) (hst _ (by omega)) hlt (by omega) hn)
              rw [hcp] at ca
              have e2 : (p : Int) + 1 - 1 = (p : Int) := by omega
              have e3 : (0 : Int) < (p : Int) + 1 := by omega
              have e4 : (p : Int) < (mm : Int) + 1 := by omega
              have e5 : (p : Int) + 1 < (mm : Int) + 1 := by omega
              clear hst
              cases hab : aB 4 s k (L.getD p 0)
              · have HIN := Lib.hid (insK_step 4 s n k (p + 1) L (by omega) hlt HI.out hcb (by omega) (Or.inr (by rw [Nat.add_sub_cancel]; exact hab)) (by rw [HLM.out]; exact HA.out))
                have HGE := Lib.hid (gap_end L C (p + 1) k (by omega) HG.out)
                have HLN := Lib.hid (show (L.take (p + 1) ++ k :: L.drop (p + 1)).length = mm + 1 by have := HLM.out; simp only [List.length_append, List.length_cons, List.length_take, List.length_drop]; omega)
                rw [hab] at HAH
                clear hab hcp
                obtain ⟨y, hy⟩ : ∃ y, y = L.getD p 0 := ⟨_, rfl⟩
                rw [← hy] at HAH ca
                clear hy hyk
                go_wp2_with fail
                refine HAH.out.mono ?_
                rintro e w5 ⟨rfl, md, rfl⟩
                have HP := Lib.hid (own_put (w := wr.drewN md) (q := p + 1) (x := k) HW4.out)
                have HR5 := Lib.hid ((HR4.out.step (below_drewN (Below.refl _ _) md)).only HP.out.2 (fun b hb => by injection hb with hb; omega))
                go_wp2_with fail
                exact ⟨⟨k + 1, L.take (p + 1) ++ k :: L.drop (p + 1), by omega, by go_num, HR5.out, by rw [HLN.out, ← HGE.out]; exact HP.out.1, HIN.out⟩, by simp [intOf]; omega⟩
              · have HG2 := Lib.hid (gap_step L C p hpl HG.out)
                have HA2 := Lib.hid (show p = mm ∨ aB 4 s k (L.getD p 0) = true from Or.inr hab)
                rw [hcp] at HG2
                rw [hab] at HAH
                clear hab hcp
                obtain ⟨y, hy⟩ : ∃ y, y = L.getD p 0 := ⟨_, rfl⟩
                rw [← hy] at HAH ca HG2
                clear hy hyk
                go_wp2_with fail
                refine HAH.out.mono ?_
                rintro e w5 ⟨rfl, md, rfl⟩
                have HP := Lib.hid (own_put (w := wr.drewN md) (q := p + 1) (x := y) HW4.out)
                have HR5 := Lib.hid ((HR4.out.step (below_drewN (Below.refl _ _) md)).only HP.out.2 (fun b hb => by injection hb with hb; omega))
                go_wp2_with fail
                (go_roundg p; (case measure => omega); (case rel => exact ⟨p, _, by first | rfl | go_num, by omega, Nat.le_refl _, HP.out.1, HR5.out, HG2, HA2⟩))
        · have d2 : (s.K k != 5) = true := by simp [h5]
          have HIN := Lib.hid (insK_no 4 s n k L HI.out (by simp [carB, h4, h5]))
          have HO2 := Lib.hid (HO.out.step HBA.out)
          have HW2 := Lib.hid (HOwn.out.alloc (.cells (s.cells k) 124))
          unfold Steps.cells at HO2 HW2
          clear h4 h5
          go_wp2_with fail
          go_roundw
          case rel => exact ⟨k + 1, L, by omega, by go_num, HO2.out, HW2.out, HIN.out⟩
          case measure => simp [intOf]; omega
    · obtain rfl : k = n := by omega
      have hd : ¬ (k : Int) < (k : Int) := by omega
      obtain ⟨a3, cap3, hv3, hrow3⟩ := Row.of_own HOwn.out (intL_len _)
      have HRow := Lib.hid hrow3
      have hLn : L.length ≤ k := by rw [HI.out.1.length_eq]; exact carr_len s.K k
      rw [intL_len] at hv3
      have ck := HO.out.k.cell 0
      subst hv3
      clear hrow3
      go_wp2_with fail
      go_ret
      exact ⟨L, a3, cap3, ⟨HI.out.1, HI.out.2⟩, by rw [finL_id 4 seed _ (by omega) (by omega)]; rfl, by rw [finL_id 4 seed _ (by omega) (by omega)]; exact HRow.out, HO.out.b⟩

end Go.Proofs.Ytdfloglicjocbaa
