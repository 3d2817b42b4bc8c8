import Derived.Test.YtdfloglicjocbaaVj
set_option linter.unusedVariables false
set_option linter.unusedSimpArgs false
namespace Go.Proofs.Ytdfloglicjocbaa
open Go.RowKit Go.Sort

theorem mixR_len (L : List Nat) (p r : Nat) : (mixR L p r).length = r := by
  induction r using Nat.strongRecOn generalizing p with
  | ind r ih =>
    match r with
    | 0 => rfl
    | 1 => rfl
    | r + 2 => rw [mixR, List.length_cons, List.length_cons, ih r (by omega)]
theorem mixR_one (L : List Nat) (p : Nat) : mixR L p 1 = [L.getD p 0] := rfl
theorem mixR_two (L : List Nat) (p m : Nat) (h : 0 < m) : mixR L p (m + 1) = L.getD p 0 :: L.getD (p + m) 0 :: mixR L (p + 1) (m - 1) := by
  obtain ⟨r, rfl⟩ : ∃ r, m = r + 1 := ⟨m - 1, by omega⟩
  rw [mixR, Nat.add_assoc]; rfl
/-- while the mixed order is made. -/
structure Mx (w2 : World) (go : Nat) (bv mv : Value) (M : List Nat) (wr : World) : Prop where
  g : w2.grownBy wr (some go)
  o : Blk wr go 26 #[bv]
  m : wr.ownsRow w2.heap.size 3 1 mv M.length ((intL M).map (Value.int .i64))
theorem Mx.app {w2 wr w3 : World} {go x : Nat} {bv mv v' : Value} {M : List Nat} (h : Mx w2 go bv mv M wr) (hgo : go < w2.heap.size)
    (hown : w3.ownsRow w2.heap.size 3 1 v' (M.length + 1) ((intL M).map (Value.int .i64) ++ [.int .i64 (x : Int)])) (hg : (wr.alloc (.cells #[.int .i64 (x : Int)] 3)).grownBy w3 mv.ownBlock) : Mx w2 go bv v' (M ++ [x]) w3 := by
  have h1 : Blk (wr.alloc (.cells #[.int .i64 (x : Int)] 3)) go 26 #[bv] := h.o.below ((Below.refl _ _).alloc (Nat.le_refl _) _) h.o.lt
  have hb : ∀ k, mv.ownBlock = some k → w2.heap.size ≤ k := fun k hk => (h.m.lt k hk).1
  have hne : mv.ownBlock ≠ some go := fun e => by have := hb go e; omega
  have hs := h.g.size
  refine ⟨⟨hg.os.trans h.g.os, hg.tape.trans h.g.tape, hg.output.trans h.g.output, by have := hg.size; simp at this; omega, fun k hk hkn => ?_⟩, blk_grown h1 hg hne, own_more hown⟩
  have hkr : k < wr.heap.size := by omega
  rw [hg.block k (by simp; omega) (fun e => by have := hb k e.symm; omega), (World.grownBy_alloc wr _ none).block k hkr (by simp)]
  exact h.g.block k hk hkn
theorem Mx.store {w2 wr : World} {go : Nat} {bv mv : Value} {M : List Nat} (h : Mx w2 go bv mv M wr) (hgo : go < w2.heap.size) (bv' : Value) : Mx w2 go bv' mv M (wr.setCell ⟨go, 0, none⟩ bv') :=
  ⟨only_set h.g 0 bv', h.o.set 0 bv', h.m.kept (only_set (only_refl _ _) 0 bv') (by
    cases e : mv.ownBlock with
    | none => exact .inl rfl
    | some b => exact .inr (fun e' => by have := (h.m.lt b e).1; injection e' with e'; omega))⟩
theorem Mx.cell {w2 wr : World} {go blk : Nat} {bv mv : Value} {M L : List Nat} (h : Mx w2 go bv mv M wr) (hrow : Row w2 w2.heap.size (some ⟨blk, 0, none⟩) (intL L)) (hne : blk ≠ go) (i : Nat) (hi : i < L.length) : wr.cell? ⟨blk, i, none⟩ = some (.int .i64 ((L.getD i 0 : Nat) : Int)) := by
  obtain ⟨b, off, e, hb, hc⟩ := hrow i (by rw [intL_len]; exact hi)
  cases e
  rw [cell_grown h.g ⟨blk, i, none⟩ hb hne]
  rw [Nat.zero_add] at hc
  rw [hc]
  simp [intL, List.getElem?_eq_getElem hi]

set_option maxHeartbeats 4000000 in
set_option maxRecDepth 1000000 in
theorem order62_5 (seed : Int) (la : Option Addr) (n lc : Nat) (s : Steps) (w : World) (hrow : StRow w w.heap.size la n s) (hn : n ≤ 20000) (hs0 : 0 ≤ seed) (hs1 : seed < 2147483648) :
    Calls Try.prog 62 #[.int .i64 5, .int .i64 seed, .slice la n lc] w (OrdPost 5 seed n s w) := by
  obtain ⟨i0, hi, hz0, hz1, hz2⟩ := info_parts int_info
  have HR := Lib.hid hrow
  have hO1 : Ord1 w la n lc [] (.slice none 0 0) ((w.alloc (.cells #[.slice la n lc] 76)).alloc (.cells #[.slice none 0 0] 26)) := by
    refine ⟨(Blk.new w 76 #[.slice la n lc]).below ((Below.refl _ _).alloc (Nat.le_refl _) _) (by simp), ?_, World.ownsRow_nil _ _ _ _, ((Below.refl _ _).alloc (Nat.le_refl _) _).alloc (by simp) _, fun _ => rfl⟩
    have h := Blk.new (w.alloc (.cells #[.slice la n lc] 76)) 26 #[.slice none 0 0]
    have e : (w.alloc (.cells #[.slice la n lc] 76)).heap.size = w.heap.size + 1 := by simp
    rwa [e] at h
  have HO1 := Lib.hid hO1
  clear hrow hO1
  go_enter Try.func62, Try.ntmps62
  go_wp2_with fail
  generalize (w.alloc (.cells #[.slice la n lc] 76)).alloc (.cells #[.slice none 0 0] 26) = w1 at *
  go_loopw [17] (fun iv wr => ∃ (k : Nat) (ov : Value), k ≤ n ∧ iv = .int .i64 k ∧ Ord1 w la n lc (carr s.K k) ov wr) (fun iv _ => n - (intOf iv).toNat)
  case atStart => exact ⟨0, _, by omega, rfl, HO1.out⟩
  case round =>
    clear HO1
    obtain ⟨k, ov, hk, rfl, ho⟩ := hrel
    have HO := Lib.hid ho
    have hsz := ho.b.size
    have hgl := ho.l.lt
    have hgo := ho.o.lt
    clear ho
    by_cases hlt : k < n
    · have hk1 : (k : Int) < (n : Int) := by omega
      obtain ⟨b, off, rfl, hbB, hc⟩ := (HR.out.below HO.out.b) k hlt
      have c0 := hc 0 (by omega)
      have c1 := hc 1 (by omega)
      have c2 := hc 2 (by omega)
      have c3 := hc 3 (by omega)
      have c4 := hc 4 (by omega)
      simp only [Steps.cells, Nat.add_zero] at c0 c1 c2 c3 c4
      have hbl : b < wr.heap.size := by omega
      have HBA := Lib.hid ((Below.refl wr.heap.size wr).alloc (Nat.le_refl _) (.cells (s.cells k) 124))
      have HC76 := Lib.hid (carries76 s k)
      unfold Steps.cells at HC76 HBA
      clear hc
      cases hcb : carB (s.K k)
      · have HCN := Lib.hid (carr_no s.K k hcb)
        rw [hcb] at HC76
        clear hcb
        go_wp2_with fail
        refine (HC76.out _).mono ?_
        rintro e w2 ⟨rfl, hb2⟩
        have HO2 := Lib.hid (HO.out.step (below_step HBA.out (Nat.le_refl _) hb2))
        clear hb2
        go_wp2_with fail
        go_roundw
        case rel => exact ⟨k + 1, ov, by omega, by go_num, by rw [HCN.out]; exact HO2.out⟩
        case measure => simp [intOf]; omega
      · have HCN := Lib.hid (carr_yes s.K k hcb)
        rw [hcb] at HC76
        clear hcb
        have hfl := carr_len s.K k
        go_wp2_with fail
        refine (HC76.out _).mono ?_
        rintro e w2 ⟨rfl, hb2⟩
        have HO2 := Lib.hid (HO.out.step (below_step HBA.out (Nat.le_refl _) hb2))
        have hoc := HO2.out.o.cell 0
        have hofr := HO2.out.o.frozen 0
        have hol := HO2.out.o.lt
        have hsz2 := HO2.out.b.size
        clear hb2
        go_wp2_with (at_builtin; refine wpList_append_own_at _ rfl (.tmp 24) (.tmp 26) 26 rfl (w.heap.size + 2) 3 i0 (.int .i64 0) 1 8 Try.underlying26 hi hz0 hz1 hz2 rfl (by decide) _ _ _ rfl (HO2.out.r.alloc _) ⟨w2.heap.size, 0, none⟩ 1 1 [.int .i64 (k : Int)] rfl rfl (cell_one_new _ _ _) (by simp [Value.oneCell']) (by unfold maxLen; omega) (by omega) (by simp; omega) ?_)
        intro v' w3 hown3 hg3 hnil3 hat3
        have hlb : ∀ b, ov.ownBlock = some b → w.heap.size + 2 ≤ b := fun b hb => (HO2.out.r.lt b hb).1
        have hne : ∀ g, g < w.heap.size + 2 → (none : Option Nat) = none := fun _ _ => rfl
        have HB3 := Lib.hid (((Below.refl w2.heap.size w2).alloc (Nat.le_refl _) (.cells #[.int .i64 (k : Int)] 3)))
        obtain ⟨a3, cap3, hv3, _⟩ := Row.of_own (own_more hown3) (by simp [intL])
        subst hv3
        have HN := Lib.hid (ord1_append HO2.out hown3 hg3 (by simpa using hat3))
        have hsz3 := HN.out.2.2.2
        have hoc3 := HN.out.2.2.1.cell 0
        have hofr3 := HN.out.2.2.1.frozen 0
        clear hown3 hg3 hnil3 hat3 hne hoc hofr
        go_wp2_with fail
        go_roundw
        case rel => exact ⟨k + 1, _, by omega, by go_num, by rw [HCN.out]; exact HN.out.2.1⟩
        case measure => simp [intOf]; omega
    · obtain rfl : k = n := by omega
      have hd : ¬ (k : Int) < (k : Int) := by omega
      by_cases hF : carr s.K k = []
      · have hz := HO.out.z hF
        subst hz
        have HBY := Lib.hid (byNil77 80 (w.heap.size + 1) w.heap.size wr (HO.out.o.cell 0))
        have HO2 := Lib.hid (HO.out.step ((Below.refl wr.heap.size wr).alloc (Nat.le_refl _) (.cells #[.func (.func 80) #[] #[]] 137)))
        have HSK := Lib.hid (show SortedK 5 s k [] from ⟨by rw [hF], List.Pairwise.nil⟩)
        have hoc := HO2.out.o.cell 0
        clear hF
        go_wp2_with fail
        refine HBY.out.mono ?_
        rintro e w2 ⟨rfl, rfl⟩
        go_wp2_with fail
        go_loopg [13] 0 (fun kx mv wq => mv = .slice none 0 0 ∧ wq = wr.alloc (.cells #[.func (.func 80) #[] #[]] 137))
        case atStart => exact ⟨rfl, rfl⟩
        case round =>
          obtain ⟨rfl, rfl⟩ := hrel
          go_wp2_with fail
          go_ret
          exact ⟨[], none, 0, HSK.out, rfl, fun i hi => by simp [fin5, intL, mixR] at hi, HO2.out.b⟩
      · obtain ⟨blk, cap, hv, hblk⟩ := own_blk HO.out.r hF
        subst hv
        have hn0 : 0 < k := by
          rcases Nat.eq_zero_or_pos k with e | e
          · exact absurd (by rw [e]; rfl) hF
          · exact e
        obtain ⟨lb, lo, rfl, hlb, hst⟩ := stRow_at (HR.out.below HO.out.b) hn0
        have HBY := Lib.hid (by77 80 s (cK 5 s) (keyK 5 s) (keyK_iff 5 s (by omega)) (cmp_5 s) (enters_of Try.func80 (by kernel_rfl) rfl) (w.heap.size + 1) w.heap.size lb lo k lc (w.heap.size + 2) blk cap (carr s.K k) wr hF (carr_lt s.K k) (carr_sorted s.K k) (carr_len s.K k) hn HO.out.r (HO.out.o.cell 0) (HO.out.l.cell 0) hgl (by omega) (by omega) (by omega) hst)
        have HF := Lib.hid hF
        clear hst hF
        go_wp2_with fail
        refine HBY.out.mono ?_
        rintro e w2 ⟨rfl, L, hperm, hso, hrw, hgr⟩
        have HSK := Lib.hid (show SortedK 5 s k L from ⟨hperm, hso⟩)
        have HRW := Lib.hid hrw
        have HOB := Lib.hid (blk_grown HO.out.o hgr (by intro e; injection e with e; omega))
        have HBB := Lib.hid (HO.out.b.grown hgr HO.out.b.size (fun q hq => by injection hq with hq; omega))
        have HLL := Lib.hid (show L.length = (carr s.K k).length from hperm.length_eq)
        have hoc := HOB.out.cell 0
        clear hperm hso hrw hgr
        have hM0 : Mx w2 (w.heap.size + 1) (.slice (some ⟨blk, 0, none⟩) (carr s.K k).length cap) (.slice none 0 0) [] w2 := ⟨only_refl _ _, HOB.out, World.ownsRow_nil _ _ _ _⟩
        have HM0 := Lib.hid hM0
        have hgo2 := HOB.out.lt
        have hcl : (carr s.K k).length ≤ cap := by
          rcases HO.out.r.2 with ⟨e, _⟩ | ⟨g, cp, cur, e, _, _, hcp, _⟩
          · cases e
          · injection e with e1 e2 e3; omega
        have hNk := carr_len s.K k
        rw [← HLL.out] at HM0 hcl hNk hoc
        have HLL2 := Lib.hid HLL.out.symm
        clear hM0 HOB
        go_wp2_with fail
        go_loopg [13] L.length (fun kx mv wr => ∃ (p r c' : Nat) (sa : Option Addr) (M : List Nat), r ≤ kx ∧ p + r ≤ L.length ∧ M.length + r = L.length ∧ r ≤ c' ∧ (0 < r → sa = some ⟨blk, p, none⟩) ∧ Mx w2 (w.heap.size + 1) (.slice sa r c') mv M wr ∧ Hid (M ++ mixR L p r = mixR L 0 L.length))
        case atStart => exact ⟨0, L.length, cap, some ⟨blk, 0, none⟩, [], Nat.le_refl _, by omega, by simp, hcl, fun _ => rfl, HM0.out, rfl⟩
        case round =>
          clear HM0 hoc hcl
          obtain ⟨p, r, c', sa, M, hkx, hpr, hMl, hrc, hsa, hm, HX⟩ := hrel
          have HM := Lib.hid hm
          have hoc := hm.o.cell 0
          have hofr := hm.o.frozen 0
          have hol := hm.o.lt
          have hszr := hm.g.size
          clear hm
          rcases Nat.eq_zero_or_pos r with rfl | hr0
          · have HE := Lib.hid (show finL 5 seed L = M by rw [fin5, ← HX.out]; simp [mixR])
            obtain ⟨a3, cap3, hv3, hrow3⟩ := Row.of_own HM.out.m (intL_len _)
            have HRow := Lib.hid hrow3
            subst hv3
            have HBE := Lib.hid (HBB.out.grown HM.out.g HBB.out.size (fun q hq => by injection hq with hq; omega))
            clear hrow3 hsa
            go_wp2_with fail
            go_ret
            exact ⟨L, a3, cap3, HSK.out, by rw [HE.out, ← intL_len M]; rfl, by rw [HE.out]; exact HRow.out, HBE.out⟩
          · obtain ⟨m, rfl⟩ : ∃ m, r = m + 1 := ⟨r - 1, by omega⟩
            have hsa' := hsa (by omega)
            subst hsa'
            clear hsa hr0
            have ca := HM.out.cell HRW.out (by omega) p (by omega)
            have cb := HM.out.cell HRW.out (by omega) (p + m) (by omega)
            obtain ⟨x, hx⟩ : ∃ x, x = L.getD p 0 := ⟨_, rfl⟩
            obtain ⟨y, hy⟩ : ∃ y, y = L.getD (p + m) 0 := ⟨_, rfl⟩
            rw [← hx] at ca
            rw [← hy] at cb
            have HXX := Lib.hid (And.intro hx hy)
            clear hx hy
            have e0 : (0 : Int) < (m : Int) + 1 := by omega
            have e1 : (m : Int) + 1 - 1 = (m : Int) := by omega
            go_wp2_with (at_builtin; refine wpList_append_own_at _ rfl (.tmp 79) (.tmp 83) 26 rfl w2.heap.size 3 i0 (.int .i64 0) 1 8 Try.underlying26 hi hz0 hz1 hz2 rfl (by decide) _ _ _ rfl (HM.out.m.alloc _) ⟨wr.heap.size, 0, none⟩ 1 1 [.int .i64 (x : Int)] rfl rfl (cell_one_new _ _ _) (by simp [Value.oneCell']) (by unfold maxLen; omega) (by omega) (by simp; omega) ?_)
            intro v' w3 hown3 hg3 _ _
            have HM3 := Lib.hid (HM.out.app (by omega) hown3 hg3)
            have hoc3 := HM3.out.o.cell 0
            have hofr3 := HM3.out.o.frozen 0
            have hol3 := HM3.out.o.lt
            have hsz3 := HM3.out.g.size
            have cb3 := HM3.out.cell HRW.out (by omega) (p + m) (by omega)
            rw [← HXX.out.2] at cb3
            clear hown3 hg3 hoc hofr ca cb HM
            by_cases hm0 : 0 < m
            · have hmz : (0 : Int) < (m : Int) := by omega
              have HX2 := Lib.hid (show (M ++ [x] ++ [y]) ++ mixR L (p + 1) (m - 1) = mixR L 0 L.length by rw [← HX.out, mixR_two L p m hm0, ← HXX.out.1, ← HXX.out.2]; simp)
              have hml : (M ++ [x]).length ≤ 20001 := by simp; omega
              have hcm : m ≤ c' := by omega
              have hc1 : 1 ≤ c' := by omega
              have hc2 : ¬ c' = 1 := by omega
              go_wp2_with (at_builtin; refine wpList_append_own_at _ rfl (.tmp 90) (.tmp 95) 26 rfl w2.heap.size 3 i0 (.int .i64 0) 1 8 Try.underlying26 hi hz0 hz1 hz2 rfl (by decide) _ _ _ rfl (HM3.out.m.alloc _) ⟨w3.heap.size, 0, none⟩ 1 1 [.int .i64 (y : Int)] rfl rfl (cell_one_new _ _ _) (by simp [Value.oneCell']) (by unfold maxLen; omega) (by omega) (by simp; omega) ?_)
              intro v4 w4 hown4 hg4 _ _
              have HM4 := Lib.hid (HM3.out.app (by omega) (by rw [show (M ++ [x]).length = M.length + 1 by simp]; exact hown4) hg4)
              have hoc4 := HM4.out.o.cell 0
              have hofr4 := HM4.out.o.frozen 0
              have hol4 := HM4.out.o.lt
              have HM5 := Lib.hid ((HM4.out.store (by omega) (.slice (some ⟨blk, p, none⟩) m c')).store (by omega) (.slice (some ⟨blk, p + 1, none⟩) (m - 1) (c' - 1)))
              clear hown4 hg4 hoc3 hofr3 cb3 HM3 hml
              go_wp2_with fail
              go_roundg (m - 1)
              case measure => omega
              case rel => exact ⟨p + 1, m - 1, c' - 1, _, M ++ [x] ++ [y], Nat.le_refl _, by omega, by simp; omega, by omega, fun _ => rfl, HM5.out, HX2⟩
            · obtain rfl : m = 0 := by omega
              have hmz : ¬ (0 : Int) < ((0 : Nat) : Int) := by omega
              have HX2 := Lib.hid (show (M ++ [x]) ++ mixR L (p + 1) 0 = mixR L 0 L.length by rw [← HX.out, mixR_one, ← HXX.out.1]; simp [mixR])
              go_wp2_with fail
              all_goals
                go_roundg 0
                case measure => omega
                case rel => exact ⟨p + 1, 0, _, _, M ++ [x], Nat.le_refl _, by omega, by simp; omega, by omega, fun h => by omega, HM3.out.store (by omega) _, HX2⟩

end Go.Proofs.Ytdfloglicjocbaa
