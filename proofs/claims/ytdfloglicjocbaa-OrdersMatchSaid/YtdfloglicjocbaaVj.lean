import Derived.Test.YtdfloglicjocbaaVi
set_option linter.unusedVariables false
set_option linter.unusedSimpArgs false
namespace Go.Proofs.Ytdfloglicjocbaa
open Go.RowKit Go.Sort

theorem exL_cells (L : List Nat) (i q : Nat) : (((intL L).map (Value.int .i64)).set i (.int .i64 ((L.getD q 0 : Nat) : Int))).set q (.int .i64 ((L.getD i 0 : Nat) : Int)) = (intL (exL L i q)).map (Value.int .i64) := by
  simp [exL, intL, List.map_set]
theorem own_cell {w : World} {base n g cap : Nat} {L : List Nat} (h : w.ownsRow base 3 1 (.slice (some ⟨g, 0, none⟩) n cap) n ((intL L).map (Value.int .i64))) (i : Nat) (hi : i < n) : w.cell? ⟨g, i, none⟩ = some (.int .i64 ((L.getD i 0 : Nat) : Int)) := by
  have hl : L.length = n := by have := h.1; simpa [intL] using this
  rw [h.cellAt i (by omega)]
  simp [intL, List.getElem?_eq_getElem (show i < L.length by omega)]
/-- behind an exchange. -/
theorem own_swap {w0 w : World} {B base n g cap go t : Nat} {cs : Array Value} {L : List Nat} (h : w.ownsRow base 3 1 (.slice (some ⟨g, 0, none⟩) n cap) n ((intL L).map (Value.int .i64))) (hg : base ≤ g) (hB : B ≤ g) (hgo : go ≠ g) (ho : Blk w go t cs) (hb : Below B w0 w) (i q : Nat) :
    ((w.setCell ⟨g, i, none⟩ (.int .i64 ((L.getD q 0 : Nat) : Int))).setCell ⟨g, q, none⟩ (.int .i64 ((L.getD i 0 : Nat) : Int))).drew.ownsRow base 3 1 (.slice (some ⟨g, 0, none⟩) n cap) n ((intL (exL L i q)).map (Value.int .i64)) ∧
    Blk ((w.setCell ⟨g, i, none⟩ (.int .i64 ((L.getD q 0 : Nat) : Int))).setCell ⟨g, q, none⟩ (.int .i64 ((L.getD i 0 : Nat) : Int))).drew go t cs ∧
    Below B w0 ((w.setCell ⟨g, i, none⟩ (.int .i64 ((L.getD q 0 : Nat) : Int))).setCell ⟨g, q, none⟩ (.int .i64 ((L.getD i 0 : Nat) : Int))).drew := by
  have h1 := (h.stored i (.int .i64 ((L.getD q 0 : Nat) : Int))).1
  have h2 := (h1.stored q (.int .i64 ((L.getD i 0 : Nat) : Int))).1
  rw [exL_cells] at h2
  refine ⟨h2, ?_, ((hb.setCell hB _).setCell hB _).drew⟩
  have e1 := Below.heap_setCell w ⟨g, i, none⟩ (.int .i64 ((L.getD q 0 : Nat) : Int)) go (fun e => hgo e)
  have e2 := Below.heap_setCell (w.setCell ⟨g, i, none⟩ (.int .i64 ((L.getD q 0 : Nat) : Int))) ⟨g, q, none⟩ (.int .i64 ((L.getD i 0 : Nat) : Int)) go (fun e => hgo e)
  exact (e2.trans e1).trans ho
theorem cell_two {w : World} {g i q : Nat} {u v : Value} (h : w.cell? ⟨g, q, none⟩ = some u) (hi : ∃ x, w.cell? ⟨g, i, none⟩ = some x) : ∃ x, (w.setCell ⟨g, i, none⟩ v).cell? ⟨g, q, none⟩ = some x := by
  obtain ⟨x, hx⟩ := hi
  by_cases e : i = q
  · subst e; exact ⟨v, World.cell?_setCell_same _ _ _ hx⟩
  · exact ⟨_, (World.cell?_setCell_other _ _ _ _ (by intro e'; simp only [Addr.mk.injEq] at e'; omega)).trans h⟩
theorem fin6 (seed : Int) (L : List Nat) : finL 6 seed L = shufL seed (L.length - 1) L := by unfold finL; rw [if_neg (by omega), if_pos rfl]
theorem fin5 (seed : Int) (L : List Nat) : finL 5 seed L = mixR L 0 L.length := by unfold finL; rw [if_pos rfl]

set_option maxHeartbeats 4000000 in
set_option maxRecDepth 1000000 in
theorem order62_6 (seed : Int) (la : Option Addr) (n lc : Nat) (s : Steps) (w : World) (hrow : StRow w w.heap.size la n s) (hn : n ≤ 20000) (hs0 : 0 ≤ seed) (hs1 : seed < 2147483648) :
    Calls Try.prog 62 #[.int .i64 6, .int .i64 seed, .slice la n lc] w (OrdPost 6 seed n s w) := by
  obtain ⟨i0, hi, hz0, hz1, hz2⟩ := info_parts int_info
  have HR := Lib.hid hrow
  have hO1 : Ord1 w la n lc [] (.slice none 0 0) ((w.alloc (.cells #[.slice la n lc] 76)).alloc (.cells #[.slice none 0 0] 26)) := by
    refine ⟨(Blk.new w 76 #[.slice la n lc]).below ((Below.refl _ _).alloc (Nat.le_refl _) _) (by simp), ?_, World.ownsRow_nil _ _ _ _, ((Below.refl _ _).alloc (Nat.le_refl _) _).alloc (by simp) _, fun _ => rfl⟩
    have h := Blk.new (w.alloc (.cells #[.slice la n lc] 76)) 26 #[.slice none 0 0]
    have e : (w.alloc (.cells #[.slice la n lc] 76)).heap.size = w.heap.size + 1 := by simp
    rwa [e] at h
  have HO1 := Lib.hid hO1
  clear hrow hO1
  go_enter Try.func62, Try.ntmps62
  go_wp2_with fail
  generalize (w.alloc (.cells #[.slice la n lc] 76)).alloc (.cells #[.slice none 0 0] 26) = w1 at *
  go_loopw [17] (fun iv wr => ∃ (k : Nat) (ov : Value), k ≤ n ∧ iv = .int .i64 k ∧ Ord1 w la n lc (carr s.K k) ov wr) (fun iv _ => n - (intOf iv).toNat)
  case atStart => exact ⟨0, _, by omega, rfl, HO1.out⟩
  case round =>
    clear HO1
    obtain ⟨k, ov, hk, rfl, ho⟩ := hrel
    have HO := Lib.hid ho
    have hsz := ho.b.size
    have hgl := ho.l.lt
    have hgo := ho.o.lt
    clear ho
    by_cases hlt : k < n
    · have hk1 : (k : Int) < (n : Int) := by omega
      obtain ⟨b, off, rfl, hbB, hc⟩ := (HR.out.below HO.out.b) k hlt
      have c0 := hc 0 (by omega)
      have c1 := hc 1 (by omega)
      have c2 := hc 2 (by omega)
      have c3 := hc 3 (by omega)
      have c4 := hc 4 (by omega)
      simp only [Steps.cells, Nat.add_zero] at c0 c1 c2 c3 c4
      have hbl : b < wr.heap.size := by omega
      have HBA := Lib.hid ((Below.refl wr.heap.size wr).alloc (Nat.le_refl _) (.cells (s.cells k) 124))
      have HC76 := Lib.hid (carries76 s k)
      unfold Steps.cells at HC76 HBA
      clear hc
      cases hcb : carB (s.K k)
      · have HCN := Lib.hid (carr_no s.K k hcb)
        rw [hcb] at HC76
        clear hcb
        go_wp2_with fail
        refine (HC76.out _).mono ?_
        rintro e w2 ⟨rfl, hb2⟩
        have HO2 := Lib.hid (HO.out.step (below_step HBA.out (Nat.le_refl _) hb2))
        clear hb2
        go_wp2_with fail
        go_roundw
        case rel => exact ⟨k + 1, ov, by omega, by go_num, by rw [HCN.out]; exact HO2.out⟩
        case measure => simp [intOf]; omega
      · have HCN := Lib.hid (carr_yes s.K k hcb)
        rw [hcb] at HC76
        clear hcb
        have hfl := carr_len s.K k
        go_wp2_with fail
        refine (HC76.out _).mono ?_
        rintro e w2 ⟨rfl, hb2⟩
        have HO2 := Lib.hid (HO.out.step (below_step HBA.out (Nat.le_refl _) hb2))
        have hoc := HO2.out.o.cell 0
        have hofr := HO2.out.o.frozen 0
        have hol := HO2.out.o.lt
        have hsz2 := HO2.out.b.size
        clear hb2
        go_wp2_with (at_builtin; refine wpList_append_own_at _ rfl (.tmp 24) (.tmp 26) 26 rfl (w.heap.size + 2) 3 i0 (.int .i64 0) 1 8 Try.underlying26 hi hz0 hz1 hz2 rfl (by decide) _ _ _ rfl (HO2.out.r.alloc _) ⟨w2.heap.size, 0, none⟩ 1 1 [.int .i64 (k : Int)] rfl rfl (cell_one_new _ _ _) (by simp [Value.oneCell']) (by unfold maxLen; omega) (by omega) (by simp; omega) ?_)
        intro v' w3 hown3 hg3 hnil3 hat3
        have hlb : ∀ b, ov.ownBlock = some b → w.heap.size + 2 ≤ b := fun b hb => (HO2.out.r.lt b hb).1
        have hne : ∀ g, g < w.heap.size + 2 → (none : Option Nat) = none := fun _ _ => rfl
        have HB3 := Lib.hid (((Below.refl w2.heap.size w2).alloc (Nat.le_refl _) (.cells #[.int .i64 (k : Int)] 3)))
        obtain ⟨a3, cap3, hv3, _⟩ := Row.of_own (own_more hown3) (by simp [intL])
        subst hv3
        have HN := Lib.hid (ord1_append HO2.out hown3 hg3 (by simpa using hat3))
        have hsz3 := HN.out.2.2.2
        have hoc3 := HN.out.2.2.1.cell 0
        have hofr3 := HN.out.2.2.1.frozen 0
        clear hown3 hg3 hnil3 hat3 hne hoc hofr
        go_wp2_with fail
        go_roundw
        case rel => exact ⟨k + 1, _, by omega, by go_num, by rw [HCN.out]; exact HN.out.2.1⟩
        case measure => simp [intOf]; omega
    · obtain rfl : k = n := by omega
      have hd : ¬ (k : Int) < (k : Int) := by omega
      by_cases hF : carr s.K k = []
      · have hz := HO.out.z hF
        subst hz
        have hoc := HO.out.o.cell 0
        have HSK := Lib.hid (show SortedK 6 s k [] from hF ▸ sortedK_plain 6 s k (Or.inr rfl))
        clear hF
        go_wp2_with fail
        go_loopw [1, 11] (fun sv iv wq => sv = .int .i64 seed ∧ iv = .int .i64 (-1) ∧ wq = wr) (fun _ _ _ => 0)
        case atStart => exact ⟨rfl, rfl, rfl⟩
        case round =>
          obtain ⟨rfl, rfl, rfl⟩ := hrel
          go_wp2_with fail
          go_ret
          exact ⟨[], none, 0, HSK.out, rfl, fun i hi => by simp [fin6, intL, shufL] at hi, HO.out.b⟩
      · obtain ⟨blk, cap, hv, hblk⟩ := own_blk HO.out.r hF
        subst hv
        have hN : 0 < (carr s.K k).length := List.length_pos_iff.2 hF
        have hNk := carr_len s.K k
        have HSK := Lib.hid (sortedK_plain 6 s k (Or.inr rfl))
        generalize hFF : carr s.K k = F at *
        clear hFF hF
        obtain ⟨N, hNN⟩ : ∃ N, F.length = N := ⟨_, rfl⟩
        have HR1 := Lib.hid (hNN ▸ HO.out.r)
        have HO1 := Lib.hid (hNN ▸ HO.out.o)
        have HB1 := Lib.hid HO.out.b
        rw [hNN] at hN hNk
        have hoc := HO1.out.cell 0
        have HNN := Lib.hid hNN
        clear hNN HO
        go_wp2_with fail
        go_loopw [1, 11] (fun sv iv wr => ∃ (i : Nat) (sd : Int) (L : List Nat), sv = .int .i64 sd ∧ iv = .int .i64 i ∧ i < N ∧ 0 ≤ sd ∧ sd < 2147483648 ∧ wr.ownsRow (w.heap.size + 2) 3 1 (.slice (some ⟨blk, 0, none⟩) N cap) N ((intL L).map (Value.int .i64)) ∧ Blk wr (w.heap.size + 1) 26 #[.slice (some ⟨blk, 0, none⟩) N cap] ∧ Below w.heap.size w wr ∧ Hid (shufL sd i L = shufL seed (N - 1) F)) (fun _ iv _ => (intOf iv).toNat)
        case atStart => exact ⟨N - 1, seed, F, rfl, by congr 1; omega, by omega, hs0, hs1, HR1.out, HO1.out, HB1.out, rfl⟩
        case round =>
          clear HR1 HO1 HB1 hoc
          obtain ⟨i, sd, L, rfl, rfl, hiN, hd0, hd1, hown, ho, hb, HS⟩ := hrel
          have HOwn := Lib.hid hown
          have HOo := Lib.hid ho
          have HBb := Lib.hid hb
          have hoc := ho.cell 0
          clear hown ho hb
          by_cases hi0 : 0 < i
          · have hiz : (0 : Int) < (i : Int) := by omega
            obtain ⟨bc1, bc2⟩ := chanceI_bd sd
            have HCH := Lib.hid (chance68 sd)
            obtain ⟨q, hq⟩ : ∃ q : Nat, q = (chanceI sd % ((i : Int) + 1)).toNat := ⟨_, rfl⟩
            have hm0 := Int.emod_nonneg (chanceI sd) (show (i : Int) + 1 ≠ 0 by omega)
            have hm1 := Int.emod_lt_of_pos (chanceI sd) (show 0 < (i : Int) + 1 by omega)
            have HS2 := Lib.hid (show shufL (chanceI sd) (i - 1) (exL L i q) = shufL seed (N - 1) F by
              rw [← HS.out]
              obtain ⟨p, rfl⟩ : ∃ p, i = p + 1 := ⟨i - 1, by omega⟩
              rw [shufL, hq]
              rw [show ((p + 1 : Nat) : Int) + 1 = (p : Int) + 2 by omega]
              rfl)
            have hqz : chanceI sd % ((i : Int) + 1) = (q : Int) := by omega
            have hqi : q ≤ i := by omega
            clear hq hm0 hm1
            generalize chanceI sd = sd' at *
            have ca := own_cell HOwn.out i hiN
            have cb := own_cell HOwn.out q (by omega)
            have fa := HOwn.out.frozenAt i
            have fb := HOwn.out.frozenAt q
            obtain ⟨x, hx⟩ : ∃ x, x = (((L.getD i 0 : Nat) : Nat) : Int) := ⟨_, rfl⟩
            obtain ⟨y, hy⟩ : ∃ y, y = (((L.getD q 0 : Nat) : Nat) : Int) := ⟨_, rfl⟩
            obtain ⟨u, cc⟩ := cell_two (v := .int .i64 y) cb ⟨_, ca⟩
            have HSW := Lib.hid (own_swap HOwn.out hblk (by omega) (by omega) HOo.out HBb.out i q)
            rw [← hx, ← hy] at HSW
            rw [← hx] at ca
            rw [← hy] at cb
            have k1 : (i : Int) < (N : Int) := by omega
            have k2 : (q : Int) < (N : Int) := by omega
            clear hx hy
            go_wp2_with (go_at_call 68; refine (HCH.out _ hd0 hd1).mono ?_; rintro e w' ⟨rfl, rfl⟩)
            go_big_region
            generalize ((wr.setCell ⟨blk, i, none⟩ (.int .i64 y)).setCell ⟨blk, q, none⟩ (.int .i64 x)).drew = w3 at HSW ⊢
            clear ca cb cc fa fb hoc
            go_wp2_with fail
            go_roundw
            case rel => exact ⟨i - 1, sd', _, rfl, by congr 1; omega, by omega, bc1, bc2, HSW.out.1, HSW.out.2.1, HSW.out.2.2, HS2⟩
            case measure => simp [intOf]; omega
          · obtain rfl : i = 0 := by omega
            have hiz : ¬ (0 : Int) < ((0 : Nat) : Int) := by omega
            have HSF := Lib.hid (show finL 6 seed F = L by rw [fin6, HNN.out, ← HS.out]; rfl)
            have hll : L.length = N := by have := HOwn.out.1; simpa [intL] using this
            obtain ⟨a3, cap3, hv3, hrow3⟩ := Row.of_own HOwn.out (by rw [intL_len]; exact hll)
            obtain ⟨rfl, rfl⟩ : a3 = some ⟨blk, 0, none⟩ ∧ cap3 = cap := by injection hv3 with e1 e2 e3; exact ⟨e1.symm, e3.symm⟩
            have HRow := Lib.hid hrow3
            have HLL := Lib.hid hll
            clear hrow3 hv3 hll
            go_wp2_with fail
            go_ret
            exact ⟨F, _, _, HSK.out, by rw [HSF.out, HLL.out]; rfl, by rw [HSF.out]; exact HRow.out, HBb.out⟩

end Go.Proofs.Ytdfloglicjocbaa
