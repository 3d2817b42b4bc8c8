import Derived.Test.YtdfloglicjocbaaVh
import Derived.RegionTactic
import Derived.BigRegion
import Derived.Laws.OwnMore
import Derived.Maps.AppendAt
set_option linter.unusedVariables false
set_option linter.unusedSimpArgs false
namespace Go.Proofs.Ytdfloglicjocbaa
open Go.RowKit Go.Sort

theorem intL_append (a b : List Nat) : intL (a ++ b) = intL a ++ intL b := by simp [intL]
theorem own_more {w : World} {base : Nat} {v : Value} {F : List Nat} {x : Nat} (h : w.ownsRow base 3 1 v (F.length + 1) ((intL F).map (Value.int .i64) ++ [.int .i64 (x : Int)])) : w.ownsRow base 3 1 v (F ++ [x]).length ((intL (F ++ [x])).map (Value.int .i64)) := by
  rw [intL_append, List.map_append, List.length_append]
  exact h

theorem finL_id (kind seed : Int) (L : List Nat) (h5 : kind ≠ 5) (h6 : kind ≠ 6) : finL kind seed L = L := by unfold finL; rw [if_neg h5, if_neg h6]
theorem cmpI_neg (a b : Int) : cmpI a b < 0 ↔ a < b := by
  unfold cmpI
  by_cases h : a < b
  · rw [if_pos h]; omega
  · rw [if_neg h]; split <;> omega
def keyK (kind : Int) (s : Steps) (x : Nat) : Int := if kind = 2 ∨ kind = 5 then s.S x else if kind = 3 then - s.S x else - s.T x
theorem keyK_iff (kind : Int) (s : Steps) (h : kind = 2 ∨ kind = 3 ∨ kind = 4 ∨ kind = 5) (x y : Nat) : cK kind s x y < 0 ↔ keyK kind s x < keyK kind s y := by
  unfold cK keyK
  rcases h with rfl | rfl | rfl | rfl
  · simp only [if_true, true_or]; exact cmpI_neg _ _
  · rw [if_neg (by omega), if_pos rfl, if_neg (by omega), if_pos rfl, if_neg (by omega), if_pos rfl, cmpI_neg]; omega
  · rw [if_neg (by omega), if_neg (by omega), if_pos rfl, if_neg (by omega), if_neg (by omega), if_neg (by omega), if_neg (by omega), cmpI_neg]; omega
  · simp only [if_true, or_true]; exact cmpI_neg _ _
theorem cmp_2 (s : Steps) : CmpSteps 80 s (cK 2 s) := small80 s
theorem cmp_5 (s : Steps) : CmpSteps 80 s (cK 5 s) := small80 s
theorem cmp_3 (s : Steps) : CmpSteps 82 s (cK 3 s) := large82 s
theorem cmp_4 (s : Steps) : CmpSteps 83 s (cK 4 s) := newest83 s
theorem stRow_at {w : World} {B n : Nat} {a : Option Addr} {s : Steps} (h : StRow w B a n s) (hn : 0 < n) : ∃ lb lo, a = some ⟨lb, lo, none⟩ ∧ lb < B ∧ ∀ x, x < n → ∀ c, c < 5 → w.cell? ⟨lb, lo + x * 5 + c, none⟩ = (s.cells x)[c]? := by
  obtain ⟨lb, lo, rfl, hlb, _⟩ := h 0 hn
  refine ⟨lb, lo, rfl, hlb, fun x hx c hc => ?_⟩
  obtain ⟨b', o', e, _, hcc⟩ := h x hx
  cases e
  exact hcc c hc
/-- the row that has been collected, in its block. -/
theorem own_blk {w : World} {base : Nat} {ov : Value} {F : List Nat} (h : w.ownsRow base 3 1 ov F.length ((intL F).map (Value.int .i64))) (hF : F ≠ []) : ∃ blk cap, ov = .slice (some ⟨blk, 0, none⟩) F.length cap ∧ base ≤ blk := by
  rcases h.2 with ⟨_, h0⟩ | ⟨g, cap, cur, e, hb, _⟩
  · exact absurd (List.eq_nil_of_length_eq_zero h0) hF
  · exact ⟨g, cap, e, hb⟩

set_option maxHeartbeats 4000000 in
set_option maxRecDepth 1000000 in
theorem order62_1 (seed : Int) (la : Option Addr) (n lc : Nat) (s : Steps) (w : World) (hrow : StRow w w.heap.size la n s) (hn : n ≤ 20000) (hs0 : 0 ≤ seed) (hs1 : seed < 2147483648) :
    Calls Try.prog 62 #[.int .i64 1, .int .i64 seed, .slice la n lc] w (OrdPost 1 seed n s w) := by
  obtain ⟨i0, hi, hz0, hz1, hz2⟩ := info_parts int_info
  have HR := Lib.hid hrow
  have hO1 : Ord1 w la n lc [] (.slice none 0 0) ((w.alloc (.cells #[.slice la n lc] 76)).alloc (.cells #[.slice none 0 0] 26)) := by
    refine ⟨(Blk.new w 76 #[.slice la n lc]).below ((Below.refl _ _).alloc (Nat.le_refl _) _) (by simp), ?_, World.ownsRow_nil _ _ _ _, ((Below.refl _ _).alloc (Nat.le_refl _) _).alloc (by simp) _, fun _ => rfl⟩
    have h := Blk.new (w.alloc (.cells #[.slice la n lc] 76)) 26 #[.slice none 0 0]
    have e : (w.alloc (.cells #[.slice la n lc] 76)).heap.size = w.heap.size + 1 := by simp
    rwa [e] at h
  have HO1 := Lib.hid hO1
  clear hrow hO1
  go_enter Try.func62, Try.ntmps62
  go_wp2_with fail
  generalize (w.alloc (.cells #[.slice la n lc] 76)).alloc (.cells #[.slice none 0 0] 26) = w1 at *
  go_loopw [17] (fun iv wr => ∃ (k : Nat) (ov : Value), k ≤ n ∧ iv = .int .i64 k ∧ Ord1 w la n lc (carr s.K k) ov wr) (fun iv _ => n - (intOf iv).toNat)
  case atStart => exact ⟨0, _, by omega, rfl, HO1.out⟩
  case round =>
    clear HO1
    obtain ⟨k, ov, hk, rfl, ho⟩ := hrel
    have HO := Lib.hid ho
    have hsz := ho.b.size
    have hgl := ho.l.lt
    have hgo := ho.o.lt
    clear ho
    by_cases hlt : k < n
    · have hk1 : (k : Int) < (n : Int) := by omega
      obtain ⟨b, off, rfl, hbB, hc⟩ := (HR.out.below HO.out.b) k hlt
      have c0 := hc 0 (by omega)
      have c1 := hc 1 (by omega)
      have c2 := hc 2 (by omega)
      have c3 := hc 3 (by omega)
      have c4 := hc 4 (by omega)
      simp only [Steps.cells, Nat.add_zero] at c0 c1 c2 c3 c4
      have hbl : b < wr.heap.size := by omega
      have HBA := Lib.hid ((Below.refl wr.heap.size wr).alloc (Nat.le_refl _) (.cells (s.cells k) 124))
      have HC76 := Lib.hid (carries76 s k)
      unfold Steps.cells at HC76 HBA
      clear hc
      cases hcb : carB (s.K k)
      · have HCN := Lib.hid (carr_no s.K k hcb)
        rw [hcb] at HC76
        clear hcb
        go_wp2_with fail
        refine (HC76.out _).mono ?_
        rintro e w2 ⟨rfl, hb2⟩
        have HO2 := Lib.hid (HO.out.step (below_step HBA.out (Nat.le_refl _) hb2))
        clear hb2
        go_wp2_with fail
        go_roundw
        case rel => exact ⟨k + 1, ov, by omega, by go_num, by rw [HCN.out]; exact HO2.out⟩
        case measure => simp [intOf]; omega
      · have HCN := Lib.hid (carr_yes s.K k hcb)
        rw [hcb] at HC76
        clear hcb
        have hfl := carr_len s.K k
        go_wp2_with fail
        refine (HC76.out _).mono ?_
        rintro e w2 ⟨rfl, hb2⟩
        have HO2 := Lib.hid (HO.out.step (below_step HBA.out (Nat.le_refl _) hb2))
        have hoc := HO2.out.o.cell 0
        have hofr := HO2.out.o.frozen 0
        have hol := HO2.out.o.lt
        have hsz2 := HO2.out.b.size
        clear hb2
        go_wp2_with (at_builtin; refine wpList_append_own_at _ rfl (.tmp 24) (.tmp 26) 26 rfl (w.heap.size + 2) 3 i0 (.int .i64 0) 1 8 Try.underlying26 hi hz0 hz1 hz2 rfl (by decide) _ _ _ rfl (HO2.out.r.alloc _) ⟨w2.heap.size, 0, none⟩ 1 1 [.int .i64 (k : Int)] rfl rfl (cell_one_new _ _ _) (by simp [Value.oneCell']) (by unfold maxLen; omega) (by omega) (by simp; omega) ?_)
        intro v' w3 hown3 hg3 hnil3 hat3
        have hlb : ∀ b, ov.ownBlock = some b → w.heap.size + 2 ≤ b := fun b hb => (HO2.out.r.lt b hb).1
        have hne : ∀ g, g < w.heap.size + 2 → (none : Option Nat) = none := fun _ _ => rfl
        have HB3 := Lib.hid (((Below.refl w2.heap.size w2).alloc (Nat.le_refl _) (.cells #[.int .i64 (k : Int)] 3)))
        obtain ⟨a3, cap3, hv3, _⟩ := Row.of_own (own_more hown3) (by simp [intL])
        subst hv3
        have HN := Lib.hid (ord1_append HO2.out hown3 hg3 (by simpa using hat3))
        have hsz3 := HN.out.2.2.2
        have hoc3 := HN.out.2.2.1.cell 0
        have hofr3 := HN.out.2.2.1.frozen 0
        clear hown3 hg3 hnil3 hat3 hne hoc hofr
        go_wp2_with fail
        go_roundw
        case rel => exact ⟨k + 1, _, by omega, by go_num, by rw [HCN.out]; exact HN.out.2.1⟩
        case measure => simp [intOf]; omega
    · obtain rfl : k = n := by omega
      have hd : ¬ (k : Int) < (k : Int) := by omega
      obtain ⟨a3, cap3, hv, hrow⟩ := Row.of_own HO.out.r (intL_len _)
      have HRow := Lib.hid hrow
      subst hv
      have hoc := HO.out.o.cell 0
      clear hrow
      go_wp2_with fail
      go_ret
      exact ⟨carr s.K k, a3, cap3, sortedK_plain 1 s k (Or.inl rfl), by rw [finL_id 1 seed _ (by omega) (by omega), ← intL_len (carr s.K k)]; rfl, by rw [finL_id 1 seed _ (by omega) (by omega)]; exact HRow.out, HO.out.b⟩

set_option maxHeartbeats 4000000 in
set_option maxRecDepth 1000000 in
theorem order62_2 (seed : Int) (la : Option Addr) (n lc : Nat) (s : Steps) (w : World) (hrow : StRow w w.heap.size la n s) (hn : n ≤ 20000) (hs0 : 0 ≤ seed) (hs1 : seed < 2147483648) :
    Calls Try.prog 62 #[.int .i64 2, .int .i64 seed, .slice la n lc] w (OrdPost 2 seed n s w) := by
  obtain ⟨i0, hi, hz0, hz1, hz2⟩ := info_parts int_info
  have HR := Lib.hid hrow
  have hO1 : Ord1 w la n lc [] (.slice none 0 0) ((w.alloc (.cells #[.slice la n lc] 76)).alloc (.cells #[.slice none 0 0] 26)) := by
    refine ⟨(Blk.new w 76 #[.slice la n lc]).below ((Below.refl _ _).alloc (Nat.le_refl _) _) (by simp), ?_, World.ownsRow_nil _ _ _ _, ((Below.refl _ _).alloc (Nat.le_refl _) _).alloc (by simp) _, fun _ => rfl⟩
    have h := Blk.new (w.alloc (.cells #[.slice la n lc] 76)) 26 #[.slice none 0 0]
    have e : (w.alloc (.cells #[.slice la n lc] 76)).heap.size = w.heap.size + 1 := by simp
    rwa [e] at h
  have HO1 := Lib.hid hO1
  clear hrow hO1
  go_enter Try.func62, Try.ntmps62
  go_wp2_with fail
  generalize (w.alloc (.cells #[.slice la n lc] 76)).alloc (.cells #[.slice none 0 0] 26) = w1 at *
  go_loopw [17] (fun iv wr => ∃ (k : Nat) (ov : Value), k ≤ n ∧ iv = .int .i64 k ∧ Ord1 w la n lc (carr s.K k) ov wr) (fun iv _ => n - (intOf iv).toNat)
  case atStart => exact ⟨0, _, by omega, rfl, HO1.out⟩
  case round =>
    clear HO1
    obtain ⟨k, ov, hk, rfl, ho⟩ := hrel
    have HO := Lib.hid ho
    have hsz := ho.b.size
    have hgl := ho.l.lt
    have hgo := ho.o.lt
    clear ho
    by_cases hlt : k < n
    · have hk1 : (k : Int) < (n : Int) := by omega
      obtain ⟨b, off, rfl, hbB, hc⟩ := (HR.out.below HO.out.b) k hlt
      have c0 := hc 0 (by omega)
      have c1 := hc 1 (by omega)
      have c2 := hc 2 (by omega)
      have c3 := hc 3 (by omega)
      have c4 := hc 4 (by omega)
      simp only [Steps.cells, Nat.add_zero] at c0 c1 c2 c3 c4
      have hbl : b < wr.heap.size := by omega
      have HBA := Lib.hid ((Below.refl wr.heap.size wr).alloc (Nat.le_refl _) (.cells (s.cells k) 124))
      have HC76 := Lib.hid (carries76 s k)
      unfold Steps.cells at HC76 HBA
      clear hc
      cases hcb : carB (s.K k)
      · have HCN := Lib.hid (carr_no s.K k hcb)
        rw [hcb] at HC76
        clear hcb
        go_wp2_with fail
        refine (HC76.out _).mono ?_
        rintro e w2 ⟨rfl, hb2⟩
        have HO2 := Lib.hid (HO.out.step (below_step HBA.out (Nat.le_refl _) hb2))
        clear hb2
        go_wp2_with fail
        go_roundw
        case rel => exact ⟨k + 1, ov, by omega, by go_num, by rw [HCN.out]; exact HO2.out⟩
        case measure => simp [intOf]; omega
      · have HCN := Lib.hid (carr_yes s.K k hcb)
        rw [hcb] at HC76
        clear hcb
        have hfl := carr_len s.K k
        go_wp2_with fail
        refine (HC76.out _).mono ?_
        rintro e w2 ⟨rfl, hb2⟩
        have HO2 := Lib.hid (HO.out.step (below_step HBA.out (Nat.le_refl _) hb2))
        have hoc := HO2.out.o.cell 0
        have hofr := HO2.out.o.frozen 0
        have hol := HO2.out.o.lt
        have hsz2 := HO2.out.b.size
        clear hb2
        go_wp2_with (at_builtin; refine wpList_append_own_at _ rfl (.tmp 24) (.tmp 26) 26 rfl (w.heap.size + 2) 3 i0 (.int .i64 0) 1 8 Try.underlying26 hi hz0 hz1 hz2 rfl (by decide) _ _ _ rfl (HO2.out.r.alloc _) ⟨w2.heap.size, 0, none⟩ 1 1 [.int .i64 (k : Int)] rfl rfl (cell_one_new _ _ _) (by simp [Value.oneCell']) (by unfold maxLen; omega) (by omega) (by simp; omega) ?_)
        intro v' w3 hown3 hg3 hnil3 hat3
        have hlb : ∀ b, ov.ownBlock = some b → w.heap.size + 2 ≤ b := fun b hb => (HO2.out.r.lt b hb).1
        have hne : ∀ g, g < w.heap.size + 2 → (none : Option Nat) = none := fun _ _ => rfl
        have HB3 := Lib.hid (((Below.refl w2.heap.size w2).alloc (Nat.le_refl _) (.cells #[.int .i64 (k : Int)] 3)))
        obtain ⟨a3, cap3, hv3, _⟩ := Row.of_own (own_more hown3) (by simp [intL])
        subst hv3
        have HN := Lib.hid (ord1_append HO2.out hown3 hg3 (by simpa using hat3))
        have hsz3 := HN.out.2.2.2
        have hoc3 := HN.out.2.2.1.cell 0
        have hofr3 := HN.out.2.2.1.frozen 0
        clear hown3 hg3 hnil3 hat3 hne hoc hofr
        go_wp2_with fail
        go_roundw
        case rel => exact ⟨k + 1, _, by omega, by go_num, by rw [HCN.out]; exact HN.out.2.1⟩
        case measure => simp [intOf]; omega
    · obtain rfl : k = n := by omega
      have hd : ¬ (k : Int) < (k : Int) := by omega
      by_cases hF : carr s.K k = []
      · have hz := HO.out.z hF
        subst hz
        have HBY := Lib.hid (byNil77 80 (w.heap.size + 1) w.heap.size wr (HO.out.o.cell 0))
        have HO2 := Lib.hid (HO.out.step ((Below.refl wr.heap.size wr).alloc (Nat.le_refl _) (.cells #[.func (.func 80) #[] #[]] 137)))
        have HSK := Lib.hid (show SortedK 2 s k [] from ⟨by rw [hF], List.Pairwise.nil⟩)
        have hoc := HO2.out.o.cell 0
        clear hF
        go_wp2_with fail
        refine HBY.out.mono ?_
        rintro e w2 ⟨rfl, rfl⟩
        go_wp2_with fail
        go_ret
        exact ⟨[], none, 0, HSK.out, rfl, fun i hi => by rw [finL_id 2 seed _ (by omega) (by omega)] at hi; simp [intL] at hi, HO2.out.b⟩
      · obtain ⟨blk, cap, hv, hblk⟩ := own_blk HO.out.r hF
        subst hv
        have hn0 : 0 < k := by
          rcases Nat.eq_zero_or_pos k with e | e
          · exact absurd (by rw [e]; rfl) hF
          · exact e
        obtain ⟨lb, lo, rfl, hlb, hst⟩ := stRow_at (HR.out.below HO.out.b) hn0
        have HBY := Lib.hid (by77 80 s (cK 2 s) (keyK 2 s) (keyK_iff 2 s (by omega)) (cmp_2 s) (enters_of Try.func80 (by kernel_rfl) rfl) (w.heap.size + 1) w.heap.size lb lo k lc (w.heap.size + 2) blk cap (carr s.K k) wr hF (carr_lt s.K k) (carr_sorted s.K k) (carr_len s.K k) hn HO.out.r (HO.out.o.cell 0) (HO.out.l.cell 0) hgl (by omega) (by omega) (by omega) hst)
        have HF := Lib.hid hF
        clear hst hF
        go_wp2_with fail
        refine HBY.out.mono ?_
        rintro e w2 ⟨rfl, L, hperm, hso, hrw, hgr⟩
        have HSK := Lib.hid (show SortedK 2 s k L from ⟨hperm, hso⟩)
        have HRW := Lib.hid hrw
        have HOB := Lib.hid (blk_grown HO.out.o hgr (by intro e; injection e with e; omega))
        have HBB := Lib.hid (HO.out.b.grown hgr HO.out.b.size (fun q hq => by injection hq with hq; omega))
        have HLL := Lib.hid (show L.length = (carr s.K k).length from hperm.length_eq)
        have hoc := HOB.out.cell 0
        clear hperm hso hrw hgr
        go_wp2_with fail
        go_ret
        exact ⟨L, _, cap, HSK.out, by rw [finL_id 2 seed _ (by omega) (by omega), HLL.out]; rfl, by rw [finL_id 2 seed _ (by omega) (by omega)]; exact HRW.out, HBB.out⟩

set_option maxHeartbeats 4000000 in
set_option maxRecDepth 1000000 in
theorem order62_3 (seed : Int) (la : Option Addr) (n lc : Nat) (s : Steps) (w : World) (hrow : StRow w w.heap.size la n s) (hn : n ≤ 20000) (hs0 : 0 ≤ seed) (hs1 : seed < 2147483648) :
    Calls Try.prog 62 #[.int .i64 3, .int .i64 seed, .slice la n lc] w (OrdPost 3 seed n s w) := by
  obtain ⟨i0, hi, hz0, hz1, hz2⟩ := info_parts int_info
  have HR := Lib.hid hrow
  have hO1 : Ord1 w la n lc [] (.slice none 0 0) ((w.alloc (.cells #[.slice la n lc] 76)).alloc (.cells #[.slice none 0 0] 26)) := by
    refine ⟨(Blk.new w 76 #[.slice la n lc]).below ((Below.refl _ _).alloc (Nat.le_refl _) _) (by simp), ?_, World.ownsRow_nil _ _ _ _, ((Below.refl _ _).alloc (Nat.le_refl _) _).alloc (by simp) _, fun _ => rfl⟩
    have h := Blk.new (w.alloc (.cells #[.slice la n lc] 76)) 26 #[.slice none 0 0]
    have e : (w.alloc (.cells #[.slice la n lc] 76)).heap.size = w.heap.size + 1 := by simp
    rwa [e] at h
  have HO1 := Lib.hid hO1
  clear hrow hO1
  go_enter Try.func62, Try.ntmps62
  go_wp2_with fail
  generalize (w.alloc (.cells #[.slice la n lc] 76)).alloc (.cells #[.slice none 0 0] 26) = w1 at *
  go_loopw [17] (fun iv wr => ∃ (k : Nat) (ov : Value), k ≤ n ∧ iv = .int .i64 k ∧ Ord1 w la n lc (carr s.K k) ov wr) (fun iv _ => n - (intOf iv).toNat)
  case atStart => exact ⟨0, _, by omega, rfl, HO1.out⟩
  case round =>
    clear HO1
    obtain ⟨k, ov, hk, rfl, ho⟩ := hrel
    have HO := Lib.hid ho
    have hsz := ho.b.size
    have hgl := ho.l.lt
    have hgo := ho.o.lt
    clear ho
    by_cases hlt : k < n
    · have hk1 : (k : Int) < (n : Int) := by omega
      obtain ⟨b, off, rfl, hbB, hc⟩ := (HR.out.below HO.out.b) k hlt
      have c0 := hc 0 (by omega)
      have c1 := hc 1 (by omega)
      have c2 := hc 2 (by omega)
      have c3 := hc 3 (by omega)
      have c4 := hc 4 (by omega)
      simp only [Steps.cells, Nat.add_zero] at c0 c1 c2 c3 c4
      have hbl : b < wr.heap.size := by omega
      have HBA := Lib.hid ((Below.refl wr.heap.size wr).alloc (Nat.le_refl _) (.cells (s.cells k) 124))
      have HC76 := Lib.hid (carries76 s k)
      unfold Steps.cells at HC76 HBA
      clear hc
      cases hcb : carB (s.K k)
      · have HCN := Lib.hid (carr_no s.K k hcb)
        rw [hcb] at HC76
        clear hcb
        go_wp2_with fail
        refine (HC76.out _).mono ?_
        rintro e w2 ⟨rfl, hb2⟩
        have HO2 := Lib.hid (HO.out.step (below_step HBA.out (Nat.le_refl _) hb2))
        clear hb2
        go_wp2_with fail
        go_roundw
        case rel => exact ⟨k + 1, ov, by omega, by go_num, by rw [HCN.out]; exact HO2.out⟩
        case measure => simp [intOf]; omega
      · have HCN := Lib.hid (carr_yes s.K k hcb)
        rw [hcb] at HC76
        clear hcb
        have hfl := carr_len s.K k
        go_wp2_with fail
        refine (HC76.out _).mono ?_
        rintro e w2 ⟨rfl, hb2⟩
        have HO2 := Lib.hid (HO.out.step (below_step HBA.out (Nat.le_refl _) hb2))
        have hoc := HO2.out.o.cell 0
        have hofr := HO2.out.o.frozen 0
        have hol := HO2.out.o.lt
        have hsz2 := HO2.out.b.size
        clear hb2
        go_wp2_with (at_builtin; refine wpList_append_own_at _ rfl (.tmp 24) (.tmp 26) 26 rfl (w.heap.size + 2) 3 i0 (.int .i64 0) 1 8 Try.underlying26 hi hz0 hz1 hz2 rfl (by decide) _ _ _ rfl (HO2.out.r.alloc _) ⟨w2.heap.size, 0, none⟩ 1 1 [.int .i64 (k : Int)] rfl rfl (cell_one_new _ _ _) (by simp [Value.oneCell']) (by unfold maxLen; omega) (by omega) (by simp; omega) ?_)
        intro v' w3 hown3 hg3 hnil3 hat3
        have hlb : ∀ b, ov.ownBlock = some b → w.heap.size + 2 ≤ b := fun b hb => (HO2.out.r.lt b hb).1
        have hne : ∀ g, g < w.heap.size + 2 → (none : Option Nat) = none := fun _ _ => rfl
        have HB3 := Lib.hid (((Below.refl w2.heap.size w2).alloc (Nat.le_refl _) (.cells #[.int .i64 (k : Int)] 3)))
        obtain ⟨a3, cap3, hv3, _⟩ := Row.of_own (own_more hown3) (by simp [intL])
        subst hv3
        have HN := Lib.hid (ord1_append HO2.out hown3 hg3 (by simpa using hat3))
        have hsz3 := HN.out.2.2.2
        have hoc3 := HN.out.2.2.1.cell 0
        have hofr3 := HN.out.2.2.1.frozen 0
        clear hown3 hg3 hnil3 hat3 hne hoc hofr
        go_wp2_with fail
        go_roundw
        case rel => exact ⟨k + 1, _, by omega, by go_num, by rw [HCN.out]; exact HN.out.2.1⟩
        case measure => simp [intOf]; omega
    · obtain rfl : k = n := by omega
      have hd : ¬ (k : Int) < (k : Int) := by omega
      by_cases hF : carr s.K k = []
      · have hz := HO.out.z hF
        subst hz
        have HBY := Lib.hid (byNil77 82 (w.heap.size + 1) w.heap.size wr (HO.out.o.cell 0))
        have HO2 := Lib.hid (HO.out.step ((Below.refl wr.heap.size wr).alloc (Nat.le_refl _) (.cells #[.func (.func 82) #[] #[]] 137)))
        have HSK := Lib.hid (show SortedK 3 s k [] from ⟨by rw [hF], List.Pairwise.nil⟩)
        have hoc := HO2.out.o.cell 0
        clear hF
        go_wp2_with fail
        refine HBY.out.mono ?_
        rintro e w2 ⟨rfl, rfl⟩
        go_wp2_with fail
        go_ret
        exact ⟨[], none, 0, HSK.out, rfl, fun i hi => by rw [finL_id 3 seed _ (by omega) (by omega)] at hi; simp [intL] at hi, HO2.out.b⟩
      · obtain ⟨blk, cap, hv, hblk⟩ := own_blk HO.out.r hF
        subst hv
        have hn0 : 0 < k := by
          rcases Nat.eq_zero_or_pos k with e | e
          · exact absurd (by rw [e]; rfl) hF
          · exact e
        obtain ⟨lb, lo, rfl, hlb, hst⟩ := stRow_at (HR.out.below HO.out.b) hn0
        have HBY := Lib.hid (by77 82 s (cK 3 s) (keyK 3 s) (keyK_iff 3 s (by omega)) (cmp_3 s) (enters_of Try.func82 (by kernel_rfl) rfl) (w.heap.size + 1) w.heap.size lb lo k lc (w.heap.size + 2) blk cap (carr s.K k) wr hF (carr_lt s.K k) (carr_sorted s.K k) (carr_len s.K k) hn HO.out.r (HO.out.o.cell 0) (HO.out.l.cell 0) hgl (by omega) (by omega) (by omega) hst)
        have HF := Lib.hid hF
        clear hst hF
        go_wp2_with fail
        refine HBY.out.mono ?_
        rintro e w2 ⟨rfl, L, hperm, hso, hrw, hgr⟩
        have HSK := Lib.hid (show SortedK 3 s k L from ⟨hperm, hso⟩)
        have HRW := Lib.hid hrw
        have HOB := Lib.hid (blk_grown HO.out.o hgr (by intro e; injection e with e; omega))
        have HBB := Lib.hid (HO.out.b.grown hgr HO.out.b.size (fun q hq => by injection hq with hq; omega))
        have HLL := Lib.hid (show L.length = (carr s.K k).length from hperm.length_eq)
        have hoc := HOB.out.cell 0
        clear hperm hso hrw hgr
        go_wp2_with fail
        go_ret
        exact ⟨L, _, cap, HSK.out, by rw [finL_id 3 seed _ (by omega) (by omega), HLL.out]; rfl, by rw [finL_id 3 seed _ (by omega) (by omega)]; exact HRW.out, HBB.out⟩

set_option maxHeartbeats 4000000 in
set_option maxRecDepth 1000000 in
theorem order62_4 (seed : Int) (la : Option Addr) (n lc : Nat) (s : Steps) (w : World) (hrow : StRow w w.heap.size la n s) (hn : n ≤ 20000) (hs0 : 0 ≤ seed) (hs1 : seed < 2147483648) :
    Calls Try.prog 62 #[.int .i64 4, .int .i64 seed, .slice la n lc] w (OrdPost 4 seed n s w) := by
  obtain ⟨i0, hi, hz0, hz1, hz2⟩ := info_parts int_info
  have HR := Lib.hid hrow
  have hO1 : Ord1 w la n lc [] (.slice none 0 0) ((w.alloc (.cells #[.slice la n lc] 76)).alloc (.cells #[.slice none 0 0] 26)) := by
    refine ⟨(Blk.new w 76 #[.slice la n lc]).below ((Below.refl _ _).alloc (Nat.le_refl _) _) (by simp), ?_, World.ownsRow_nil _ _ _ _, ((Below.refl _ _).alloc (Nat.le_refl _) _).alloc (by simp) _, fun _ => rfl⟩
    have h := Blk.new (w.alloc (.cells #[.slice la n lc] 76)) 26 #[.slice none 0 0]
    have e : (w.alloc (.cells #[.slice la n lc] 76)).heap.size = w.heap.size + 1 := by simp
    rwa [e] at h
  have HO1 := Lib.hid hO1
  clear hrow hO1
  go_enter Try.func62, Try.ntmps62
  go_wp2_with fail
  generalize (w.alloc (.cells #[.slice la n lc] 76)).alloc (.cells #[.slice none 0 0] 26) = w1 at *
  go_loopw [17] (fun iv wr => ∃ (k : Nat) (ov : Value), k ≤ n ∧ iv = .int .i64 k ∧ Ord1 w la n lc (carr s.K k) ov wr) (fun iv _ => n - (intOf iv).toNat)
  case atStart => exact ⟨0, _, by omega, rfl, HO1.out⟩
  case round =>
    clear HO1
    obtain ⟨k, ov, hk, rfl, ho⟩ := hrel
    have HO := Lib.hid ho
    have hsz := ho.b.size
    have hgl := ho.l.lt
    have hgo := ho.o.lt
    clear ho
    by_cases hlt : k < n
    · have hk1 : (k : Int) < (n : Int) := by omega
      obtain ⟨b, off, rfl, hbB, hc⟩ := (HR.out.below HO.out.b) k hlt
      have c0 := hc 0 (by omega)
      have c1 := hc 1 (by omega)
      have c2 := hc 2 (by omega)
      have c3 := hc 3 (by omega)
      have c4 := hc 4 (by omega)
      simp only [Steps.cells, Nat.add_zero] at c0 c1 c2 c3 c4
      have hbl : b < wr.heap.size := by omega
      have HBA := Lib.hid ((Below.refl wr.heap.size wr).alloc (Nat.le_refl _) (.cells (s.cells k) 124))
      have HC76 := Lib.hid (carries76 s k)
      unfold Steps.cells at HC76 HBA
      clear hc
      cases hcb : carB (s.K k)
      · have HCN := Lib.hid (carr_no s.K k hcb)
        rw [hcb] at HC76
        clear hcb
        go_wp2_with fail
        refine (HC76.out _).mono ?_
        rintro e w2 ⟨rfl, hb2⟩
        have HO2 := Lib.hid (HO.out.step (below_step HBA.out (Nat.le_refl _) hb2))
        clear hb2
        go_wp2_with fail
        go_roundw
        case rel => exact ⟨k + 1, ov, by omega, by go_num, by rw [HCN.out]; exact HO2.out⟩
        case measure => simp [intOf]; omega
      · have HCN := Lib.hid (carr_yes s.K k hcb)
        rw [hcb] at HC76
        clear hcb
        have hfl := carr_len s.K k
        go_wp2_with fail
        refine (HC76.out _).mono ?_
        rintro e w2 ⟨rfl, hb2⟩
        have HO2 := Lib.hid (HO.out.step (below_step HBA.out (Nat.le_refl _) hb2))
        have hoc := HO2.out.o.cell 0
        have hofr := HO2.out.o.frozen 0
        have hol := HO2.out.o.lt
        have hsz2 := HO2.out.b.size
        clear hb2
        go_wp2_with (at_builtin; refine wpList_append_own_at _ rfl (.tmp 24) (.tmp 26) 26 rfl (w.heap.size + 2) 3 i0 (.int .i64 0) 1 8 Try.underlying26 hi hz0 hz1 hz2 rfl (by decide) _ _ _ rfl (HO2.out.r.alloc _) ⟨w2.heap.size, 0, none⟩ 1 1 [.int .i64 (k : Int)] rfl rfl (cell_one_new _ _ _) (by simp [Value.oneCell']) (by unfold maxLen; omega) (by omega) (by simp; omega) ?_)
        intro v' w3 hown3 hg3 hnil3 hat3
        have hlb : ∀ b, ov.ownBlock = some b → w.heap.size + 2 ≤ b := fun b hb => (HO2.out.r.lt b hb).1
        have hne : ∀ g, g < w.heap.size + 2 → (none : Option Nat) = none := fun _ _ => rfl
        have HB3 := Lib.hid (((Below.refl w2.heap.size w2).alloc (Nat.le_refl _) (.cells #[.int .i64 (k : Int)] 3)))
        obtain ⟨a3, cap3, hv3, _⟩ := Row.of_own (own_more hown3) (by simp [intL])
        subst hv3
        have HN := Lib.hid (ord1_append HO2.out hown3 hg3 (by simpa using hat3))
        have hsz3 := HN.out.2.2.2
        have hoc3 := HN.out.2.2.1.cell 0
        have hofr3 := HN.out.2.2.1.frozen 0
        clear hown3 hg3 hnil3 hat3 hne hoc hofr
        go_wp2_with fail
        go_roundw
        case rel => exact ⟨k + 1, _, by omega, by go_num, by rw [HCN.out]; exact HN.out.2.1⟩
        case measure => simp [intOf]; omega
    · obtain rfl : k = n := by omega
      have hd : ¬ (k : Int) < (k : Int) := by omega
      by_cases hF : carr s.K k = []
      · have hz := HO.out.z hF
        subst hz
        have HBY := Lib.hid (byNil77 83 (w.heap.size + 1) w.heap.size wr (HO.out.o.cell 0))
        have HO2 := Lib.hid (HO.out.step ((Below.refl wr.heap.size wr).alloc (Nat.le_refl _) (.cells #[.func (.func 83) #[] #[]] 137)))
        have HSK := Lib.hid (show SortedK 4 s k [] from ⟨by rw [hF], List.Pairwise.nil⟩)
        have hoc := HO2.out.o.cell 0
        clear hF
        go_wp2_with fail
        refine HBY.out.mono ?_
        rintro e w2 ⟨rfl, rfl⟩
        go_wp2_with fail
        go_ret
        exact ⟨[], none, 0, HSK.out, rfl, fun i hi => by rw [finL_id 4 seed _ (by omega) (by omega)] at hi; simp [intL] at hi, HO2.out.b⟩
      · obtain ⟨blk, cap, hv, hblk⟩ := own_blk HO.out.r hF
        subst hv
        have hn0 : 0 < k := by
          rcases Nat.eq_zero_or_pos k with e | e
          · exact absurd (by rw [e]; rfl) hF
          · exact e
        obtain ⟨lb, lo, rfl, hlb, hst⟩ := stRow_at (HR.out.below HO.out.b) hn0
        have HBY := Lib.hid (by77 83 s (cK 4 s) (keyK 4 s) (keyK_iff 4 s (by omega)) (cmp_4 s) (enters_of Try.func83 (by kernel_rfl) rfl) (w.heap.size + 1) w.heap.size lb lo k lc (w.heap.size + 2) blk cap (carr s.K k) wr hF (carr_lt s.K k) (carr_sorted s.K k) (carr_len s.K k) hn HO.out.r (HO.out.o.cell 0) (HO.out.l.cell 0) hgl (by omega) (by omega) (by omega) hst)
        have HF := Lib.hid hF
        clear hst hF
        go_wp2_with fail
        refine HBY.out.mono ?_
        rintro e w2 ⟨rfl, L, hperm, hso, hrw, hgr⟩
        have HSK := Lib.hid (show SortedK 4 s k L from ⟨hperm, hso⟩)
        have HRW := Lib.hid hrw
        have HOB := Lib.hid (blk_grown HO.out.o hgr (by intro e; injection e with e; omega))
        have HBB := Lib.hid (HO.out.b.grown hgr HO.out.b.size (fun q hq => by injection hq with hq; omega))
        have HLL := Lib.hid (show L.length = (carr s.K k).length from hperm.length_eq)
        have hoc := HOB.out.cell 0
        clear hperm hso hrw hgr
        go_wp2_with fail
        go_ret
        exact ⟨L, _, cap, HSK.out, by rw [finL_id 4 seed _ (by omega) (by omega), HLL.out]; rfl, by rw [finL_id 4 seed _ (by omega) (by omega)]; exact HRW.out, HBB.out⟩

end Go.Proofs.Ytdfloglicjocbaa
