import Derived.Test.YtnjmcppljbkhnaaGk
set_option linter.unusedVariables false
set_option linter.unusedSimpArgs false
namespace Go.Proofs.Ytnjmcppljbkhnaa
open Go.RowKit

theorem sb4_below {w W w' : World} {g b o : Nat} {x y z : Value} (h : (Below w.heap.size w W ∧ g < W.heap.size ∧ b < w.heap.size) ∧ W.cell? ⟨g, 0, none⟩ = some x ∧ W.cell? ⟨g, 1, none⟩ = some y ∧ W.cell? ⟨b, o, none⟩ = some z) (hb : Below W.heap.size W w') :
    (Below w.heap.size w w' ∧ g < w'.heap.size ∧ b < w.heap.size) ∧ w'.cell? ⟨g, 0, none⟩ = some x ∧ w'.cell? ⟨g, 1, none⟩ = some y ∧ w'.cell? ⟨b, o, none⟩ = some z :=
  ⟨⟨below_step h.1.1 (Nat.le_refl _) hb, Nat.lt_of_lt_of_le h.1.2.1 hb.size, h.1.2.2⟩, (hb.cell (p := ⟨g, 0, none⟩) h.1.2.1).trans h.2.1, (hb.cell (p := ⟨g, 1, none⟩) h.1.2.1).trans h.2.2.1, (hb.cell (p := ⟨b, o, none⟩) (Nat.lt_of_lt_of_le h.1.2.2 h.1.1.size)).trans h.2.2.2⟩
theorem still_skip {P : Program} {ops : Array Oper} {w : World} {Q : Act → Prop} {a : Act} {o : Oper} {rest : List Oper} (hw : Region.wanted o (yielded ops a.tmps) = false) (h : wpStill P ops w Q rest (a.put o.dst undef)) : wpStill P ops w Q (o :: rest) a :=
  wpStill_step fun K hK => by rw [if_neg (by rw [hw]; exact Bool.false_ne_true)]; exact hK _ h
theorem still_want {P : Program} {ops : Array Oper} {w : World} {Q : Act → Prop} {a : Act} {o : Oper} {rest : List Oper} (hw : Region.wanted o (yielded ops a.tmps) = true) (h : ∀ K : Act → Prop, (∀ a, wpStill P ops w Q rest a → K a) → o.still P a w K) : wpStill P ops w Q (o :: rest) a :=
  wpStill_step fun K hK => by rw [if_pos hw]; exact h K hK
theorem first4g (o p q r : Int) (g : Nat) (W : World) (hb : Blk W g 22 #[.int .i64 o, .int .i64 p, .int .i64 q, .int .i64 r]) : Calls Try.prog 15 #[.slice (some ⟨g, 0, none⟩) 4 4] W fun e w' => e = .returned (.int .i64 (firstI [o, p, q, r])) ∧ Below W.heap.size W w' := by
  refine (first15 (some ⟨g, 0, none⟩) 4 [o, p, q, r] _ W.heap.size ?_ (by unfold maxLen; simp)).mono fun e w' h => ⟨h.1, by rw [← h.2]; exact Below.refl _ _⟩
  intro i hi
  have hi' : i = 0 ∨ i = 1 ∨ i = 2 ∨ i = 3 := by simp at hi; omega
  refine ⟨g, 0, rfl, hb.lt, ?_⟩
  rw [Nat.zero_add, hb.cell i]
  rcases hi' with rfl | rfl | rfl | rfl <;> rfl
set_option maxRecDepth 100000 in
set_option maxHeartbeats 8000000 in
theorem law6 (a : Option Addr) (ca len : Nat) (X : Nat → Int) (D : Nat → ByteArray) (n : Int) (w : World) (hx : SRowI w w.heap.size a len X D) (hs : ∀ i, (D i).size ≤ maxLen) (hca : len ≤ ca) (hcm : ca ≤ maxLen) :
    Calls Try.prog 6 #[.slice a len ca, .int .i64 n] w fun e w' => e = .returned (.bool true) ∧ Below w.heap.size w w' := by
  have HX := Lib.hid hx
  have HSZ := Lib.hid hs
  have HS26 := Lib.hid (secret26 a ca len X D n w hx hs hca hcm)
  unfold maxLen at hcm
  clear hx hs
  obtain ⟨r1, hr1⟩ : ∃ r1 : Bool, (decide (1 ≤ n) && decide (n ≤ 255)) = r1 := ⟨_, rfl⟩
  obtain ⟨r2, hr2⟩ : ∃ r2 : Bool, decide ((len : Int) < n) = r2 := ⟨_, rfl⟩
  obtain ⟨r3, hr3⟩ : ∃ r3 : Bool, decide ((255 : Int) < (len : Int)) = r3 := ⟨_, rfl⟩
  obtain ⟨q1, hq1⟩ : ∃ q1, whenI (!r1) 7 = q1 := ⟨_, rfl⟩
  obtain ⟨q2, hq2⟩ : ∃ q2, whenI r2 3 = q2 := ⟨_, rfl⟩
  obtain ⟨q3, hq3⟩ : ∃ q3, whenI r3 8 = q3 := ⟨_, rfl⟩
  have HB := Lib.hid (base_is n len r1 r2 r3 hr1 hr2 hr3)
  rw [hq1, hq2, hq3] at HB
  have C10 := Lib.hid (fun w => within10b n 1 255 r1 w hr1)
  have C1 := Lib.hid (fun w => when17' (!r1) 7 q1 w hq1)
  have C2 := Lib.hid (fun w => when17' r2 3 q2 w hq2)
  have C3 := Lib.hid (fun w => when17' r3 8 q3 w hq3)
  clear hr1 hq1 hq2 hq3
  go_enter Try.func6, Try.ntmps6
  go_wp2_with fail
  refine HS26.out.mono ?_
  intro e w1 hpost
  obtain ⟨S, F, rfl, hres, hb1⟩ := hpost.res
  have HRES := Lib.hid hres
  have HB1 := Lib.hid hb1
  clear hres hb1 hpost HS26
  go_wp2_with (first | (go_at_call 10; refine (C10.out _).mono ?_; rintro e w' ⟨rfl, rfl⟩) | (go_at_call 15; refine (first3 q1 q2 q3 _ _).mono ?_; rintro e w' ⟨rfl, rfl⟩; rw [HB.out]) | (go_at_call 17; first | (refine (C1.out _).mono ?_; rintro e w' ⟨rfl, rfl⟩) | (refine (C2.out _).mono ?_; rintro e w' ⟨rfl, rfl⟩) | (refine (C3.out _).mono ?_; rintro e w' ⟨rfl, rfl⟩)))
  have HB2 := Lib.hid (below_step HB1.out (Nat.le_refl _) ((Below.refl w1.heap.size w1).alloc (Nat.le_refl _) (.cells #[.int .i64 q1, .int .i64 q2, .int .i64 q3] 22)))
  generalize w1.alloc (.cells #[.int .i64 q1, .int .i64 q2, .int .i64 q3] 22) = w2 at *
  clear C10 C1 C2 C3 HB HB1 hr2 hr3
  generalize hbz : baseE n len = bz at *
  have HBZ := Lib.hid hbz
  clear hbz
  go_loopw [7, 36] (fun wv iv wr => ∃ k : Nat, k ≤ len ∧ iv = .int .i64 k ∧ wv = .int .i64 (scanE X D bz k) ∧ Below w.heap.size w wr) (fun _ iv _ => len - (intOf iv).toNat)
  case atStart => exact ⟨0, by omega, rfl, rfl, HB2.out⟩
  case round =>
    clear HB2
    obtain ⟨k, hk, rfl, rfl, hb⟩ := hrel
    have HB := Lib.hid hb
    clear hb
    by_cases hlt : k < len
    · have hd : decide ((k : Int) < (len : Int)) = true := decide_eq_true (by omega)
      obtain ⟨b0, off0, rfl, hbB, c0, c1⟩ := (HX.out.below HB.out) k hlt
      obtain ⟨b', off', e', hbB', d0, d1⟩ := (HX.out.below HB.out) 0 (by omega)
      cases e'
      rw [Nat.zero_mul, Nat.add_zero] at d0 d1
      have hlz : (0 : Int) < (len : Int) := by omega
      have hbl : b0 < wr.heap.size := by have := HB.out.size; omega
      have hk1 : (k : Int) < (len : Int) := by omega
      have hlz2 : 0 < len := by omega
      have hlz3 : (0 : Int) ≤ 0 := by omega
      have hlz4 : 1 ≤ len := by omega
      have hlz5 : (1 : Int) ≤ (len : Int) := by omega
      have hk2 : (k : Int) ≤ (ca : Int) := by omega
      have hk3 : k ≤ ca := by omega
      have s1 := HSZ.out k
      have s0 := HSZ.out 0
      unfold maxLen at s1 s0
      obtain ⟨t1, ht1⟩ : ∃ t1 : Bool, (decide (1 ≤ X k) && decide (X k ≤ 255)) = t1 := ⟨_, rfl⟩
      obtain ⟨t2, ht2⟩ : ∃ t2 : Bool, twiceB X k = t2 := ⟨_, rfl⟩
      obtain ⟨p1, hp1⟩ : ∃ p1, whenI (!t1) 7 = p1 := ⟨_, rfl⟩
      obtain ⟨p2, hp2⟩ : ∃ p2, whenI t2 4 = p2 := ⟨_, rfl⟩
      have HEL := Lib.hid (fun t3 h3 => elt_is X D bz k t1 t2 t3 ht1 ht2 h3)
      rw [hp1, hp2] at HEL
      have C10 := Lib.hid (fun w => within10b (X k) 1 255 t1 w ht1)
      have C1 := Lib.hid (fun w => when17' (!t1) 7 p1 w hp1)
      have C2 := Lib.hid (fun w => when17' t2 4 p2 w hp2)
      have HT2 := Lib.hid ht2
      clear ht1 ht2 hp1 hp2
      have HXK := Lib.hid ((HX.out.less (Nat.le_of_lt hlt)).at' (below_step HB.out (Nat.le_refl _) ((Below.refl wr.heap.size wr).alloc (Nat.le_refl _) (.cells #[.int .i64 (X k), .string (D k)] 46))))
      have HSB := Lib.hid (show (Below w.heap.size w (wr.alloc (.cells #[.int .i64 (X k), .string (D k)] 46)) ∧ wr.heap.size < (wr.alloc (.cells #[.int .i64 (X k), .string (D k)] 46)).heap.size ∧ b0 < w.heap.size) ∧ (wr.alloc (.cells #[.int .i64 (X k), .string (D k)] 46)).cell? ⟨wr.heap.size, 0, none⟩ = some (.int .i64 (X k)) ∧ (wr.alloc (.cells #[.int .i64 (X k), .string (D k)] 46)).cell? ⟨wr.heap.size, 1, none⟩ = some (.string (D k)) ∧ (wr.alloc (.cells #[.int .i64 (X k), .string (D k)] 46)).cell? ⟨b0, off0 + 1, none⟩ = some (.string (D 0)) from
        ⟨⟨below_step HB.out (Nat.le_refl _) ((Below.refl wr.heap.size wr).alloc (Nat.le_refl _) _), by simp, hbB⟩, (Blk.new wr 46 #[.int .i64 (X k), .string (D k)]).cell 0, (Blk.new wr 46 #[.int .i64 (X k), .string (D k)]).cell 1, (((Below.refl wr.heap.size wr).alloc (Nat.le_refl _) (.cells #[.int .i64 (X k), .string (D k)] 46)).cell (p := ⟨b0, off0 + 1, none⟩) hbl).trans d1⟩)
      go_wp2_with fail
      refine (containsFunc27 (some ⟨b0, off0, none⟩) ca k X D (X k) wr.heap.size _ HXK.out (by unfold maxLen; omega) HSB.out.1.2.1 HSB.out.2.1).mono ?_
      rintro e w3 ⟨rfl, b3⟩
      have HS3 := Lib.hid (sb4_below HSB.out b3)
      rw [show ((List.range k).any fun j => X j == X k) = t2 from HT2.out]
      clear b3 HSB HXK c0 c1 d0 d1
      generalize wr.heap.size = g at *
      obtain ⟨b9, x0, x1, x2⟩ := HS3.out
      have hb9 := b9.2.1
      have hb8 : b0 < w3.heap.size := by have := b9.1.size; omega
      clear b9
      generalize hsk : scanE X D bz k = sk at *
      have HSK := Lib.hid hsk
      clear hsk
      by_cases ha : (D k).size = 0
      · have hb2 : True := trivial
        have hc2 : True := trivial
        have HEK := Lib.hid (HEL.out true (by unfold dataE; first | exact decide_eq_true (by omega) | exact decide_eq_false (by omega)))
        have emp : (D k).toList.isEmpty = true := empty_no _ ha
        have C3 := Lib.hid (fun w => when17' true 6 6 w rfl)
        rw [show whenI true 6 = 6 from rfl] at HEK
        clear ha hb2 hc2
        go_wp2_with fail
        refine wp_region_still_tail 29 (by kernel_rfl) (by kernel_rfl) ?_
        simp only [List.take_succ_cons, List.take_zero, List.drop_succ_cons, List.drop_zero]
        iterate 3 ((with_reducible refine wpStill_step (fun K hK => ?_)); go_simp; (with_reducible refine hK _ ?_); clear hK K)
        (with_reducible refine wpStill_step (fun K hK => ?_)); go_simp; refine ⟨_, by refine (C10.out _).mono ?_; rintro e w' ⟨rfl, rfl⟩; exact ⟨rfl, rfl⟩, hK _ ?_⟩; clear hK K
        (with_reducible refine wpStill_step (fun K hK => ?_)); go_simp; (with_reducible refine hK _ ?_); clear hK K
        (with_reducible refine wpStill_step (fun K hK => ?_)); go_simp; refine ⟨_, by refine (C1.out _).mono ?_; rintro e w' ⟨rfl, rfl⟩; exact ⟨rfl, rfl⟩, hK _ ?_⟩; clear hK K
        (with_reducible refine wpStill_step (fun K hK => ?_)); go_simp; (with_reducible refine hK _ ?_); clear hK K
        (with_reducible refine wpStill_step (fun K hK => ?_)); go_simp; refine ⟨_, by refine (C2.out _).mono ?_; rintro e w' ⟨rfl, rfl⟩; exact ⟨rfl, rfl⟩, hK _ ?_⟩; clear hK K
        iterate 4 ((with_reducible refine wpStill_step (fun K hK => ?_)); go_simp; (with_reducible refine hK _ ?_); clear hK K)
        iterate 4 ((with_reducible refine still_skip (by kernel_rfl) ?_); simp only [Act.put, List.setIfInBounds_toArray, List.set_cons_zero, List.set_cons_succ])
        iterate 2 ((with_reducible refine wpStill_step (fun K hK => ?_)); go_simp; (with_reducible refine hK _ ?_); clear hK K)
        iterate 9 ((with_reducible refine still_skip (by kernel_rfl) ?_); simp only [Act.put, List.setIfInBounds_toArray, List.set_cons_zero, List.set_cons_succ])
        iterate 1 ((with_reducible refine wpStill_step (fun K hK => ?_)); go_simp; (with_reducible refine hK _ ?_); clear hK K)
        (with_reducible refine wpStill_step (fun K hK => ?_)); go_simp; refine ⟨_, by refine (C3.out _).mono ?_; rintro e w' ⟨rfl, rfl⟩; exact ⟨rfl, rfl⟩, hK _ ?_⟩; clear hK K
        (with_reducible refine wpStill_nil ?_)
        change wpList _ _ _ _ _ w3.drew
        go_wp2_with (go_at_call 15; refine (first4g sk p1 p2 6 w3.heap.size _ (by exact Blk.new w3 22 _)).mono ?_; rintro e w' ⟨rfl, hbb⟩; rw [HEK.out])
        have HBF := Lib.hid (below_step (below_step (below_drew HS3.out.1.1) (Nat.le_refl _) ((Below.refl _ _).alloc (Nat.le_refl _) _)) (Nat.le_refl _) hbb)
        clear hbb
        go_wp2_with fail
        go_roundw
        case rel =>
          exact ⟨k + 1, by omega, by go_num, rfl, HBF.out⟩
        case measure => simp [intOf]; omega
      · by_cases hb2 : 1024 < (D k).size
        · have hc2 : True := trivial
          have HEK := Lib.hid (HEL.out true (by unfold dataE; first | exact decide_eq_true (by omega) | exact decide_eq_false (by omega)))
          have emp : (D k).toList.isEmpty = false := empty_of _ (by omega)
          have g1 : decide ((1024 : Int) < ((D k).size : Int)) = true := decide_eq_true (by omega)
          have C3 := Lib.hid (fun w => when17' true 6 6 w rfl)
          rw [show whenI true 6 = 6 from rfl] at HEK
          clear ha hb2 hc2
          go_wp2_with fail
          refine wp_region_still_tail 29 (by kernel_rfl) (by kernel_rfl) ?_
          simp only [List.take_succ_cons, List.take_zero, List.drop_succ_cons, List.drop_zero]
          iterate 3 ((with_reducible refine wpStill_step (fun K hK => ?_)); go_simp; (with_reducible refine hK _ ?_); clear hK K)
          (with_reducible refine wpStill_step (fun K hK => ?_)); go_simp; refine ⟨_, by refine (C10.out _).mono ?_; rintro e w' ⟨rfl, rfl⟩; exact ⟨rfl, rfl⟩, hK _ ?_⟩; clear hK K
          (with_reducible refine wpStill_step (fun K hK => ?_)); go_simp; (with_reducible refine hK _ ?_); clear hK K
          (with_reducible refine wpStill_step (fun K hK => ?_)); go_simp; refine ⟨_, by refine (C1.out _).mono ?_; rintro e w' ⟨rfl, rfl⟩; exact ⟨rfl, rfl⟩, hK _ ?_⟩; clear hK K
          (with_reducible refine wpStill_step (fun K hK => ?_)); go_simp; (with_reducible refine hK _ ?_); clear hK K
          (with_reducible refine wpStill_step (fun K hK => ?_)); go_simp; refine ⟨_, by refine (C2.out _).mono ?_; rintro e w' ⟨rfl, rfl⟩; exact ⟨rfl, rfl⟩, hK _ ?_⟩; clear hK K
          iterate 4 ((with_reducible refine wpStill_step (fun K hK => ?_)); go_simp; (with_reducible refine hK _ ?_); clear hK K)
          iterate 4 ((with_reducible refine still_want (by kernel_rfl) (fun K hK => ?_)); go_simp; (with_reducible refine hK _ ?_); clear hK K)
          iterate 2 ((with_reducible refine wpStill_step (fun K hK => ?_)); go_simp; (with_reducible refine hK _ ?_); clear hK K)
          iterate 9 ((with_reducible refine still_skip (by kernel_rfl) ?_); simp only [Act.put, List.setIfInBounds_toArray, List.set_cons_zero, List.set_cons_succ])
          iterate 1 ((with_reducible refine wpStill_step (fun K hK => ?_)); go_simp; (with_reducible refine hK _ ?_); clear hK K)
          (with_reducible refine wpStill_step (fun K hK => ?_)); go_simp; refine ⟨_, by refine (C3.out _).mono ?_; rintro e w' ⟨rfl, rfl⟩; exact ⟨rfl, rfl⟩, hK _ ?_⟩; clear hK K
          (with_reducible refine wpStill_nil ?_)
          change wpList _ _ _ _ _ w3.drew
          go_wp2_with (go_at_call 15; refine (first4g sk p1 p2 6 w3.heap.size _ (by exact Blk.new w3 22 _)).mono ?_; rintro e w' ⟨rfl, hbb⟩; rw [HEK.out])
          have HBF := Lib.hid (below_step (below_step (below_drew HS3.out.1.1) (Nat.le_refl _) ((Below.refl _ _).alloc (Nat.le_refl _) _)) (Nat.le_refl _) hbb)
          clear hbb
          go_wp2_with fail
          go_roundw
          case rel =>
            exact ⟨k + 1, by omega, by go_num, rfl, HBF.out⟩
          case measure => simp [intOf]; omega
        · by_cases hc2 : (D k).size = (D 0).size
          · skip
            have HEK := Lib.hid (HEL.out false (by unfold dataE; first | exact decide_eq_true (by omega) | exact decide_eq_false (by omega)))
            have emp : (D k).toList.isEmpty = false := empty_of _ (by omega)
            have g1 : decide ((1024 : Int) < ((D k).size : Int)) = false := decide_eq_false (by omega)
            have g2 : (((D k).size : Int) == ((D 0).size : Int)) = true := by simp; omega
            have g3 : (((D k).size : Int) != ((D 0).size : Int)) = false := by simp; omega
            have C3 := Lib.hid (fun w => when17' false 6 0 w rfl)
            rw [show whenI false 6 = 0 from rfl] at HEK
            clear ha hb2 hc2
            go_wp2_with fail
            first
              | go_region_held3 (fun w' => (Below w.heap.size w w' ∧ g < w'.heap.size ∧ b0 < w.heap.size) ∧ w'.cell? ⟨g, 0, none⟩ = some (.int .i64 (X k)) ∧ w'.cell? ⟨g, 1, none⟩ = some (.string (D k)) ∧ w'.cell? ⟨b0, off0 + 1, none⟩ = some (.string (D 0))) (first | assumption | (with_reducible exact sb4_below (by assumption) ((Below.refl _ _).alloc (Nat.le_refl _) _)) | (with_reducible exact sb4_below (by assumption) hbb) | (with_reducible exact sb4_below HS3.out (below_drew (Below.refl _ _)))) (first | (go_at_call 10; refine (C10.out _).mono ?_; rintro e w' ⟨rfl, rfl⟩) | (go_at_call 15; refine (first4g sk p1 p2 0 w3.heap.size _ (by exact Blk.new w3 22 _)).mono ?_; rintro e w' ⟨rfl, hbb⟩; rw [HEK.out]) | (go_at_call 17; first | (refine (C1.out _).mono ?_; rintro e w' ⟨rfl, rfl⟩) | (refine (C2.out _).mono ?_; rintro e w' ⟨rfl, rfl⟩) | (refine (C3.out _).mono ?_; rintro e w' ⟨rfl, rfl⟩)))
              | fail
            have HBF := Lib.hid (And.left (And.left (by assumption : (Below w.heap.size w _ ∧ g < _ ∧ b0 < w.heap.size) ∧ _)))
            go_wp2_with fail
            go_roundw
            case rel =>
              exact ⟨k + 1, by omega, by go_num, rfl, HBF.out⟩
            case measure => simp [intOf]; omega
          · skip
            have HEK := Lib.hid (HEL.out true (by unfold dataE; first | exact decide_eq_true (by omega) | exact decide_eq_false (by omega)))
            have emp : (D k).toList.isEmpty = false := empty_of _ (by omega)
            have g1 : decide ((1024 : Int) < ((D k).size : Int)) = false := decide_eq_false (by omega)
            have g2 : (((D k).size : Int) == ((D 0).size : Int)) = false := by simp; omega
            have g3 : (((D k).size : Int) != ((D 0).size : Int)) = true := by simp; omega
            have C3 := Lib.hid (fun w => when17' true 6 6 w rfl)
            rw [show whenI true 6 = 6 from rfl] at HEK
            clear ha hb2 hc2
            go_wp2_with fail
            first
              | go_region_held3 (fun w' => (Below w.heap.size w w' ∧ g < w'.heap.size ∧ b0 < w.heap.size) ∧ w'.cell? ⟨g, 0, none⟩ = some (.int .i64 (X k)) ∧ w'.cell? ⟨g, 1, none⟩ = some (.string (D k)) ∧ w'.cell? ⟨b0, off0 + 1, none⟩ = some (.string (D 0))) (first | assumption | (with_reducible exact sb4_below (by assumption) ((Below.refl _ _).alloc (Nat.le_refl _) _)) | (with_reducible exact sb4_below (by assumption) hbb) | (with_reducible exact sb4_below HS3.out (below_drew (Below.refl _ _)))) (first | (go_at_call 10; refine (C10.out _).mono ?_; rintro e w' ⟨rfl, rfl⟩) | (go_at_call 15; refine (first4g sk p1 p2 6 w3.heap.size _ (by exact Blk.new w3 22 _)).mono ?_; rintro e w' ⟨rfl, hbb⟩; rw [HEK.out]) | (go_at_call 17; first | (refine (C1.out _).mono ?_; rintro e w' ⟨rfl, rfl⟩) | (refine (C2.out _).mono ?_; rintro e w' ⟨rfl, rfl⟩) | (refine (C3.out _).mono ?_; rintro e w' ⟨rfl, rfl⟩)))
              | fail
            have HBF := Lib.hid (And.left (And.left (by assumption : (Below w.heap.size w _ ∧ g < _ ∧ b0 < w.heap.size) ∧ _)))
            go_wp2_with fail
            go_roundw
            case rel =>
              exact ⟨k + 1, by omega, by go_num, rfl, HBF.out⟩
            case measure => simp [intOf]; omega
    · have hd : decide ((k : Int) < (len : Int)) = false := decide_eq_false (by omega)
      have hd2 : decide (k < len) = false := decide_eq_false hlt
      have hkl : k = len := by omega
      have hr := HRES.out
      unfold SRes at hr
      rw [HBZ.out, show scanE X D bz len = scanE X D bz k from by rw [hkl]] at hr
      have HEK := Lib.hid (show scanE X D bz len = scanE X D bz k from by rw [hkl])
      clear hkl HRES
      generalize scanE X D bz k = E at *
      by_cases hE : E = 0
      · have hb0 : bz = 0 := by
          by_cases h : bz = 0
          · exact h
          · have h2 := scanE_base X D bz len h
            rw [HEK.out, hE] at h2
            exact absurd h2.symm h
        have hz : scanE X D 0 len = 0 := by
          have h := HEK.out
          rw [hb0] at h
          exact h.trans hE
        have hbb := HBZ.out
        rw [hb0] at hbb
        have hq : 1 ≤ n ∧ n ≤ 255 ∧ n ≤ (len : Int) ∧ len ≤ 255 := by
          unfold baseE at hbb
          split at hbb
          · cases hbb
          · split at hbb
            · cases hbb
            · split at hbb
              · cases hbb
              · refine ⟨?_, ?_, ?_, ?_⟩ <;> omega
        obtain ⟨q1', q2', q3', q4'⟩ := hq
        obtain ⟨q, rfl⟩ : ∃ q : Nat, n = (q : Int) := ⟨n.toNat, by omega⟩
        obtain ⟨hf1, hf2, hf3, hf4⟩ := shares_fit X D len hz
        have HM := Lib.hid (hf4 (by omega))
        have HXO := Lib.hid (HX.out.nat hf1)
        have HSO := Lib.hid (fun (W : World) (h : SRow W W.heap.size a len (xN X) D) => secretOf29 a ca len q (D 0).size (xN X) D W h (xN_lt X) (by omega) (by omega) (by omega) (by omega) hca (by unfold maxLen; omega) HM.out hf2 hf3)
        obtain ⟨b0, off0, rfl, hbB, d0, d1⟩ := (HX.out.below HB.out) 0 (by omega)
        rw [Nat.zero_mul, Nat.add_zero] at d0 d1
        have hbl : b0 < wr.heap.size := by have := HB.out.size; omega
        subst hE
        have l0 : ((len : Int) == 0) = false := by simp; omega
        have l1 : (0 : Int) < (len : Int) := by omega
        have l2 : 0 < len := by omega
        clear hz hbb hb0 hf1 hf2 hf3 hf4 d0
        by_cases h20 : 20 < len
        · have g1 : decide ((20 : Int) < (len : Int)) = true := decide_eq_true (by omega)
          go_wp2_with (first | (go_at_call 13; refine (seals13 _).mono ?_; rintro e w' ⟨rfl, hb⟩; first | (have HW1 := Lib.hid (below_step HB.out (Nat.le_refl _) hb); (try have d2 := (hb.cell (p := ⟨b0, off0 + 1, none⟩) hbl).trans d1); clear hb HB) | (have HW2 := Lib.hid (below_step HW1.out (Nat.le_refl _) hb); clear hb HW1)))
          go_ret
          exact ⟨rfl, HW2.out⟩
        · have g1 : decide ((20 : Int) < (len : Int)) = false := decide_eq_false (by omega)
          by_cases h40 : 40 < (D 0).size
          · have g2 : decide ((40 : Int) < ((D 0).size : Int)) = true := decide_eq_true (by omega)
            go_wp2_with (first | (go_at_call 13; refine (seals13 _).mono ?_; rintro e w' ⟨rfl, hb⟩; first | (have HW1 := Lib.hid (below_step HB.out (Nat.le_refl _) hb); (try have d2 := (hb.cell (p := ⟨b0, off0 + 1, none⟩) hbl).trans d1); clear hb HB) | (have HW2 := Lib.hid (below_step HW1.out (Nat.le_refl _) hb); clear hb HW1)))
            go_ret
            exact ⟨rfl, HW2.out⟩
          · have g2 : decide ((40 : Int) < ((D 0).size : Int)) = false := decide_eq_false (by omega)
            go_wp2_with (first | (go_at_call 13; refine (seals13 _).mono ?_; rintro e w' ⟨rfl, hb⟩; first | (have HW1 := Lib.hid (below_step HB.out (Nat.le_refl _) hb); (try have d2 := (hb.cell (p := ⟨b0, off0 + 1, none⟩) hbl).trans d1); clear hb HB) | (have HW2 := Lib.hid (below_step HW1.out (Nat.le_refl _) hb); clear hb HW1)) | fail)
            refine (HSO.out _ (HXO.out.at' HW1.out)).mono ?_
            rintro e w5 ⟨hc, hb5⟩
            have HW5 := Lib.hid (below_step HW1.out (Nat.le_refl _) hb5)
            clear hb5 HW1 HSO HXO d1 d2
            rcases hr with ⟨h, _⟩ | ⟨_, hg, hS, hF⟩ | ⟨_, hg, hS, hF⟩
            · exact absurd rfl h
            · rw [Int.toNat_natCast] at hg hS
              rcases hc with ⟨_, rfl⟩ | ⟨hng, _⟩
              · subst hF
                rw [← hS]
                have HOK := Lib.hid (show true = ((S.toList == S.toList) && ((0 : Int) == 0)) from by simp)
                clear hS hg
                go_wp2_with (first | (go_at_call 17; refine (when17' false 18 0 _ rfl).mono ?_; rintro e w' ⟨rfl, rfl⟩) | (go_at_call 19; refine (outcome19_ok S S 0 true _ HOK.out).mono ?_; rintro e w' ⟨rfl, rfl⟩))
                go_ret
                exact ⟨rfl, HW5.out⟩
              · exact absurd hg hng
            · rw [Int.toNat_natCast] at hg
              rcases hc with ⟨hng, _⟩ | ⟨_, rfl⟩
              · exact absurd hng hg
              · subst hF
                have HOK := Lib.hid (show true = (S.toList.isEmpty && ((18 : Int) == 18)) from by rw [hS, empty_no _ rfl]; rfl)
                clear hS hg
                go_wp2_with (first | (go_at_call 17; refine (when17' true 18 18 _ rfl).mono ?_; rintro e w' ⟨rfl, rfl⟩) | (go_at_call 19; refine (outcome19_err S _ 18 18 true _ (by decide) HOK.out).mono ?_; rintro e w' ⟨rfl, rfl⟩))
                go_ret
                exact ⟨rfl, HW5.out⟩
      · have e1 : (E == 0) = false := by simpa using hE
        have e2 : (E != 0) = true := by simpa using hE
        have hSF : S.toList.isEmpty = true ∧ (F == E) = true := by
          rcases hr with ⟨_, h1, h2⟩ | ⟨h1, _⟩ | ⟨h1, _⟩
          · exact ⟨by rw [h1]; exact empty_no _ rfl, by rw [h2]; simp⟩
          · exact absurd h1 hE
          · exact absurd h1 hE
        obtain ⟨hS, hF⟩ := hSF
        clear hr
        by_cases h3 : E = 3
        · have e3 : (E == 3) = true := by simpa using h3
          have e4 : (E != 3) = false := by simpa using h3
          clear h3 hE
          by_cases hl0 : len = 0
          · have l0 : ((len : Int) == 0) = true := by simp; omega
            clear hl0
            go_wp2_with (first | (go_at_call 13; refine (seals13 _).mono ?_; rintro e w' ⟨rfl, hb⟩; first | (have HW1 := Lib.hid (below_step HB.out (Nat.le_refl _) hb); (try have d2 := (hb.cell (p := ⟨b0, off0 + 1, none⟩) hbl).trans d1); clear hb HB) | (have HW2 := Lib.hid (below_step HW1.out (Nat.le_refl _) hb); clear hb HW1)))
            go_ret
            exact ⟨rfl, HW2.out⟩
          · have l0 : ((len : Int) == 0) = false := by simp; omega
            have l1 : (0 : Int) < (len : Int) := by omega
            have l2 : 0 < len := by omega
            obtain ⟨b0, off0, rfl, hbB, d0, d1⟩ := (HX.out.below HB.out) 0 (by omega)
            rw [Nat.zero_mul, Nat.add_zero] at d0 d1
            have hbl : b0 < wr.heap.size := by have := HB.out.size; omega
            clear hl0 d0
            by_cases h20 : 20 < len
            · have g1 : decide ((20 : Int) < (len : Int)) = true := decide_eq_true (by omega)
              go_wp2_with (first | (go_at_call 13; refine (seals13 _).mono ?_; rintro e w' ⟨rfl, hb⟩; first | (have HW1 := Lib.hid (below_step HB.out (Nat.le_refl _) hb); (try have d2 := (hb.cell (p := ⟨b0, off0 + 1, none⟩) hbl).trans d1); clear hb HB) | (have HW2 := Lib.hid (below_step HW1.out (Nat.le_refl _) hb); clear hb HW1)))
              go_ret
              exact ⟨rfl, HW2.out⟩
            · have g1 : decide ((20 : Int) < (len : Int)) = false := decide_eq_false (by omega)
              by_cases h40 : 40 < (D 0).size
              · have g2 : decide ((40 : Int) < ((D 0).size : Int)) = true := decide_eq_true (by omega)
                go_wp2_with (first | (go_at_call 13; refine (seals13 _).mono ?_; rintro e w' ⟨rfl, hb⟩; first | (have HW1 := Lib.hid (below_step HB.out (Nat.le_refl _) hb); (try have d2 := (hb.cell (p := ⟨b0, off0 + 1, none⟩) hbl).trans d1); clear hb HB) | (have HW2 := Lib.hid (below_step HW1.out (Nat.le_refl _) hb); clear hb HW1)))
                go_ret
                exact ⟨rfl, HW2.out⟩
              · have g2 : decide ((40 : Int) < ((D 0).size : Int)) = false := decide_eq_false (by omega)
                go_wp2_with (first | (go_at_call 13; refine (seals13 _).mono ?_; rintro e w' ⟨rfl, hb⟩; first | (have HW1 := Lib.hid (below_step HB.out (Nat.le_refl _) hb); (try have d2 := (hb.cell (p := ⟨b0, off0 + 1, none⟩) hbl).trans d1); clear hb HB) | (have HW2 := Lib.hid (below_step HW1.out (Nat.le_refl _) hb); clear hb HW1)))
                go_ret
                exact ⟨rfl, HW1.out⟩
        · have e3 : (E == 3) = false := by simpa using h3
          have e4 : (E != 3) = true := by simpa using h3
          clear h3 hE
          go_wp2_with (first | (go_at_call 13; refine (seals13 _).mono ?_; rintro e w' ⟨rfl, hb⟩; first | (have HW1 := Lib.hid (below_step HB.out (Nat.le_refl _) hb); (try have d2 := (hb.cell (p := ⟨b0, off0 + 1, none⟩) hbl).trans d1); clear hb HB) | (have HW2 := Lib.hid (below_step HW1.out (Nat.le_refl _) hb); clear hb HW1)))
          go_ret
          exact ⟨rfl, HW2.out⟩
end Go.Proofs.Ytnjmcppljbkhnaa
