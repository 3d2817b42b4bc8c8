import Derived.Test.YtnjmcppljbkhnaaGg
import Derived.Test.YtnjmcppljbkhnaaQ
set_option linter.unusedVariables false
set_option linter.unusedSimpArgs false
namespace Go.Proofs.Ytnjmcppljbkhnaa
open Go.RowKit

theorem list_same (a b : ByteArray) (h : a = b) : (a.toList == b.toList) = true := by rw [h]; simp
theorem list_other (a b : ByteArray) (h : ¬ a = b) : (a.toList == b.toList) = false := by
  rw [ByteArray.toList_eq, ByteArray.toList_eq]
  simp only [beq_eq_false_iff_ne, ne_eq]
  intro e
  exact h (ByteArray.ext (Array.ext' e))
theorem good_at (X : Nat → Int) (D : Nat → ByteArray) (n len i : Nat) (hs : (D i).size = (D 0).size) : vS (xN X) D n (xN X i) (D 0).size = D i ↔ ∀ j, j < (D 0).size → vB (xN X) D n (xN X i) n j = at8 (D i) j :=
  strB_eq _ _ _ hs fun j => vB_lt _ D n _ n j (xN_lt X) (xN_lt X i)
theorem sb_below {w W w' : World} {g : Nat} {x y : Value} (h : (Below w.heap.size w W ∧ g < W.heap.size) ∧ W.cell? ⟨g, 0, none⟩ = some x ∧ W.cell? ⟨g, 1, none⟩ = some y) (b : Below W.heap.size W w') :
    (Below w.heap.size w w' ∧ g < w'.heap.size) ∧ w'.cell? ⟨g, 0, none⟩ = some x ∧ w'.cell? ⟨g, 1, none⟩ = some y :=
  ⟨⟨below_step h.1.1 (Nat.le_refl _) b, Nat.lt_of_lt_of_le h.1.2 b.size⟩, (b.cell (p := ⟨g, 0, none⟩) h.1.2).trans h.2.1, (b.cell (p := ⟨g, 1, none⟩) h.1.2).trans h.2.2⟩
set_option maxRecDepth 100000 in
set_option maxHeartbeats 4000000 in
theorem secret26_main (a : Option Addr) (ca len n : Nat) (X : Nat → Int) (D : Nat → ByteArray) (w : World) (hx : SRowI w w.heap.size a len X D) (hs : ∀ i, (D i).size ≤ maxLen) (hn : n ≤ 255) (h0 : 0 < n) (hln : n ≤ len) (hlen : len ≤ 255) (hca : len ≤ ca) (hcn : n < ca) (hcm : ca ≤ maxLen) :
    Calls Try.prog 26 #[.slice a len ca, .int .i64 n] w (SPost X D n len w) := by
  have HX := Lib.hid hx
  have HSZ := Lib.hid hs
  have HBE := Lib.hid (show baseE (n : Int) len = 0 from by unfold baseE; rw [if_neg (by omega), if_neg (by omega), if_neg (by omega)])
  have hz : Try.zeroCells94 = Array.replicate 256 (.bool false) := by kernel_rfl
  have HSN := Lib.hid (show Seen (w.alloc (.cells Try.zeroCells94 94)) w.heap.size (seenF X 0) from by rw [hz]; exact Seen_new w 94 X)
  clear hz
  have HB0 := Lib.hid ((Below.refl w.heap.size w).alloc (Nat.le_refl _) (.cells Try.zeroCells94 94))
  have k1 : decide ((n : Int) < 1) = false := decide_eq_false (by omega)
  have k2 : decide ((255 : Int) < (n : Int)) = false := decide_eq_false (by omega)
  have k3 : decide (len < n) = false := decide_eq_false (by omega)
  have k4 : decide ((255 : Int) < (len : Int)) = false := decide_eq_false (by omega)
  unfold maxLen at hcm
  clear hx hs
  obtain ⟨b0, off0, rfl, hbB0, d0, d1⟩ := HX.out 0 (by omega)
  clear d0 d1
  go_enter Try.func26, Try.ntmps26
  go_wp2_with fail
  generalize w.alloc (.cells Try.zeroCells94 94) = w0 at *
  go_loopw [29] (fun iv wr => ∃ k : Nat, k ≤ len ∧ iv = .int .i64 k ∧ Below w.heap.size w wr ∧ Seen wr w.heap.size (seenF X k) ∧ Hid (scanE X D 0 k = 0)) (fun iv _ => len - (intOf iv).toNat)
  case atStart => exact ⟨0, by omega, rfl, HB0.out, HSN.out, rfl⟩
  case round =>
    clear HSN HB0
    obtain ⟨k, hk, rfl, hb, hse, HSC⟩ := hrel
    have HB := Lib.hid hb
    have HSE := Lib.hid hse
    clear hb hse
    by_cases hlt : k < len
    · have hd : decide ((k : Int) < (len : Int)) = true := decide_eq_true (by omega)
      have hd2 : decide (k < len) = true := decide_eq_true (by omega)
      obtain ⟨b', off', e', hbB', c0, c1⟩ := (HX.out.below HB.out) k hlt
      cases e'
      obtain ⟨b', off', e', hbB'', d0, d1⟩ := (HX.out.below HB.out) 0 (by omega)
      cases e'
      rw [Nat.zero_mul, Nat.add_zero] at d0 d1
      have hlz : (0 : Int) < (len : Int) := by omega
      have hbl : b0 < wr.heap.size := by have := HB.out.size; omega
      have HBA := Lib.hid (below_step HB.out (Nat.le_refl _) ((Below.refl wr.heap.size wr).alloc (Nat.le_refl _) (.cells #[.int .i64 (X k), .string (D k)] 46)))
      have HSA := Lib.hid (HSE.out.below ((Below.refl wr.heap.size wr).alloc (Nat.le_refl _) (.cells #[.int .i64 (X k), .string (D k)] 46)) HSE.out.1)
      have HST := Lib.hid (fun e (he : eltE X D k = e) (hne : e ≠ 0) => show scanE X D (baseE (n : Int) len) len = e from by rw [HBE.out]; exact scanE_stop X D k len e hlt HSC.out he hne)
      have s1 := HSZ.out k
      have s0 := HSZ.out 0
      unfold maxLen at s1 s0
      by_cases hx1 : 1 ≤ X k
      · by_cases hx2 : X k ≤ 255
        · obtain ⟨x, hx⟩ : ∃ x : Nat, X k = (x : Int) := ⟨(X k).toNat, by omega⟩
          have HTW := Lib.hid (seenF_twice X k x hx)
          have HSX := Lib.hid (fun y => seenF_succ X k x y hx)
          have HEL := Lib.hid (show eltE X D k = if twiceB X k = true then 4 else if (D k).size = 0 ∨ 1024 < (D k).size ∨ (D k).size ≠ (D 0).size then 6 else 0 from by unfold eltE; rw [if_neg (by omega)])
          rw [hx] at hx1 hx2 c0 HBA HSA
          have f0 := (HSA.out.2 x (by omega)).1
          have z0 := (HSA.out.2 x (by omega)).2
          have HXX := Lib.hid hx
          clear hx
          by_cases htw : twiceB X k = true
          · have HE := Lib.hid (HST.out 4 (by rw [HEL.out, if_pos htw]) (by decide))
            rw [HTW.out, htw] at f0
            clear htw
            go_wp2_with fail
            go_ret2
            exact ⟨Or.inl ⟨by rw [HE.out]; decide, by rw [HE.out]; rfl⟩, HBA.out⟩
          · have htf : twiceB X k = false := by simpa using htw
            rw [HTW.out, htf] at f0
            clear htf
            by_cases ha : (D k).size = 0
            · have HE := Lib.hid (HST.out 6 (by rw [HEL.out, if_neg htw, if_pos (Or.inl ha)]) (by decide))
              have hemp : (D k).toList.isEmpty = true := empty_no _ ha
              clear htw ha
              go_wp2_with fail
              go_quiet (fail)
              go_wp2_with fail
              go_ret2
              exact ⟨Or.inl ⟨by rw [HE.out]; decide, by rw [HE.out]; rfl⟩, below_drewN HBA.out _⟩
            · have hemp : (D k).toList.isEmpty = false := empty_of _ (by omega)
              by_cases hb2 : 1024 < (D k).size
              · have HE := Lib.hid (HST.out 6 (by rw [HEL.out, if_neg htw, if_pos (Or.inr (Or.inl hb2))]) (by decide))
                have g1 : decide ((1024 : Int) < ((D k).size : Int)) = true := decide_eq_true (by omega)
                clear htw ha
                go_wp2_with fail
                go_quiet (fail)
                go_wp2_with fail
                go_ret2
                exact ⟨Or.inl ⟨by rw [HE.out]; decide, by rw [HE.out]; rfl⟩, below_drewN HBA.out _⟩
              · have g1 : decide ((1024 : Int) < ((D k).size : Int)) = false := decide_eq_false (by omega)
                by_cases hc2 : (D k).size = (D 0).size
                · have HEO := Lib.hid (show eltE X D k = 0 from by rw [HEL.out, if_neg htw, if_neg (by omega)])
                  have g2 : (((D k).size : Int) == ((D 0).size : Int)) = true := by rw [hc2]; simp
                  have g3 : (((D k).size : Int) != ((D 0).size : Int)) = false := by rw [hc2]; simp
                  clear htw ha hc2 hb2
                  go_wp2_with fail
                  go_quiet (fail)
                  go_wp2_with fail
                  go_roundw
                  case rel => exact ⟨k + 1, by omega, by go_num, (below_drewN HBA.out _).setCell (Nat.le_refl _) _, (HSA.out.drewN _).set x (by omega) HSX.out, scanE_next X D k HSC.out HEO.out⟩
                  case measure => simp [intOf]; omega
                · have HE := Lib.hid (HST.out 6 (by rw [HEL.out, if_neg htw, if_pos (Or.inr (Or.inr hc2))]) (by decide))
                  have g2 : (((D k).size : Int) == ((D 0).size : Int)) = false := by simp; omega
                  have g3 : (((D k).size : Int) != ((D 0).size : Int)) = true := by simp; omega
                  clear htw ha hc2 hb2
                  go_wp2_with fail
                  go_quiet (fail)
                  go_wp2_with fail
                  go_ret2
                  exact ⟨Or.inl ⟨by rw [HE.out]; decide, by rw [HE.out]; rfl⟩, below_drewN HBA.out _⟩
        · have HE := Lib.hid (HST.out 7 (by unfold eltE; rw [if_pos (by omega)]) (by decide))
          go_wp2_with fail
          go_ret2
          exact ⟨Or.inl ⟨by rw [HE.out]; decide, by rw [HE.out]; rfl⟩, HBA.out⟩
      · have HE := Lib.hid (HST.out 7 (by unfold eltE; rw [if_pos (by omega)]) (by decide))
        go_wp2_with fail
        go_ret2
        exact ⟨Or.inl ⟨by rw [HE.out]; decide, by rw [HE.out]; rfl⟩, HBA.out⟩
    · have hd : decide ((k : Int) < (len : Int)) = false := decide_eq_false (by omega)
      have hd2 : decide (k < len) = false := decide_eq_false (by omega)
      have HZ := Lib.hid (show scanE X D 0 len = 0 from by
        have h := HSC.out
        rw [show k = len by omega] at h
        exact h)
      clear HSE HSC
      obtain ⟨hf1, hf2, hf3, hf4⟩ := shares_fit X D len HZ.out
      have HXN := Lib.hid (HX.out.nat hf1)
      have HDD := Lib.hid hf2
      have HII := Lib.hid hf3
      have HMM := Lib.hid (hf4 (by omega))
      have HXX := Lib.hid (fun i (hi : i < len) => show X i = ((xN X i : Nat) : Int) from by have := hf1 i hi; unfold xN; omega)
      clear hf1 hf2 hf3 hf4
      have HC := Lib.hid (fun (at' : Nat) (w : World) (hx : SRow w w.heap.size (some ⟨b0, off0, none⟩) n (xN X) D) (ha : at' < 256) => valueAt61 (some ⟨b0, off0, none⟩) ca n (D 0).size (xN X) D at' w hx (xN_lt X) ha hn h0 (by have := HMM.out; omega) (fun i hi => HDD.out i (by omega)))
      go_wp2_with fail
      go_loopw [76] (fun tv wr => ∃ t : Nat, t ≤ len - n ∧ tv = .int .i64 t ∧ Below w.heap.size w wr ∧ Hid (∀ i, n ≤ i → i < n + t → vS (xN X) D n (xN X i) (D 0).size = D i)) (fun tv _ => len - n - (intOf tv).toNat)
      case atStart => exact ⟨0, by omega, rfl, HB.out, fun i h1 h2 => by omega⟩
      case round =>
        clear HB
        obtain ⟨t, ht, rfl, hb, HG⟩ := hrel
        have HBW := Lib.hid hb
        clear hb
        by_cases hlt2 : t < len - n
        · have hd : decide ((t : Int) < ((len - n : Nat) : Int)) = true := decide_eq_true (by omega)
          have hd2 : decide (t < len - n) = true := decide_eq_true hlt2
          obtain ⟨i, hi⟩ : ∃ i, i = n + t := ⟨_, rfl⟩
          obtain ⟨b', off', e', hbB', c0, c1⟩ := (HXN.out.below HBW.out) i (by omega)
          cases e'
          have ea : off0 + i * 2 = off0 + n * 2 + t * 2 := by omega
          rw [ea] at c0 c1
          clear ea
          have HI1 := Lib.hid (show n ≤ i ∧ i < len ∧ i = n + t from ⟨by omega, by omega, hi⟩)
          clear hi
          have HXB := Lib.hid ((HXN.out.less hln).at' (below_step HBW.out (Nat.le_refl _) ((Below.refl wr.heap.size wr).alloc (Nat.le_refl _) (.cells #[.int .i64 (xN X i : Nat), .string (D i)] 46))))
          have HBB := Lib.hid (below_step HBW.out (Nat.le_refl _) ((Below.refl wr.heap.size wr).alloc (Nat.le_refl _) (.cells #[.int .i64 (xN X i : Nat), .string (D i)] 46)))
          have x0 := (Blk.new wr 46 #[.int .i64 (xN X i : Nat), .string (D i)]).cell 0
          have x1 := (Blk.new wr 46 #[.int .i64 (xN X i : Nat), .string (D i)]).cell 1
          have hxl := xN_lt X i
          have wk : IntKind.u8.wrap ((xN X i : Nat) : Int) = ((xN X i : Nat) : Int) := by rw [IntKind.wrap_u8]; omega
          have HCX := Lib.hid (fun W h => HC.out (xN X i) W h hxl)
          have HSB := Lib.hid (show (Below w.heap.size w (wr.alloc (.cells #[.int .i64 (xN X i : Nat), .string (D i)] 46)) ∧ wr.heap.size < (wr.alloc (.cells #[.int .i64 (xN X i : Nat), .string (D i)] 46)).heap.size) ∧ (wr.alloc (.cells #[.int .i64 (xN X i : Nat), .string (D i)] 46)).cell? ⟨wr.heap.size, 0, none⟩ = some (.int .i64 (xN X i : Nat)) ∧ (wr.alloc (.cells #[.int .i64 (xN X i : Nat), .string (D i)] 46)).cell? ⟨wr.heap.size, 1, none⟩ = some (.string (D i)) from ⟨⟨HBB.out, by simp⟩, x0, x1⟩)
          clear x0 x1
          go_wp2_with fail
          clear c0 c1
          generalize (wr.alloc (.cells #[.int .i64 (xN X i : Nat), .string (D i)] 46)) = wq at *
          generalize wr.heap.size = g at *
          obtain ⟨V, hV⟩ : ∃ V, V = vS (xN X) D n (xN X i) (D 0).size := ⟨_, rfl⟩
          rw [← hV] at HCX
          have HV := Lib.hid hV
          clear hV
          have HXL := Lib.hid (HXN.out.less hln)
          have hn1 : (n : Int) ≤ (ca : Int) := by omega
          have hn2 : (0 : Int) ≤ (n : Int) := by omega
          have hn3 : n ≤ ca := by omega
          by_cases he : V = D i
          · have HE := Lib.hid (HV.out.symm.trans he)
            have q1 := list_same _ _ he
            have q2 : (!V.toList == (D i).toList) = false := by rw [q1]; rfl
            clear he
            go_region_held3 (fun w' => (Below w.heap.size w w' ∧ g < w'.heap.size) ∧ w'.cell? ⟨g, 0, none⟩ = some (.int .i64 (xN X i : Nat)) ∧ w'.cell? ⟨g, 1, none⟩ = some (.string (D i))) (first | exact sb_below (by assumption) hbb | exact sb_below HSB.out (below_drew (Below.refl _ _)) | assumption) ((go_at_call 61; refine (HCX.out _ (HXL.out.at' (And.left (And.left (by assumption))))).mono ?_; rintro e w' ⟨rfl, hbb⟩))
            go_wp2_with fail
            go_roundw
            case rel =>
              have hw' : Below w.heap.size w w' := And.left (And.left (by assumption : (Below w.heap.size w w' ∧ g < w'.heap.size) ∧ _))
              refine ⟨t + 1, by omega, by go_num, hw', fun i' h1 h2 => ?_⟩
              by_cases h3 : i' < n + t
              · exact HG.out i' h1 h3
              · obtain rfl : i' = i := by have := HI1.out.2.2; omega
                exact HE.out
            case measure => simp [intOf]; omega
          · have HNG := Lib.hid (show ¬ Good (xN X) D n len (D 0).size from fun gd => he (HV.out.trans ((good_at X D n len i (HDD.out i HI1.out.2.1)).2 fun j hj => gd j hj i HI1.out.1 HI1.out.2.1)))
            have q1 := list_other _ _ he
            have q2 : (!V.toList == (D i).toList) = true := by rw [q1]; rfl
            clear he
            go_region_held3 (fun w' => (Below w.heap.size w w' ∧ g < w'.heap.size) ∧ w'.cell? ⟨g, 0, none⟩ = some (.int .i64 (xN X i : Nat)) ∧ w'.cell? ⟨g, 1, none⟩ = some (.string (D i))) (first | exact sb_below (by assumption) hbb | exact sb_below HSB.out (below_drew (Below.refl _ _)) | assumption) ((go_at_call 61; refine (HCX.out _ (HXL.out.at' (And.left (And.left (by assumption))))).mono ?_; rintro e w' ⟨rfl, hbb⟩))
            go_wp2_with fail
            have hw' : Below w.heap.size w w' := And.left (And.left (by assumption : (Below w.heap.size w w' ∧ g < w'.heap.size) ∧ _))
            go_ret2
            exact ⟨Or.inr (Or.inr ⟨by rw [HBE.out]; exact HZ.out, by simpa using HNG.out, rfl⟩), hw'⟩
        · have hd : decide ((t : Int) < ((len - n : Nat) : Int)) = false := decide_eq_false (by omega)
          have hd2 : decide (t < len - n) = false := decide_eq_false hlt2
          have HGD := Lib.hid (show Good (xN X) D n len (D 0).size from fun j hj i h1 h2 => (good_at X D n len i (HDD.out i h2)).1 (HG.out i h1 (by omega)) j hj)
          have HXL := Lib.hid (HXN.out.less hln)
          have hn1 : (n : Int) ≤ (ca : Int) := by omega
          have hn2 : (0 : Int) ≤ (n : Int) := by omega
          have hn3 : n ≤ ca := by omega
          go_wp2_with fail
          refine (HC.out 0 _ (HXL.out.at' HBW.out) (by decide)).mono ?_
          rintro e w' ⟨rfl, hbb⟩
          have HBF := Lib.hid (below_step HBW.out (Nat.le_refl _) hbb)
          clear hbb
          generalize hVV : vS (xN X) D n 0 (D 0).size = VV at *
          have HVV := Lib.hid hVV
          clear hVV
          go_wp2_with fail
          go_ret2
          exact ⟨Or.inr (Or.inl ⟨by rw [HBE.out]; exact HZ.out, by simpa using HGD.out, by rw [← HVV.out]; rfl⟩), HBF.out⟩
end Go.Proofs.Ytnjmcppljbkhnaa
