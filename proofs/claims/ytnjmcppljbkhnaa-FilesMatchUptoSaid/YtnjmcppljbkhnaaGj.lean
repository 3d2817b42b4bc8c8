import Derived.Test.YtnjmcppljbkhnaaGg
import Derived.Test.YtnjmcppljbkhnaaQ
set_option linter.unusedVariables false
set_option linter.unusedSimpArgs false
namespace Go.Proofs.Ytnjmcppljbkhnaa
open Go.RowKit

theorem list_same (a b : ByteArray) (h : a = b) : (a.toList == b.toList) = true := by rw [h]; simp
theorem list_other (a b : ByteArray) (h : ¬ a = b) : (a.toList == b.toList) = false := by
  rw [ByteArray.toList_eq, ByteArray.toList_eq]
  simp only [beq_eq_false_iff_ne, ne_eq]
  intro e
  exact h (ByteArray.ext (Array.ext' e))
theorem good_at (X : Nat → Int) (D : Nat → ByteArray) (n len i : Nat) (hs : (D i).size = (D 0).size) : vS (xN X) D n (xN X i) (D 0).size = D i ↔ ∀ j, j < (D 0).size → vB (xN X) D n (xN X i) n j = at8 (D i) j :=
  strB_eq _ _ _ hs fun j => vB_lt _ D n _ n j (xN_lt X) (xN_lt X i)
theorem sb_below {w W w' : World} {g : Nat} {x y : Value} (h : (Below w.heap.size w W ∧ g < W.heap.size) ∧ W.cell? ⟨g, 0, none⟩ = some x ∧ W.cell? ⟨g, 1, none⟩ = some y) (b : Below W.heap.size W w') :
    (Below w.heap.size w w' ∧ g < w'.heap.size) ∧ w'.cell? ⟨g, 0, none⟩ = some x ∧ w'.cell? ⟨g, 1, none⟩ = some y :=
  ⟨⟨below_step h.1.1 (Nat.le_refl _) b, Nat.lt_of_lt_of_le h.1.2 b.size⟩, (b.cell (p := ⟨g, 0, none⟩) h.1.2).trans h.2.1, (b.cell (p := ⟨g, 1, none⟩) h.1.2).trans h.2.2⟩
set_option maxRecDepth 100000 in
set_option maxHeartbeats 4000000 in
theorem secret26_main (a : Option Addr) (ca len n : Nat) (X : Nat → Int) (D : Nat → ByteArray) (w : World) (hx : SRowI w w.heap.size a len X D) (hs : ∀ i, (D i).size ≤ maxLen) (hn : n ≤ 255) (h0 : 0 < n) (hln : n ≤ len) (hlen : len ≤ 255) (hca : len ≤ ca) (hcn : n < ca) (hcm : ca ≤ maxLen) :
    Calls Try.prog 26 #[.slice a len ca, .int .i64 n] w (SPost X D n len w) := by
  have HX := Lib.hid hx
  have HSZ := Lib.hid hs
  have HBE := Lib.hid (show baseE (n : Int) len = 0 from by unfold baseE; rw [if_neg (by omega), if_neg (by omega), if_neg (by omega)])
  have hz : Try.zeroCells94 = Array.replicate 256 (.bool false) := by kernel_rfl
  have HSN := Lib.hid (show Seen (w.alloc (.cells Try.zeroCells94 94)) w.heap.size (seenF X 0) from by rw [hz]; exact Seen_new w 94 X)
  clear hz
  have HB0 := Lib.hid ((Below.refl w.heap.size w).alloc (Nat.le_refl _) (.cells Try.zeroCells94 94))
  have k1 : decide ((n : Int) < 1) = false := decide_eq_false (by omega)
  have k2 : decide ((255 : Int) < (n : Int)) = false := decide_eq_false (by omega)
  have k3 : decide (len < n) = false := decide_eq_false (by omega)
  have k4 : decide ((255 : Int) < (len : Int)) = false := decide_eq_false (by omega)
  unfold maxLen at hcm
  clear hx hs
  obtain ⟨b0, off0, rfl, hbB0, d0, d1⟩ := HX.out 0 (by omega)
  clear d0 d1
  go_enter Try.func26, Try.ntmps26
  go_wp2_with fail
  generalize w.alloc (.cells Try.zeroCells94 94) = w0 at *
  go_loopw [29] (fun iv wr => ∃ k : Nat, k ≤ len ∧ iv = .int .i64 k ∧ Below w.heap.size w wr ∧ Seen wr w.heap.size (seenF X k) ∧ Hid (scanE X D 0 k = 0)) (fun iv _ => len - (intOf iv).toNat)
  case atStart => exact ⟨0, by omega, rfl, HB0.out, HSN.out, rfl⟩
  case round =>
    clear HSN HB0
    obtain ⟨k, hk, rfl, hb, hse, HSC⟩ := hrel
    have HB := Lib.hid hb
    have HSE := Lib.hid hse
    clear hb hse
    by_cases hlt : k < len
    · have hd : decide ((k : Int) < (len : Int)) = true := decide_eq_true (by omega)
      have hd2 : decide (k < len) = true := decide_eq_true (by omega)
      obtain ⟨b', off', e', hbB', c0, c1⟩ := (HX.out.below HB.out) k hlt
      cases e'
      obtain ⟨b', off', e', hbB'', d0, d1⟩ := (HX.out.below HB.out) 0 (by omega)
      cases e'
      rw [Nat.zero_mul, Nat.add_zero] at d0 d1
      have hlz : (0 : Int) < (len : Int) := by omega
      have hbl : b0 < wr.heap.size := by have := HB.out.size; omega
      have HBA := Lib.hid (below_step HB.out (Nat.le_refl _) ((Below.refl wr.heap.size wr).alloc (Nat.le_refl _) (.cells #[.int .i64 (X k), .string (D k)] 46)))
      have HSA := Lib.hid (HSE.out.below ((Below.refl wr.heap.size wr).alloc (Nat.le_refl _) (.cells #[.int .i64 (X k), .string (D k)] 46)) HSE.out.1)
      have HST := Lib.hid (fun e (he : eltE X D k = e) (hne : e ≠ 0) => show scanE X D (baseE (n : Int) len) len = e from by rw [HBE.out]; exact scanE_stop X D k len e hlt HSC.out he hne)
      have s1 := HSZ.out k
      have s0 := HSZ.out 0
      unfold maxLen at s1 s0
      by_cases hx1 : 1 ≤ X k
      · by_cases hx2 : X k ≤ 255
        · obtain ⟨x, hx⟩ : ∃ x : Nat, X k = (x : Int) := ⟨(X k).toNat, by omega⟩
          have HTW := Lib.hid (seenF_twice X k x hx)
          have HSX := Lib.hid (fun y => seenF_succ X k x y hx)
          have HEL := Lib.hid (show eltE X D k = if twiceB X k = true then 4 else if (D k).size = 0 ∨ 1024 < (D k).size ∨ (D k).size ≠ (D 0).size then 6 else 0 from by unfold eltE; rw [if_neg (by omega)])
          rw [hx] at hx1 hx2 c0 HBA HSA
          have f0 := (HSA.out.2 x (by omega)).1
          have z0 := (HSA.out.2 x (by omega)).2
          have HXX := Lib.hid hx
          clear hx
          by_cases htw : twiceB X k = true
          · have HE := Lib.hid (HST.out 4 (by rw [HEL.out, if_pos htw]) (by decide))
            rw [HTW.out, htw] at f0
            clear htw
            go_wp2_with fail
            go_ret2
            exact ⟨Or.inl ⟨by rw [HE.out]; decide, by rw [HE.out]; rfl⟩, HBA.out⟩
          · have htf : twiceB X k = false := by simpa using htw
            rw [HTW.out, htf] at f0
            clear htf
            by_cases ha : (D k).size = 0
            · have HE := Lib.hid (HST.out 6 (by rw [HEL.out, if_neg htw, if_pos (Or.inl ha)]) (by decide))
              have hemp : (D k).toList.isEmpty = true := empty_no _ ha
              clear htw ha
              go_wp2_with fail
              go_quiet (fail)
              go_wp2_with fail
              go_ret2
              exact ⟨Or.inl ⟨by rw [HE.out]; decide, by rw [HE.out]; rfl⟩, below_drewN HBA.out _⟩
            · have hemp : (D k).toList.isEmpty = false := empty_of _ (by omega)
              by_cases hb2 : 1024 < (D k).size
              · have HE := Lib.hid (HST.out 6 (by rw [HEL.out, if_neg htw, if_pos (Or.inr (Or.inl hb2))]) (by decide))
                have g1 : decide ((1024 : Int) < ((D k).size : Int)) = true := decide_eq_true (by omega)
                clear htw ha
                go_wp2_with fail
                go_quiet (fail)
                go_wp2_with fail
                go_ret2
                exact ⟨Or.inl ⟨by rw [HE.out]; decide, by rw [HE.out]; rfl⟩, below_drewN HBA.out _⟩
              · have g1 : decide ((1024 : Int) < ((D k).size : Int)) = false := decide_eq_false (by omega)
                by_cases hc2 : (D k).size = (D 0).size
                · have HEO := Lib.hid (show eltE X D k = 0 from by rw [HEL.out, if_neg htw, if_neg (by omega)])
                  have g2 : (((D k).size : Int) == ((D 0).size : Int)) = true := by rw [hc2]; simp
                  have g3 : (((D k).size : Int) != ((D 0).size : Int)) = false := by rw [hc2]; simp
                  clear htw ha hc2 hb2
                  go_wp2_with fail
                  go_quiet (fail)
                  go_wp2_with fail
                  go_roundw
                  case rel => exact ⟨k + 1, by omega, by go_num, (below_drewN HBA.out _).setCell (Nat.le_refl _) _, (HSA.out.drewN _).set x (by omega) HSX.out, scanE_next X D k HSC.out HEO.out⟩
                  case measure => simp [intOf]; omega
                · have HE := Lib.hid (HST.out 6 (by rw [HEL.out, if_neg htw, if_pos (Or.inr (Or.inr hc2))]) (by decide))
                  have g2 : (((D k).size : Int) == ((D 0).size : Int)) = false := by simp; omega
                  have g3 : (((D k).size : Int) != ((D 0).size : Int)) = true := by simp; omega
                  clear htw ha hc2 hb2
                  go_wp2_with fail
                  go_quiet (fail)
                  go_wp2_with fail
                  go_ret2
                  exact ⟨Or.inl ⟨by rw [HE.out]; decide, by rw [HE.out]; rfl⟩, below_drewN HBA.out _⟩
        · have HE := Lib.hid (HST.out 7 (by unfold eltE; rw [if_pos (by omega)]) (by decide))
          go_wp2_with fail
          go_ret2
          exact ⟨Or.inl ⟨by rw [HE.out]; decide, by rw [HE.out]; rfl⟩, HBA.out⟩
      · have HE := Lib.hid (HST.out 7 (by unfold eltE; rw [if_pos (by omega)]) (by decide))
        go_wp2_with fail
        go_ret2
        exact ⟨Or.inl ⟨by rw [HE.out]; decide, by rw [HE.out]; rfl⟩, HBA.out⟩
    · have hd : decide ((k : Int) < (len : Int)) = false := decide_eq_false (by omega)
      have hd2 : decide (k < len) = false := decide_eq_false (by omega)
      have HZ := Lib.hid (show scanE X D 0 len = 0 from by
        have h := HSC.out
        rw [show k = len by omega] at h
        exact h)
      clear HSE HSC
      obtain ⟨hf1, hf2, hf3, hf4⟩ := shares_fit X D len HZ.out
      have HXN := Lib.hid (HX.out.nat hf1)
      have HDD := Lib.hid hf2
      have HII := Lib.hid hf3
      have HMM := Lib.hid (hf4 (by omega))
      have HXX := Lib.hid (fun i (hi : i < len) => show X i = ((xN X i : Nat) : Int) from by have := hf1 i hi; unfold xN; omega)
      clear hf1 hf2 hf3 hf4
      have HC := Lib.hid (fun (at' : Nat) (w : World) (hx : SRow w w.heap.size (some ⟨b0, off0, none⟩) n (xN X) D) (ha : at' < 256) => valueAt61 (some ⟨b0, off0, none⟩) ca n (D 0).size (xN X) D at' w hx (xN_lt X) ha hn h0 (by have := HMM.out; omega) (fun i hi => HDD.out i (by omega)))
      go_wp2_with fail
      go_loopw [76] (fun tv wr => ∃ t : Nat, t ≤ len - n ∧ tv = .int .i64 t ∧ Below w.heap.size w wr ∧ Hid (∀ i, n ≤ i → i < n + t → vS (xN X) D n (xN X i) (D 0).size = D i)) (fun tv _ => len - n - (intOf tv).toNat)
      case atStart => exact ⟨0, by omega, rfl, HB.out, fun i h1 h2 => by omega⟩
      case round =>
        clear HB
        obtain ⟨t, ht, rfl, hb, HG⟩ := hrel
        have HBW := Lib.hid hb
        clear hb
        by_cases hlt2 : t < len - n
        · have hd : decide ((t : Int) < ((len - n : Nat) : Int)) = true := decide_eq_true (by omega)
          have hd2 : decide (t < len - n) = true := decide_eq_true hlt2
          obtain ⟨i, hi⟩ : ∃ i, i = n + t := ⟨_, rfl⟩
          obtain ⟨b', off', e', hbB', c0, c1⟩ := (HXN.out.below HBW.out) i (by omega)
          cases e'
          have ea : off0 + i * 2 = off0 + n * 2 + t * 2 := by omega
          rw [ea] at c0 c1
          clear ea
          have HI1 := Lib.hid (show n ≤ i ∧ i < len ∧ i = n + t from ⟨by omega, by omega, hi⟩)
          clear hi
          have HXB := Lib.hid ((HXN.out.less hln).at' (below_step HBW.out (Nat.le_refl _) ((Below.refl wr.heap.size wr).alloc (Nat.le_refl _) (.cells #[.int .i64 (xN X i : Nat), .string (D i)] 46))))
          have HBB := Lib.hid (below_step HBW.out (Nat.le_refl _) ((Below.refl wr.heap.size wr).alloc (Nat.le_refl _) (.cells #[.int .i64 (xN X i : Nat), .string (D i)] 46)))
          have x0 := (Blk.new wr 46 #[.int .i64 (xN X i : Nat), .string (D i)]).cell 0
          have x1 := (Blk.new wr 46 #[.int .i64 (xN X i : Nat), .string (D i)]).cell 1
          have hxl := xN_lt X i
          have wk : IntKind.u8.wrap ((xN X i : Nat) : Int) = ((xN X i : Nat) : Int) := by rw [IntKind.wrap_u8]; omega
          have HCX := Lib.hid (fun W h => HC.out (xN X i) W h hxl)
          have HSB := Lib.hid (show (Below w.heap.size w (wr.alloc (.cells #[.int .i64 (xN X i : Nat), .string (D i)] 46)) ∧ wr.heap.size < (wr.alloc (.cells #[.int .i64 (xN X i : Nat), .string (D i)] 46)).heap.size) ∧ (wr.alloc (.cells #[.int .i64 (xN X i : Nat), .string (D i)] 46)).cell? ⟨wr.heap.size, 0, none⟩ = some (.int .i64 (xN X i : Nat)) ∧ (wr.alloc (.cells #[.int .i64 (xN X i : Nat), .string (D i)] 46)).cell? ⟨wr.heap.size, 1, none⟩ = some (.string (D i)) from ⟨⟨HBB.out, by simp⟩, x0, x1⟩)
          clear x0 x1
          go_wp2_with fail
          clear c0 c1
          generalize (wr.alloc (.cells #[.int .i64 (xN X i : Nat), .string (D i)] 46)) = wq at *
          generalize wr.heap.size = g at *
          obtain ⟨V, hV⟩ : ∃ V, V = vS (xN X) D n (xN X i) (D 0).size := ⟨_, rfl⟩
          rw [← hV] at HCX
          have HV := Lib.hid hV
          clear hV
          have HXL := Lib.hid (HXN.out.less hln)
          have hn1 : (n : Int) ≤ (ca : Int) := by omega
          have hn2 : (0 : Int) ≤ (n : Int) := by omega
          have hn3 : n ≤ ca := by omega
          by_cases he : V = D i
          · have HE := Lib.hid (HV.out.symm.trans he)
            have q1 := list_same _ _ he
            have q2 : (!V.toList == (D i).toList) = false := by rw [q1]; rfl
            clear he
            go_region_held3 (fun w' => (Below w.heap.size w w' ∧ g < w'.heap.size) ∧ w'.cell? ⟨g, 0, none⟩ = some (.int .i64 (xN X i : Nat)) ∧ w'.cell? ⟨g, 1, none⟩ = some (.string (D i))) (first | exact sb_below (by assumption) hbb | exact sb_below HSB.out (below_drew (Below.refl _ _)) | assumption) ((go_at_call 61; refine (HCX.out _ (HXL.out.at' (And.left (And.left (by assumption))))).mono ?_; rintro e w' ⟨rfl, hbb⟩))
            go_wp2_with fail
            go_roundw
            case rel =>
              have hw' : Below w.heap.size w w' := And.left (And.left (by assumption : (Below w.heap.size w w' ∧ g < w'.heap.size) ∧ _))
              refine ⟨t + 1, by omega, by go_num, hw', fun i' h1 h2 => ?_⟩
              by_cases h3 : i' < n + t
              · exact HG.out i' h1 h3
              · obtain rfl : i' = i := by have := HI1.out.2.2; omega
                exact HE.out
            case measure => simp [intOf]; omega
          · have HNG := Lib.hid (show ¬ Good (xN X) D n len (D 0).size from fun gd => he (HV.out.trans ((good_at X D n len i (HDD.out i HI1.out.2.1)).2 fun j hj => gd j hj i HI1.out.1 HI1.out.2.1)))
            have q1 := list_other _ _ he
            have q2 : (!V.toList == (D i).toList) = true := by rw [q1]; rfl
            clear he
            go_region_held3 (fun w' => (Below w.heap.size w w' ∧ g < w'.heap.size) ∧ w'.cell? ⟨g, 0, none⟩ = some (.int .i64 (xN X i : Nat)) ∧ w'.cell? ⟨g, 1, none⟩ = some (.string (D i))) (first | exact sb_below (by assumption) hbb | exact sb_below HSB.out (below_drew (Below.refl _ _)) | assumption) ((go_at_call 61; refine (HCX.out _ (HXL.out.at' (And.left (And.left (by assumption))))).mono ?_; rintro e w' ⟨rfl, hbb⟩))
            go_wp2_with fail
            have hw' : Below w.heap.size w w' := And.left (And.left (by assumption : (Below w.heap.size w w' ∧ g < w'.heap.size) ∧ _))
            go_ret2
            exact ⟨Or.inr (Or.inr ⟨by rw [HBE.out]; exact HZ.out, by simpa using HNG.out, rfl⟩), hw'⟩
        · have hd : decide ((t : Int) < ((len - n : Nat) : Int)) = false := decide_eq_false (by omega)
          have hd2 : decide (t < len - n) = false := decide_eq_false hlt2
          have HGD := Lib.hid (show Good (xN X) D n len (D 0).size from fun j hj i h1 h2 => (good_at X D n len i (HDD.out i h2)).1 (HG.out i h1 (by omega)) j hj)
          have HXL := Lib.hid (HXN.out.less hln)
          have hn1 : (n : Int) ≤ (ca : Int) := by omega
          have hn2 : (0 : Int) ≤ (n : Int) := by omega
          have hn3 : n ≤ ca := by omega
          go_wp2_with fail
          refine (HC.out 0 _ (HXL.out.at' HBW.out) (by decide)).mono ?_
          rintro e w' ⟨rfl, hbb⟩
          have HBF := Lib.hid (below_step HBW.out (Nat.le_refl _) hbb)
          clear hbb
          generalize hVV : vS (xN X) D n 0 (D 0).size = VV at *
          have HVV := Lib.hid hVV
          clear hVV
          go_wp2_with fail
          go_ret2
          exact ⟨Or.inr (Or.inl ⟨by rw [HBE.out]; exact HZ.out, by simpa using HGD.out, by rw [← HVV.out]; rfl⟩), HBF.out⟩
end Go.Proofs.Ytnjmcppljbkhnaa

set_option linter.unusedVariables false
set_option linter.unusedSimpArgs false
namespace Go.Proofs.Ytnjmcppljbkhnaa
open Go.RowKit

set_option maxRecDepth 100000 in
set_option maxHeartbeats 4000000 in
theorem secret26_same (a : Option Addr) (n : Nat) (X : Nat → Int) (D : Nat → ByteArray) (w : World) (hx : SRowI w w.heap.size a n X D) (hs : ∀ i, (D i).size ≤ maxLen) (hn : n ≤ 255) (h0 : 0 < n) (hcm : n ≤ maxLen) :
    Calls Try.prog 26 #[.slice a n n, .int .i64 n] w (SPost X D n n w) := by
  have HX := Lib.hid hx
  have HSZ := Lib.hid hs
  have HBE := Lib.hid (show baseE (n : Int) n = 0 from by unfold baseE; rw [if_neg (by omega), if_neg (by omega), if_neg (by omega)])
  have hz : Try.zeroCells94 = Array.replicate 256 (.bool false) := by kernel_rfl
  have HSN := Lib.hid (show Seen (w.alloc (.cells Try.zeroCells94 94)) w.heap.size (seenF X 0) from by rw [hz]; exact Seen_new w 94 X)
  clear hz
  have HB0 := Lib.hid ((Below.refl w.heap.size w).alloc (Nat.le_refl _) (.cells Try.zeroCells94 94))
  have k1 : decide ((n : Int) < 1) = false := decide_eq_false (by omega)
  have k2 : decide ((255 : Int) < (n : Int)) = false := decide_eq_false (by omega)
  have k3 : decide (n < n) = false := decide_eq_false (by omega)
  have k4 : decide ((255 : Int) < (n : Int)) = false := decide_eq_false (by omega)
  unfold maxLen at hcm
  clear hx hs
  obtain ⟨b0, off0, rfl, hbB0, d0, d1⟩ := HX.out 0 (by omega)
  clear d0 d1
  go_enter Try.func26, Try.ntmps26
  go_wp2_with fail
  generalize w.alloc (.cells Try.zeroCells94 94) = w0 at *
  go_loopw [29] (fun iv wr => ∃ k : Nat, k ≤ n ∧ iv = .int .i64 k ∧ Below w.heap.size w wr ∧ Seen wr w.heap.size (seenF X k) ∧ Hid (scanE X D 0 k = 0)) (fun iv _ => n - (intOf iv).toNat)
  case atStart => exact ⟨0, by omega, rfl, HB0.out, HSN.out, rfl⟩
  case round =>
    clear HSN HB0
    obtain ⟨k, hk, rfl, hb, hse, HSC⟩ := hrel
    have HB := Lib.hid hb
    have HSE := Lib.hid hse
    clear hb hse
    by_cases hlt : k < n
    · have hd : decide ((k : Int) < (n : Int)) = true := decide_eq_true (by omega)
      have hd2 : decide (k < n) = true := decide_eq_true (by omega)
      obtain ⟨b', off', e', hbB', c0, c1⟩ := (HX.out.below HB.out) k hlt
      cases e'
      obtain ⟨b', off', e', hbB'', d0, d1⟩ := (HX.out.below HB.out) 0 (by omega)
      cases e'
      rw [Nat.zero_mul, Nat.add_zero] at d0 d1
      have hlz : (0 : Int) < (n : Int) := by omega
      have hbl : b0 < wr.heap.size := by have := HB.out.size; omega
      have HBA := Lib.hid (below_step HB.out (Nat.le_refl _) ((Below.refl wr.heap.size wr).alloc (Nat.le_refl _) (.cells #[.int .i64 (X k), .string (D k)] 46)))
      have HSA := Lib.hid (HSE.out.below ((Below.refl wr.heap.size wr).alloc (Nat.le_refl _) (.cells #[.int .i64 (X k), .string (D k)] 46)) HSE.out.1)
      have HST := Lib.hid (fun e (he : eltE X D k = e) (hne : e ≠ 0) => show scanE X D (baseE (n : Int) n) n = e from by rw [HBE.out]; exact scanE_stop X D k n e hlt HSC.out he hne)
      have s1 := HSZ.out k
      have s0 := HSZ.out 0
      unfold maxLen at s1 s0
      by_cases hx1 : 1 ≤ X k
      · by_cases hx2 : X k ≤ 255
        · obtain ⟨x, hx⟩ : ∃ x : Nat, X k = (x : Int) := ⟨(X k).toNat, by omega⟩
          have HTW := Lib.hid (seenF_twice X k x hx)
          have HSX := Lib.hid (fun y => seenF_succ X k x y hx)
          have HEL := Lib.hid (show eltE X D k = if twiceB X k = true then 4 else if (D k).size = 0 ∨ 1024 < (D k).size ∨ (D k).size ≠ (D 0).size then 6 else 0 from by unfold eltE; rw [if_neg (by omega)])
          rw [hx] at hx1 hx2 c0 HBA HSA
          have f0 := (HSA.out.2 x (by omega)).1
          have z0 := (HSA.out.2 x (by omega)).2
          have HXX := Lib.hid hx
          clear hx
          by_cases htw : twiceB X k = true
          · have HE := Lib.hid (HST.out 4 (by rw [HEL.out, if_pos htw]) (by decide))
            rw [HTW.out, htw] at f0
            clear htw
            go_wp2_with fail
            go_ret2
            exact ⟨Or.inl ⟨by rw [HE.out]; decide, by rw [HE.out]; rfl⟩, HBA.out⟩
          · have htf : twiceB X k = false := by simpa using htw
            rw [HTW.out, htf] at f0
            clear htf
            by_cases ha : (D k).size = 0
            · have HE := Lib.hid (HST.out 6 (by rw [HEL.out, if_neg htw, if_pos (Or.inl ha)]) (by decide))
              have hemp : (D k).toList.isEmpty = true := empty_no _ ha
              clear htw ha
              go_wp2_with fail
              go_quiet (fail)
              go_wp2_with fail
              go_ret2
              exact ⟨Or.inl ⟨by rw [HE.out]; decide, by rw [HE.out]; rfl⟩, below_drewN HBA.out _⟩
            · have hemp : (D k).toList.isEmpty = false := empty_of _ (by omega)
              by_cases hb2 : 1024 < (D k).size
              · have HE := Lib.hid (HST.out 6 (by rw [HEL.out, if_neg htw, if_pos (Or.inr (Or.inl hb2))]) (by decide))
                have g1 : decide ((1024 : Int) < ((D k).size : Int)) = true := decide_eq_true (by omega)
                clear htw ha
                go_wp2_with fail
                go_quiet (fail)
                go_wp2_with fail
                go_ret2
                exact ⟨Or.inl ⟨by rw [HE.out]; decide, by rw [HE.out]; rfl⟩, below_drewN HBA.out _⟩
              · have g1 : decide ((1024 : Int) < ((D k).size : Int)) = false := decide_eq_false (by omega)
                by_cases hc2 : (D k).size = (D 0).size
                · have HEO := Lib.hid (show eltE X D k = 0 from by rw [HEL.out, if_neg htw, if_neg (by omega)])
                  have g2 : (((D k).size : Int) == ((D 0).size : Int)) = true := by rw [hc2]; simp
                  have g3 : (((D k).size : Int) != ((D 0).size : Int)) = false := by rw [hc2]; simp
                  clear htw ha hc2 hb2
                  go_wp2_with fail
                  go_quiet (fail)
                  go_wp2_with fail
                  go_roundw
                  case rel => exact ⟨k + 1, by omega, by go_num, (below_drewN HBA.out _).setCell (Nat.le_refl _) _, (HSA.out.drewN _).set x (by omega) HSX.out, scanE_next X D k HSC.out HEO.out⟩
                  case measure => simp [intOf]; omega
                · have HE := Lib.hid (HST.out 6 (by rw [HEL.out, if_neg htw, if_pos (Or.inr (Or.inr hc2))]) (by decide))
                  have g2 : (((D k).size : Int) == ((D 0).size : Int)) = false := by simp; omega
                  have g3 : (((D k).size : Int) != ((D 0).size : Int)) = true := by simp; omega
                  clear htw ha hc2 hb2
                  go_wp2_with fail
                  go_quiet (fail)
                  go_wp2_with fail
                  go_ret2
                  exact ⟨Or.inl ⟨by rw [HE.out]; decide, by rw [HE.out]; rfl⟩, below_drewN HBA.out _⟩
        · have HE := Lib.hid (HST.out 7 (by unfold eltE; rw [if_pos (by omega)]) (by decide))
          go_wp2_with fail
          go_ret2
          exact ⟨Or.inl ⟨by rw [HE.out]; decide, by rw [HE.out]; rfl⟩, HBA.out⟩
      · have HE := Lib.hid (HST.out 7 (by unfold eltE; rw [if_pos (by omega)]) (by decide))
        go_wp2_with fail
        go_ret2
        exact ⟨Or.inl ⟨by rw [HE.out]; decide, by rw [HE.out]; rfl⟩, HBA.out⟩
    · have hd : decide ((k : Int) < (n : Int)) = false := decide_eq_false (by omega)
      have hd2 : decide (k < n) = false := decide_eq_false (by omega)
      have HZ := Lib.hid (show scanE X D 0 n = 0 from by
        have h := HSC.out
        rw [show k = n by omega] at h
        exact h)
      clear HSE HSC
      obtain ⟨hf1, hf2, hf3, hf4⟩ := shares_fit X D n HZ.out
      have HXN := Lib.hid (HX.out.nat hf1)
      have HDD := Lib.hid hf2
      have HII := Lib.hid hf3
      have HMM := Lib.hid (hf4 (by omega))
      have HXX := Lib.hid (fun i (hi : i < n) => show X i = ((xN X i : Nat) : Int) from by have := hf1 i hi; unfold xN; omega)
      clear hf1 hf2 hf3 hf4
      have HC := Lib.hid (fun (at' : Nat) (w : World) (hx : SRow w w.heap.size (some ⟨b0, off0, none⟩) n (xN X) D) (ha : at' < 256) => valueAt61 (some ⟨b0, off0, none⟩) n n (D 0).size (xN X) D at' w hx (xN_lt X) ha hn h0 (by have := HMM.out; omega) (fun i hi => HDD.out i (by omega)))
      go_wp2_with fail
      go_loopw [76] (fun tv wr => ∃ t : Nat, t ≤ n - n ∧ tv = .int .i64 t ∧ Below w.heap.size w wr ∧ Hid (∀ i, n ≤ i → i < n + t → vS (xN X) D n (xN X i) (D 0).size = D i)) (fun tv _ => n - n - (intOf tv).toNat)
      case atStart => exact ⟨0, by omega, rfl, HB.out, fun i h1 h2 => by omega⟩
      case round =>
        clear HB
        obtain ⟨t, ht, rfl, hb, HG⟩ := hrel
        have HBW := Lib.hid hb
        clear hb
        by_cases hlt2 : t < n - n
        · exfalso; omega
        · have hd : decide ((t : Int) < ((n - n : Nat) : Int)) = false := decide_eq_false (by omega)
          have hd2 : decide (t < n - n) = false := decide_eq_false hlt2
          have HGD := Lib.hid (show Good (xN X) D n n (D 0).size from fun j hj i h1 h2 => (good_at X D n n i (HDD.out i h2)).1 (HG.out i h1 (by omega)) j hj)
          have HXL := Lib.hid (HXN.out)
          have hn1 : (n : Int) ≤ (n : Int) := by omega
          have hn2 : (0 : Int) ≤ (n : Int) := by omega
          have hn3 : n ≤ n := by omega
          go_wp2_with fail
          refine (HC.out 0 _ (HXL.out.at' HBW.out) (by decide)).mono ?_
          rintro e w' ⟨rfl, hbb⟩
          have HBF := Lib.hid (below_step HBW.out (Nat.le_refl _) hbb)
          clear hbb
          generalize hVV : vS (xN X) D n 0 (D 0).size = VV at *
          have HVV := Lib.hid hVV
          clear hVV
          go_wp2_with fail
          go_ret2
          exact ⟨Or.inr (Or.inl ⟨by rw [HBE.out]; exact HZ.out, by simpa using HGD.out, by rw [← HVV.out]; rfl⟩), HBF.out⟩

theorem secret26 (a : Option Addr) (ca len : Nat) (X : Nat → Int) (D : Nat → ByteArray) (n : Int) (w : World) (hx : SRowI w w.heap.size a len X D) (hs : ∀ i, (D i).size ≤ maxLen) (hca : len ≤ ca) (hcm : ca ≤ maxLen) :
    Calls Try.prog 26 #[.slice a len ca, .int .i64 n] w (SPost X D n len w) := by
  by_cases hb : baseE n len = 0
  · have h1 : 1 ≤ n ∧ n ≤ 255 ∧ n ≤ (len : Int) ∧ len ≤ 255 := by
      unfold baseE at hb
      split at hb
      · cases hb
      · split at hb
        · cases hb
        · split at hb
          · cases hb
          · refine ⟨?_, ?_, ?_, ?_⟩ <;> omega
    obtain ⟨q, rfl⟩ : ∃ q : Nat, n = (q : Int) := ⟨n.toNat, by omega⟩
    by_cases hcn : q < ca
    · exact secret26_main a ca len q X D w hx hs (by omega) (by omega) (by omega) (by omega) hca hcn hcm
    · obtain rfl : ca = q := by omega
      obtain rfl : len = ca := by omega
      exact secret26_same a len X D w hx hs (by omega) (by omega) hcm
  · exact secret26_base a ca len X D n w (Nat.le_trans hca hcm) hb
end Go.Proofs.Ytnjmcppljbkhnaa

set_option linter.unusedVariables false
set_option linter.unusedSimpArgs false
namespace Go.Proofs.Ytnjmcppljbkhnaa
open Go.RowKit

/-- the first xs.length cells at a hold the numbers xs, in blocks below B. -/
def Row (w : World) (B : Nat) (a : Option Addr) (xs : List Int) : Prop :=
  ∀ i, i < xs.length → ∃ b off, a = some ⟨b, off, none⟩ ∧ b < B ∧ w.cell? ⟨b, off + i, none⟩ = some (.int .i64 (xs.getD i 0))

theorem Row.below {w w' : World} {B : Nat} {a : Option Addr} {xs : List Int} (h : Row w B a xs) (hb : Below B w w') : Row w' B a xs := by
  intro i hi
  obtain ⟨b, off, e, hlt, hc⟩ := h i hi
  exact ⟨b, off, e, hlt, (hb.cell (p := ⟨b, off + i, none⟩) hlt).trans hc⟩
theorem Row.more {w : World} {B B' : Nat} {a : Option Addr} {xs : List Int} (h : Row w B a xs) (hb : B ≤ B') : Row w B' a xs := by
  intro i hi
  obtain ⟨b, off, e, hlt, hc⟩ := h i hi
  exact ⟨b, off, e, by omega, hc⟩
/-- the number that is not 0 first. -/
def firstI : List Int → Int
  | [] => 0
  | x :: l => if x = 0 then firstI l else x

theorem firstI_take_succ (xs : List Int) (k : Nat) (hx : k < xs.length) (h : ∀ i, i < k → xs.getD i 0 = 0) (e : ¬ xs[k] = 0) : firstI xs = xs[k] := by
  induction xs generalizing k with
  | nil => simp at hx
  | cons x l ih =>
    cases k with
    | zero => simp at e; simp [firstI, e]
    | succ k =>
      have h0 : x = 0 := by simpa using h 0 (by omega)
      have := ih k (by simpa using hx) (fun i hi => by simpa using h (i + 1) (by omega)) (by simpa using e)
      simp [firstI, h0, this]
theorem firstI_zero (xs : List Int) (h : ∀ i, i < xs.length → xs.getD i 0 = 0) : firstI xs = 0 := by
  induction xs with
  | nil => rfl
  | cons x l ih =>
    have h0 : x = 0 := by simpa using h 0 (by simp)
    simp [firstI, h0, ih fun i hi => by simpa using h (i + 1) (by simpa using hi)]

set_option maxHeartbeats 400000 in
theorem first15 (a : Option Addr) (ca : Nat) (xs : List Int) (w : World) (B : Nat) (hx : Row w B a xs) (lx : xs.length ≤ maxLen) :
    Calls Try.prog 15 #[.slice a xs.length ca] w fun e w' => e = .returned (.int .i64 (firstI xs)) ∧ w = w' := by
  unfold maxLen at lx
  have HX := Lib.hid hx
  clear hx
  go_enter Try.func15, Try.ntmps15
  go_wp2
  go_loop [7] (fun i => ∃ k : Nat, k ≤ xs.length ∧ i = .int .i64 k ∧ ∀ i, i < k → xs.getD i 0 = 0) (fun i => xs.length - (intOf i).toNat)
  case atStart => exact ⟨0, by omega, rfl, by simp⟩
  case round =>
    obtain ⟨k, hk, rfl, hz⟩ := hrel
    have HZ := Lib.hid hz
    clear hz
    by_cases hlt : k < xs.length
    · obtain ⟨bx, ox, rfl, _, cx⟩ := HX.out k hlt
      go_wp2
      · go_ret
        exact ⟨ret_int (firstI_take_succ xs k hlt HZ.out (by simpa using ‹(xs[k] != 0) = true›)).symm, rfl⟩
      · go_round
        case rel =>
          refine ⟨k + 1, by omega, by go_num, fun i hi => ?_⟩
          by_cases hik : i < k
          · exact HZ.out i hik
          · obtain rfl : i = k := by omega
            simpa [List.getElem?_eq_getElem hlt] using ‹(xs[i] != 0) = false›
        case measure => simp [intOf]; omega
    · go_wp2
      go_ret
      exact ⟨ret_int (firstI_zero xs fun i hi => HZ.out i (by omega)).symm, rfl⟩


set_option maxHeartbeats 400000 in
theorem when17 (b : Bool) (x : Int) (w : World) : Calls Try.prog 17 #[.bool b, .int .i64 x] w fun e w' => e = .returned (.int .i64 (if b = true then x else 0)) ∧ w = w' := by
  cases b
  · go_enter Try.func17, Try.ntmps17
    go_wp2
    go_ret
    exact ⟨rfl, rfl⟩
  · go_enter Try.func17, Try.ntmps17
    go_wp2
    go_ret
    exact ⟨rfl, rfl⟩
set_option maxHeartbeats 400000 in
theorem closure28 (x y : Int) (d : ByteArray) (g : Nat) (w : World) (hg : g < w.heap.size) (hc : w.cell? ⟨g, 0, none⟩ = some (.int .i64 x)) : Calls Try.prog 28 #[.agg #[.int .i64 y, .string d], .pointer (some ⟨g, 0, none⟩)] w fun e w' => e = .returned (.bool (y == x)) ∧ Below w.heap.size w w' := by
  go_enter Try.func28, Try.ntmps28
  go_wp2
  go_ret
  exact ⟨rfl, (Below.refl _ _).alloc (Nat.le_refl _) _⟩
/-- what an index says. -/
def IdxPost (X : Nat → Int) (n : Nat) (x : Int) (w : World) (e : Ending) (w' : World) : Prop :=
  ∃ r : Int, e = .returned (.int .i64 r) ∧ decide (0 ≤ r) = (List.range n).any (fun j => X j == x) ∧ Below w.heap.size w w'
set_option maxRecDepth 100000 in
set_option maxHeartbeats 1000000 in
theorem indexFunc62 (a : Option Addr) (ca n : Nat) (X : Nat → Int) (D : Nat → ByteArray) (x : Int) (g : Nat) (w : World) (hx : SRowI w w.heap.size a n X D) (hn : n ≤ maxLen) (hg : g < w.heap.size) (hc : w.cell? ⟨g, 0, none⟩ = some (.int .i64 x)) :
    Calls Try.prog 62 #[.slice a n ca, .func (.func 28) #[] #[.pointer (some ⟨g, 0, none⟩)]] w (IdxPost X n x w) := by
  have HX := Lib.hid hx
  have HC := Lib.hid hc
  unfold maxLen at hn
  clear hx hc
  go_enter Try.func62, Try.ntmps62
  go_wp2_with fail
  go_loopw [8] (fun iv wr => ∃ k : Nat, k ≤ n ∧ iv = .int .i64 k ∧ Below w.heap.size w wr ∧ Hid (∀ j, j < k → (X j == x) = false)) (fun iv _ => n - (intOf iv).toNat)
  case atStart => exact ⟨0, by omega, rfl, Below.refl _ _, fun j hj => by omega⟩
  case round =>
    obtain ⟨k, hk, rfl, hb, HN⟩ := hrel
    have HB := Lib.hid hb
    have hsz := hb.size
    clear hb
    by_cases hlt : k < n
    · obtain ⟨b, off, rfl, hbB, c0, c1⟩ := (HX.out.below HB.out) k hlt
      have hcg := (HB.out.cell (p := ⟨g, 0, none⟩) hg).trans HC.out
      have hd : decide ((k : Int) < (n : Int)) = true := decide_eq_true (by omega)
      have hk1 : (k : Int) < (n : Int) := by omega
      cases he : (X k == x)
      · have HE := Lib.hid he
        have HCC := Lib.hid (fun (w : World) hg hc => (closure28 x (X k) (D k) g w hg hc).mono (R' := fun e w' => e = .returned (.bool false) ∧ Below w.heap.size w w') (fun e w' h => by rw [he] at h; exact h))
        clear he
        go_wp2_with fail
        refine (HCC.out wr (by omega) hcg).mono ?_
        rintro e w1 ⟨rfl, b1⟩
        have HB1 := Lib.hid (below_step HB.out (Nat.le_refl _) b1)
        clear b1
        go_wp2_with fail
        go_roundw
        case rel =>
          refine ⟨k + 1, by omega, by go_num, HB1.out, fun j hj => ?_⟩
          by_cases e : j = k
          · rw [e]; exact HE.out
          · exact HN.out j (by omega)
        case measure => simp [intOf]; omega
      · have HE := Lib.hid he
        have HCC := Lib.hid (fun (w : World) hg hc => (closure28 x (X k) (D k) g w hg hc).mono (R' := fun e w' => e = .returned (.bool true) ∧ Below w.heap.size w w') (fun e w' h => by rw [he] at h; exact h))
        clear he
        go_wp2_with fail
        refine (HCC.out wr (by omega) hcg).mono ?_
        rintro e w1 ⟨rfl, b1⟩
        have HB1 := Lib.hid (below_step HB.out (Nat.le_refl _) b1)
        clear b1
        go_wp2_with fail
        go_ret
        refine ⟨_, rfl, ?_, HB1.out⟩
        have h1 : (List.range n).any (fun j => X j == x) = true := by
          rw [List.any_eq_true]
          exact ⟨k, by simpa using hlt, HE.out⟩
        rw [h1]
        simp
    · have hd : decide ((k : Int) < (n : Int)) = false := decide_eq_false (by omega)
      go_wp2_with fail
      go_ret
      refine ⟨_, rfl, ?_, HB.out⟩
      have h1 : (List.range n).any (fun j => X j == x) = false := by
        rw [List.any_eq_false]
        intro j hj
        rw [HN.out j (by have : j < n := by simpa using hj
                         omega)]
        simp
      rw [h1]
      rfl
set_option maxHeartbeats 400000 in
theorem containsFunc27 (a : Option Addr) (ca n : Nat) (X : Nat → Int) (D : Nat → ByteArray) (x : Int) (g : Nat) (w : World) (hx : SRowI w w.heap.size a n X D) (hn : n ≤ maxLen) (hg : g < w.heap.size) (hc : w.cell? ⟨g, 0, none⟩ = some (.int .i64 x)) :
    Calls Try.prog 27 #[.slice a n ca, .func (.func 28) #[] #[.pointer (some ⟨g, 0, none⟩)]] w fun e w' => e = .returned (.bool ((List.range n).any fun j => X j == x)) ∧ Below w.heap.size w w' := by
  have HC := Lib.hid (indexFunc62 a ca n X D x g w hx hn hg hc)
  clear hx hc
  go_enter Try.func27, Try.ntmps27
  go_wp2_with fail
  refine HC.out.mono ?_
  rintro e w1 ⟨r, rfl, hr, b1⟩
  have HB := Lib.hid b1
  have HR := Lib.hid hr
  clear b1 hr
  go_wp2_with fail
  go_ret
  exact ⟨ret_bool (by rw [← HR.out]), HB.out⟩
set_option maxHeartbeats 400000 in
theorem outcome19_err (s t : ByteArray) (e f : Int) (r : Bool) (w : World) (hf : f ≠ 0) (hr : r = (s.toList.isEmpty && (e == f))) : Calls Try.prog 19 #[.string s, .int .i64 e, .string t, .int .i64 f] w fun e' w' => e' = .returned (.bool r) ∧ w = w' := by
  have HR := Lib.hid hr
  clear hr
  have h1 : (f == 0) = false := by simpa using hf
  have h2 : (f != 0) = true := by simpa using hf
  cases hs : s.toList.isEmpty
  · go_enter Try.func19, Try.ntmps19
    go_wp2
    go_ret
    exact ⟨ret_bool (by rw [HR.out, hs]; rfl), rfl⟩
  · go_enter Try.func19, Try.ntmps19
    go_wp2
    go_ret
    exact ⟨ret_bool (by rw [HR.out, hs]; rfl), rfl⟩
set_option maxHeartbeats 400000 in
theorem outcome19_ok (s t : ByteArray) (e : Int) (r : Bool) (w : World) (hr : r = ((s.toList == t.toList) && (e == 0))) : Calls Try.prog 19 #[.string s, .int .i64 e, .string t, .int .i64 0] w fun e' w' => e' = .returned (.bool r) ∧ w = w' := by
  have HR := Lib.hid hr
  clear hr
  cases hs : (s.toList == t.toList)
  · go_enter Try.func19, Try.ntmps19
    go_wp2
    go_ret
    exact ⟨ret_bool (by rw [HR.out, hs]; rfl), rfl⟩
  · go_enter Try.func19, Try.ntmps19
    go_wp2
    go_ret
    exact ⟨ret_bool (by rw [HR.out, hs]; rfl), rfl⟩
end Go.Proofs.Ytnjmcppljbkhnaa
