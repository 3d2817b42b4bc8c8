import Derived.Test.YtnjmcppljbkhnaaV
set_option linter.unusedVariables false
set_option linter.unusedSimpArgs false
namespace Go.Proofs.Ytnjmcppljbkhnaa
open Go.RowKit

/-- byte j of the value, out of the first i shares. -/
def vB (X : Nat → Nat) (D : Nat → ByteArray) (n at' i j : Nat) : Nat := vK X (fun t => at8 (D t) j) n at' i
def vArr (X : Nat → Nat) (D : Nat → ByteArray) (n at' i j : Nat) : Nat → Nat := fun q => if q < j then vB X D n at' (i + 1) q else vB X D n at' i q
theorem vB_succ (X : Nat → Nat) (D : Nat → ByteArray) (n at' i j : Nat) : vB X D n at' (i + 1) j = vB X D n at' i j ^^^ tm (wK X i at' n) (at8 (D i) j) := rfl
theorem vArr_step (X : Nat → Nat) (D : Nat → ByteArray) (n at' i j v : Nat) (h : v = vB X D n at' (i + 1) j) : upd (vArr X D n at' i j) j v = vArr X D n at' i (j + 1) := by
  funext q
  unfold upd vArr
  by_cases e : q = j
  · subst e; simp [h]
  · by_cases e2 : q < j
    · simp [e, e2, show q < j + 1 by omega]
    · simp [e, e2, show ¬ q < j + 1 by omega]
theorem vB_lt (X : Nat → Nat) (D : Nat → ByteArray) (n at' i j : Nat) (hX : ∀ i, X i < 256) (ha : at' < 256) : vB X D n at' i j < 256 := vK_lt X _ n at' i hX ha
def vS (X : Nat → Nat) (D : Nat → ByteArray) (n at' m : Nat) : ByteArray := strB m (vB X D n at' n)
/-- the state: the weights, and the bytes of the value. -/
def VS (w : World) (n m go : Nat) (X : Nat → Nat) (at' : Nat) (f : Nat → Nat) (wr : World) : Prop := WS w n (wDone X at' n n) wr ∧ w.heap.size < go ∧ BR wr go m f
theorem VS.alloc {w wr : World} {n m go : Nat} {X : Nat → Nat} {at' : Nat} {f : Nat → Nat} (h : VS w n m go X at' f wr) (o : Obj) : VS w n m go X at' f (wr.alloc o) := by
  have b : Below wr.heap.size wr (wr.alloc o) := (Below.refl _ _).alloc (Nat.le_refl _) o
  exact ⟨h.1.alloc o, h.2.1, h.2.2.below b h.2.2.1⟩
theorem VS.drew {w wr : World} {n m go : Nat} {X : Nat → Nat} {at' : Nat} {f : Nat → Nat} (h : VS w n m go X at' f wr) : VS w n m go X at' f wr.drew := ⟨h.1.drew, h.2.1, h.2.2.drew⟩
theorem VS.store {w wr : World} {n m go : Nat} {X : Nat → Nat} {at' : Nat} {f : Nat → Nat} (h : VS w n m go X at' f wr) (i v : Nat) (hi : i < m) : VS w n m go X at' (upd f i v) (wr.setCell ⟨go, i, none⟩ (.int .u8 (v : Nat))) := by
  have h2 := h.2.1
  exact ⟨⟨h.1.1.setCell (by show w.heap.size ≤ go; omega) _, h.1.2.only (only_set (only_refl wr go) i _) (by omega)⟩, h2, h.2.2.set i v hi⟩
def VS2 (w : World) (n m go : Nat) (X : Nat → Nat) (at' : Nat) (f : Nat → Nat) (gb x : Nat) (d : ByteArray) (wr : World) : Prop := VS w n m go X at' f wr ∧ go < gb ∧ gb < wr.heap.size ∧ Blk wr gb 46 #[.int .i64 (x : Nat), .string d]
theorem VS2.drew {w wr : World} {n m go gb x : Nat} {d : ByteArray} {X : Nat → Nat} {at' : Nat} {f : Nat → Nat} (h : VS2 w n m go X at' f gb x d wr) : VS2 w n m go X at' f gb x d wr.drew := ⟨h.1.drew, h.2.1, h.2.2.1, h.2.2.2⟩
theorem VS2.store {w wr : World} {n m go gb x : Nat} {d : ByteArray} {X : Nat → Nat} {at' : Nat} {f : Nat → Nat} (h : VS2 w n m go X at' f gb x d wr) (i v : Nat) (hi : i < m) : VS2 w n m go X at' (upd f i v) gb x d (wr.setCell ⟨go, i, none⟩ (.int .u8 (v : Nat))) :=
  ⟨h.1.store i v hi, h.2.1, by simpa [World.setCell] using h.2.2.1, h.2.2.2.only (only_set (only_refl wr go) i _) (by have := h.2.1; omega)⟩
theorem VS2_new {w wr : World} {n m go x : Nat} {d : ByteArray} {X : Nat → Nat} {at' : Nat} {f : Nat → Nat} (h : VS w n m go X at' f wr) : VS2 w n m go X at' f wr.heap.size x d (wr.alloc (.cells #[.int .i64 (x : Nat), .string d] 46)) :=
  ⟨h.alloc _, h.2.2.1, by simp, Blk.new wr 46 _⟩

set_option maxRecDepth 100000 in
set_option maxHeartbeats 2000000 in
theorem valueAt61 (a : Option Addr) (ca n m : Nat) (X : Nat → Nat) (D : Nat → ByteArray) (at' : Nat) (w : World) (hx : SRow w w.heap.size a n X D) (hX : ∀ i, X i < 256) (ha : at' < 256) (hn : n ≤ 255) (h0 : 0 < n) (hm : m ≤ 1099511627776) (hD : ∀ i, i < n → (D i).size = m) :
    Calls Try.prog 61 #[.slice a n ca, .int .u8 at'] w fun e w' => e = .returned (.string (vS X D n at' m)) ∧ Below w.heap.size w w' := by
  have HX := Lib.hid hx
  have HL := Lib.hid hX
  have HD := Lib.hid hD
  clear hx hX hD
  go_enter Try.func61, Try.ntmps61
  go_wp2_with fail
  refine (weights90 a ca n X D at' _ HX.out HL.out ha hn).mono ?_
  rintro e w1 ⟨rfl, hws⟩
  have HWS := Lib.hid hws
  clear hws
  have hmk := run_madeB w1 m (by omega)
  have hgo := HWS.out.2.1
  have HV0 := Lib.hid (show VS w n m w1.heap.size X at' (vArr X D n at' 0 0) (madeB w1 m) from
    ⟨⟨below_step HWS.out.1 (Nat.le_refl _) (madeB_below w1 m), HWS.out.2.below (madeB_below w1 m) hgo⟩, hgo, (madeB_row w1 m).congr fun i _ => by simp [vArr, vB, vK]⟩)
  obtain ⟨b0, off0, rfl, hbB0, d0, d1⟩ := (HX.out.below HWS.out.1) 0 h0
  have hh0 : (0 : Int) < (n : Int) := by omega
  have hsz := HD.out 0 h0
  rw [Nat.zero_mul, Nat.add_zero] at d0 d1
  generalize hS0 : D 0 = S0 at *
  subst hsz
  clear HWS
  generalize madeB w1 S0.size = w2 at *
  generalize w1.heap.size = go at *
  go_wp2_with fail
  clear d0 d1
  go_loopw [21] (fun iv wr => ∃ i : Nat, i ≤ n ∧ iv = .int .i64 i ∧ VS w n S0.size go X at' (vArr X D n at' i 0) wr) (fun iv _ => n - (intOf iv).toNat)
  case atStart => exact ⟨0, by omega, rfl, HV0.out⟩
  case round =>
    clear HV0
    obtain ⟨i, hi, rfl, hws⟩ := hrel
    have HWS := Lib.hid hws
    clear hws
    by_cases hlt : i < n
    · have hd : decide ((i : Int) < (n : Int)) = true := decide_eq_true (by omega)
      obtain ⟨b, off, e', hbB, c0, c1⟩ := (HX.out.below HWS.out.1.1) i hlt
      cases e'
      have hi1 : (i : Int) < (n : Int) := by omega
      have HW2 := Lib.hid (VS2_new (x := X i) (d := D i) HWS.out)
      have HDi := Lib.hid (HD.out i hlt)
      clear HWS
      go_wp2_with fail
      clear c0 c1 hd
      generalize (wr.alloc (.cells #[.int .i64 (X i : Nat), .string (D i)] 46)) = wq at *
      generalize wr.heap.size = gb at *
      go_loopw [28] (fun kv wr => ∃ j : Nat, j ≤ S0.size ∧ kv = .int .i64 j ∧ VS2 w n S0.size go X at' (vArr X D n at' i j) gb (X i) (D i) wr) (fun kv _ => S0.size - (intOf kv).toNat)
      case atStart => exact ⟨0, by omega, rfl, HW2.out⟩
      case round =>
        clear HW2
        obtain ⟨j, hj, rfl, hws⟩ := hrel
        have HWS := Lib.hid hws
        clear hws
        by_cases hlj : j < S0.size
        · have hd : decide ((j : Int) < (S0.size : Int)) = true := decide_eq_true (by omega)
          have HE := Lib.hid (vB_succ X D n at' i j)
          have hwi : wDone X at' n n i = wK X i at' n := by simp [wDone, hlt]
          have hoj : vArr X D n at' i j j = vB X D n at' i j := by simp [vArr]
          have HVL := vB_lt X D n at' i j HL.out ha
          have HWL := Lib.hid (wK_lt X i at' n HL.out ha)
          have y0 := (HWS.out.1.1.2.2 i hlt).1
          have y1 := (HWS.out.1.2.2.2 j hlj).1
          have z1 := (HWS.out.1.2.2.2 j hlj).2
          rw [hwi] at y0
          rw [hoj] at y1
          clear hwi hoj
          have bx : wr.cell? ⟨gb, 0, none⟩ = some (.int .i64 (X i : Nat)) := HWS.out.2.2.2.cell 0
          have bx1 : wr.cell? ⟨gb, 1, none⟩ = some (.string (D i)) := HWS.out.2.2.2.cell 1
          have hj1 : (j : Int) < (S0.size : Int) := by omega
          have hj2 : j < (D i).size := by rw [HDi.out]; exact hlj
          have hj3 : (j : Int) < ((D i).size : Int) := by omega
          have e8 := at8_get (D i) j hj2
          have HAL := Lib.hid (at8_lt (D i) j)
          generalize at8 (D i) j = A at *
          have HC := Lib.hid (fun w => times64 (wK X i at' n) A w HWL.out HAL.out)
          have HTL := tm_lt (b := A) HWL.out
          have x1 := u8_xor_nat (vB X D n at' i j) (tm (wK X i at' n) A) HVL HTL
          generalize tm (wK X i at' n) A = T at *
          generalize wK X i at' n = W at *
          generalize D i = S at *
          go_wp2_with fail
          refine wp_region_still_tail 15 (by kernel_rfl) (by kernel_rfl) ?_
          simp only [List.take_succ_cons, List.take_zero, List.drop_succ_cons, List.drop_zero]
          repeat still_step
          still_call (by refine (HC.out _).mono ?_; rintro e w' ⟨rfl, rfl⟩; exact ⟨rfl, rfl⟩)
          repeat still_step
          refine wpStill_nil ?_
          change wpList _ _ _ _ _ wr.drew
          go_wp2_with fail
          go_roundw
          case rel =>
            refine ⟨j + 1, by omega, by go_num, ?_⟩
            rw [← vArr_step X D n at' i j _ HE.out.symm]
            exact (HWS.out.store j _ hlj).drew
          case measure => simp [intOf]; omega
        · have hd : decide ((j : Int) < (S0.size : Int)) = false := decide_eq_false (by omega)
          have HWE := Lib.hid (show VS w n S0.size go X at' (vArr X D n at' (i + 1) 0) wr from by
            refine ⟨HWS.out.1.1, HWS.out.1.2.1, HWS.out.1.2.2.congr fun q hq => ?_⟩
            obtain rfl : j = S0.size := by omega
            simp [vArr, hq])
          clear HWS
          go_wp2_with fail
          go_roundw
          case rel => exact ⟨i + 1, by omega, by go_num, HWE.out⟩
          case measure => simp [intOf]; omega
    · have hd : decide ((i : Int) < (n : Int)) = false := decide_eq_false (by omega)
      obtain rfl : i = n := by omega
      have hcv := conv_BR (HWS.out.2.2.congr (f' := vB X D i at' i) fun q hq => by simp [vArr]) S0.size
      go_wp2_with fail
      go_ret
      exact ⟨rfl, HWS.out.1.1⟩
end Go.Proofs.Ytnjmcppljbkhnaa

set_option linter.unusedVariables false
set_option linter.unusedSimpArgs false
namespace Go.Proofs.Ytnjmcppljbkhnaa
open Go.RowKit

theorem to_quiet {P : Program} {f : FuncId} {args : Array Value} {w : World} {v : Value} (h : Calls P f args w fun e w' => e = .returned v ∧ w = w') : Calls P f args w fun e w' => e = .returned v ∧ ∃ n, w' = w.drewN n :=
  h.mono fun e w' ⟨h1, h2⟩ => ⟨h1, 0, by rw [← h2]; rfl⟩
theorem quiet_left {P : Program} {f : FuncId} {args : Array Value} {w : World} {n : Nat} {v : Value}
    (h : Calls P f args (w.drewN n) fun e w' => e = .returned v ∧ w.drewN n = w') : Calls P f args (w.drewN n) fun e w'' => e = .returned v ∧ ∃ m, w'' = w.drewN m :=
  h.mono fun _ _ ⟨he, hm⟩ => ⟨he, n, hm.symm⟩
def tT (X : Nat → Nat) (D : Nat → ByteArray) (i at' j k : Nat) : Nat := tK X (fun t => at8 (D t) j) i at' k
theorem tT_succ (X : Nat → Nat) (D : Nat → ByteArray) (i at' j k : Nat) : tT X D i at' j (k + 1) = if k = i then tT X D i at' j k else tm (tT X D i at' j k) (tm (at' ^^^ X k) (inv (X i ^^^ X k))) := rfl
theorem tT_end (X : Nat → Nat) (D : Nat → ByteArray) (i at' j k : Nat) (hX : ∀ i, X i < 256) (ha : at' < 256) : tT X D i at' j k = tm (wK X i at' k) (at8 (D i) j) :=
  tK_eq X _ i at' k hX (fun t => at8_lt _ _) ha
theorem tT_lt (X : Nat → Nat) (D : Nat → ByteArray) (i at' j k : Nat) (hX : ∀ i, X i < 256) (ha : at' < 256) : tT X D i at' j k < 256 := by
  rw [tT_end X D i at' j k hX ha]; exact tm_lt (wK_lt X i at' k hX ha)
theorem SRow.drewN {w : World} {B : Nat} {a : Option Addr} {n : Nat} {X : Nat → Nat} {D : Nat → ByteArray} (h : SRow w B a n X D) (q : Nat) : SRow (w.drewN q) B a n X D := h

set_option maxRecDepth 100000 in
set_option maxHeartbeats 2000000 in
theorem refValueAt63 (a : Option Addr) (ca len n m : Nat) (X : Nat → Nat) (D : Nat → ByteArray) (at' j : Nat) (w : World) (B : Nat) (hx : SRow w B a len X D) (hX : ∀ i, X i < 256) (ha : at' < 256) (hn : n ≤ 255) (hln : n ≤ len) (hlen : len ≤ maxLen) (hm : j < m) (hm2 : m ≤ 1099511627776) (hD : ∀ i, i < n → (D i).size = m) (hI : ∀ i k, i < n → k < n → X i = X k → i = k) :
    Calls Try.prog 63 #[.slice a len ca, .int .i64 n, .int .i64 j, .int .i64 at'] w fun e w' => e = .returned (.int .i64 (vB X D n at' n j : Nat)) ∧ ∃ q, w' = w.drewN q := by
  have HX := Lib.hid hx
  have HL := Lib.hid hX
  have HD := Lib.hid hD
  have HI := Lib.hid hI
  unfold maxLen at hlen
  clear hx hX hD hI
  go_enter Try.func63, Try.ntmps63
  go_wp2_with fail
  go_loopw [9, 14] (fun sv iv wr => ∃ i : Nat, i ≤ n ∧ iv = .int .i64 i ∧ sv = .int .i64 (vB X D n at' i j : Nat) ∧ ∃ q, wr = w.drewN q) (fun _ iv _ => n - (intOf iv).toNat)
  case atStart => exact ⟨0, by omega, rfl, rfl, 0, rfl⟩
  case round =>
    obtain ⟨i, hi, rfl, rfl, q, hq⟩ := hrel
    have HQ := Lib.hid hq
    have HXR := Lib.hid (show SRow wr B a len X D from by rw [hq]; exact HX.out.drewN q)
    clear hq
    by_cases hlt : i < n
    · have hd : decide ((i : Int) < (n : Int)) = true := decide_eq_true (by omega)
      obtain ⟨b, off, rfl, hbB, c0, c1⟩ := HXR.out i (by omega)
      have hi1 : (i : Int) < (len : Int) := by omega
      have hj2 : j < (D i).size := by rw [HD.out i hlt]; exact hm
      have hj3 : (j : Int) < ((D i).size : Int) := by omega
      have e8 := at8_get (D i) j hj2
      have HAL := Lib.hid (at8_lt (D i) j)
      have HA := Lib.hid (show tT X D i at' j 0 = at8 (D i) j from rfl)
      generalize at8 (D i) j = A at *
      have HAL2 := HAL.out
      go_wp2_with fail
      clear c0 c1 hd e8
      go_loopw [11, 26] (fun tv kv wr => ∃ k : Nat, k ≤ n ∧ kv = .int .i64 k ∧ tv = .int .i64 (tT X D i at' j k : Nat) ∧ ∃ q, wr = w.drewN q) (fun _ kv _ => n - (intOf kv).toNat)
      case atStart => exact ⟨0, by omega, rfl, by rw [HA.out], q, HQ.out⟩
      case round =>
        clear HQ HXR
        obtain ⟨k, hk, rfl, rfl, q, hq⟩ := hrel
        have HQ := Lib.hid hq
        have HXR := Lib.hid (show SRow wr B (some ⟨b, off, none⟩) len X D from by rw [hq]; exact HX.out.drewN q)
        clear hq
        by_cases hlk : k < n
        · have hd : decide ((k : Int) < (n : Int)) = true := decide_eq_true (by omega)
          have hs := tT_succ X D i at' j k
          by_cases hne : k = i
          · have hq : (((k : Nat) : Int) == (i : Int)) = true := by rw [hne]; simp
            have hq2 : (((k : Nat) : Int) != (i : Int)) = false := by rw [hne]; simp
            have HE := Lib.hid (hs.trans (if_pos hne))
            clear hne hs
            go_wp2_with fail
            go_roundw
            case rel => exact ⟨k + 1, by omega, by go_num, by rw [HE.out], _, HQ.out⟩
            case measure => simp [intOf]; omega
          · have hq : (((k : Nat) : Int) == (i : Int)) = false := by simp; omega
            have hq2 : (((k : Nat) : Int) != (i : Int)) = true := by simp; omega
            have HE := Lib.hid (hs.trans (if_neg hne))
            have hxp := xor_pos (fun e => hne (HI.out i k hlt hlk e).symm)
            obtain ⟨b', off', e', hbB', c0, c1⟩ := HXR.out k (by omega)
            cases e'
            obtain ⟨b', off', e', hbB'', d0, d1⟩ := HXR.out i (by omega)
            cases e'
            have hk1 : (k : Int) < (len : Int) := by omega
            have hi2 : (i : Int) < (len : Int) := by omega
            have hk256 := HL.out k
            have hi256 := HL.out i
            have x1 := i64_xor_nat at' (X k) (by omega) (by omega)
            have x2 := i64_xor_nat (X i) (X k) (by omega) (by omega)
            have HB1 := Lib.hid (xor_lt ha hk256)
            have HB2 := Lib.hid (xor_lt hi256 hk256)
            have HB3 := Lib.hid (tT_lt X D i at' j k HL.out ha)
            have CI := Lib.hid (fun w => refInverse91 (X i ^^^ X k) w HB2.out hxp)
            have HVL := Lib.hid (inv_lt (X i ^^^ X k) HB2.out)
            generalize inv (X i ^^^ X k) = V at *
            have C1 := Lib.hid (fun w => timesField65 (at' ^^^ X k) V w HB1.out HVL.out)
            have HTL := Lib.hid (tm_lt (b := V) HB1.out)
            generalize tm (at' ^^^ X k) V = T at *
            have C2 := Lib.hid (fun w => timesField65 (tT X D i at' j k) T w HB3.out HTL.out)
            generalize tm (tT X D i at' j k) T = R2 at *
            generalize tT X D i at' j k = U at *
            clear hs hne hxp
            go_wp2_with fail
            go_quiet ((first | (go_at_call 91; exact quiet_left (CI.out _)) | (go_at_call_of 65 (Value.int IntKind.i64 ((at' ^^^ X k : Nat) : Int)); exact quiet_left (C1.out _)) | (go_at_call 65; exact quiet_left (C2.out _))))
            go_wp2_with fail
            go_roundw
            case rel => exact ⟨k + 1, by omega, by go_num, by rw [HE.out], _, by rw [HQ.out, World.drewN_drewN]⟩
            case measure => simp [intOf]; omega
        · have hd : decide ((k : Int) < (n : Int)) = false := decide_eq_false (by omega)
          obtain rfl : k = n := by omega
          have HE := Lib.hid (show vB X D k at' (i + 1) j = vB X D k at' i j ^^^ tT X D i at' j k from by rw [vB_succ, tT_end X D i at' j k HL.out ha])
          have HTL := tT_lt X D i at' j k HL.out ha
          have HVL := vB_lt X D k at' i j HL.out ha
          have x1 := i64_xor_nat (vB X D k at' i j) (tT X D i at' j k) (by omega) (by omega)
          generalize tT X D i at' j k = U at *
          generalize vB X D k at' i j = V at *
          go_wp2_with fail
          go_roundw
          case rel => exact ⟨i + 1, by omega, by go_num, by rw [HE.out], _, HQ.out⟩
          case measure => simp [intOf]; omega
    · have hd : decide ((i : Int) < (n : Int)) = false := decide_eq_false (by omega)
      obtain rfl : i = n := by omega
      go_wp2_with fail
      go_ret
      exact ⟨rfl, _, HQ.out⟩
end Go.Proofs.Ytnjmcppljbkhnaa

set_option linter.unusedVariables false
set_option linter.unusedSimpArgs false
namespace Go.Proofs.Ytnjmcppljbkhnaa
open Go.RowKit

theorem SRow.more {w : World} {B B' : Nat} {a : Option Addr} {n : Nat} {X : Nat → Nat} {D : Nat → ByteArray} (h : SRow w B a n X D) (hB : B ≤ B') : SRow w B' a n X D := by
  intro i hi
  obtain ⟨b, off, e, hb, h1, h2⟩ := h i hi
  exact ⟨b, off, e, by omega, h1, h2⟩
theorem SRow.at' {w w' : World} {a : Option Addr} {n : Nat} {X : Nat → Nat} {D : Nat → ByteArray} (h : SRow w w.heap.size a n X D) (hb : Below w.heap.size w w') : SRow w' w'.heap.size a n X D := (h.below hb).more hb.size
theorem conv_one (w : World) (V : Nat) (t : TypeId) : (convert 88 9 (.slice (some ⟨w.heap.size, 0, none⟩) 1 1)).run Try.prog (w.alloc (.cells #[.int .u8 (V : Nat)] t)) = .ok (.string ⟨#[UInt8.ofNat V]⟩) (w.alloc (.cells #[.int .u8 (V : Nat)] t)) := by
  have h := conv_row (f := fun _ => V) (n := 1) (Blk.new w t (row8 1 fun _ => V)) 0 1 (by omega) 1
  have e : row8 1 (fun _ => V) = #[.int .u8 (V : Nat)] := by simp [row8, List.range, List.range.loop]
  rw [e] at h
  have e2 : strB 1 (fun _ => V) = ⟨#[UInt8.ofNat V]⟩ := by simp [strB, List.range, List.range.loop]
  rw [e2] at h
  exact h
theorem strB_succ (n : Nat) (f : Nat → Nat) : strB n f ++ ⟨#[UInt8.ofNat (f n)]⟩ = strB (n + 1) f := by
  unfold strB
  apply ByteArray.ext
  simp [List.range_succ]
/-- the further shares fit. -/
def Good (X : Nat → Nat) (D : Nat → ByteArray) (n len m : Nat) : Prop := ∀ j, j < m → ∀ i, n ≤ i → i < len → vB X D n (X i) n j = at8 (D i) j
def SecPost (X : Nat → Nat) (D : Nat → ByteArray) (n len m : Nat) (w : World) (e : Ending) (w' : World) : Prop :=
  ((Good X D n len m ∧ e = .returned (.tuple #[.string (vS X D n 0 m), .bool true])) ∨ (¬ Good X D n len m ∧ e = .returned (.tuple #[.string ByteArray.empty, .bool false]))) ∧ Below w.heap.size w w'
set_option maxRecDepth 100000 in
set_option maxHeartbeats 2000000 in
theorem secretOf29_lt (a : Option Addr) (ca len n m : Nat) (X : Nat → Nat) (D : Nat → ByteArray) (w : World) (hx : SRow w w.heap.size a len X D) (hX : ∀ i, X i < 256) (hn : n ≤ 255) (h0 : 0 < n) (hln : n ≤ len) (hlen : len ≤ 255) (hca : len ≤ ca) (hcn : n < ca) (hcm : ca ≤ maxLen) (hm2 : m ≤ 1024) (hD : ∀ i, i < len → (D i).size = m) (hI : ∀ i k, i < len → k < len → X i = X k → i = k) :
    Calls Try.prog 29 #[.slice a len ca, .int .i64 n] w (SecPost X D n len m w) := by
  have HX := Lib.hid hx
  have HL := Lib.hid hX
  have HD := Lib.hid hD
  have HI := Lib.hid hI
  have HC := Lib.hid (fun (at' j : Nat) (w : World) (hx : SRow w w.heap.size a len X D) (ha : at' < 256) (hm : j < m) => refValueAt63 a ca len n m X D at' j w w.heap.size hx hX ha hn hln (by unfold maxLen; omega) hm (by omega) (fun i hi => hD i (by omega)) (fun i k hi hk => hI i k (by omega) (by omega)))
  unfold maxLen at hcm
  clear hx hX hD hI
  obtain ⟨b0, off0, rfl, hbB0, d0, d1⟩ := HX.out 0 (by omega)
  have hh0 : (0 : Int) < (len : Int) := by omega
  have hsz := HD.out 0 (by omega)
  rw [Nat.zero_mul, Nat.add_zero] at d0 d1
  generalize hS0 : D 0 = S0 at *
  subst hsz
  have HS0 := Lib.hid hS0
  clear hS0
  go_enter Try.func29, Try.ntmps29
  go_wp2_with fail
  clear d0 d1
  go_loopw [6, 15] (fun sv jv wr => ∃ j : Nat, j ≤ S0.size ∧ jv = .int .i64 j ∧ sv = .string (strB j (vB X D n 0 n)) ∧ Below w.heap.size w wr ∧ Hid (∀ q, q < j → ∀ i, n ≤ i → i < len → vB X D n (X i) n q = at8 (D i) q)) (fun _ jv _ => S0.size - (intOf jv).toNat)
  case atStart => exact ⟨0, by omega, rfl, rfl, Below.refl _ _, fun q hq => by omega⟩
  case round =>
    obtain ⟨j, hj, rfl, rfl, hb, HG⟩ := hrel
    have HB := Lib.hid hb
    clear hb
    by_cases hlj : j < S0.size
    · have hd : decide ((j : Int) < (S0.size : Int)) = true := decide_eq_true (by omega)
      go_wp2_with fail
      refine (HC.out 0 j _ (HX.out.at' HB.out) (by decide) hlj).mono ?_
      rintro e w1 ⟨rfl, q, hq⟩
      have HVL := vB_lt X D n 0 n j HL.out (by decide)
      have HS := Lib.hid (strB_succ j (vB X D n 0 n))
      have HSZ := Lib.hid (strB_size j (vB X D n 0 n))
      generalize strB j (vB X D n 0 n) = T at *
      generalize vB X D n 0 n j = V at *
      have HB1 := Lib.hid (show Below w.heap.size w w1 from by rw [hq]; exact below_drewN HB.out q)
      clear hq
      have hcv := fun t => conv_one w1 V t
      have hts : T.size ≤ 1024 := by rw [HSZ.out]; omega
      go_wp2_with fail
      clear hcv
      have HT := Lib.hid (HS.out)
      clear hts hd
      have HBA := Lib.hid (below_step HB1.out (Nat.le_refl _) ((Below.refl w1.heap.size w1).alloc (Nat.le_refl _) (.cells #[.int .u8 (V : Nat)] 5)))
      generalize w1.alloc (.cells #[.int .u8 (V : Nat)] 5) = w2 at *
      go_loopw [31] (fun tv wr => ∃ t : Nat, t ≤ len - n ∧ tv = .int .i64 t ∧ Below w.heap.size w wr ∧ Hid (∀ i, n ≤ i → i < n + t → vB X D n (X i) n j = at8 (D i) j)) (fun tv _ => len - n - (intOf tv).toNat)
      case atStart => exact ⟨0, by omega, rfl, HBA.out, fun i h1 h2 => by omega⟩
      case round =>
        clear HBA
        obtain ⟨t, ht, rfl, hb, HGI⟩ := hrel
        have HBW := Lib.hid hb
        clear hb
        by_cases hlt : t < len - n
        · have hd : decide ((t : Int) < ((len - n : Nat) : Int)) = true := decide_eq_true (by omega)
          have hd2 : decide (t < len - n) = true := decide_eq_true hlt
          obtain ⟨i, hi⟩ : ∃ i, i = n + t := ⟨_, rfl⟩
          obtain ⟨b', off', e', hbB', c0, c1⟩ := (HX.out.below HBW.out) i (by omega)
          cases e'
          have ea : off0 + i * 2 = off0 + n * 2 + t * 2 := by omega
          rw [ea] at c0 c1
          clear ea
          have hjd : j < (D i).size := by rw [HD.out i (by omega)]; exact hlj
          have hj3 : (j : Int) < ((D i).size : Int) := by omega
          have e8 := at8_get (D i) j hjd
          have HXB := Lib.hid (HX.out.at' (below_step HBW.out (Nat.le_refl _) ((Below.refl wr.heap.size wr).alloc (Nat.le_refl _) (.cells #[.int .i64 (X i : Nat), .string (D i)] 46))))
          have HBB := Lib.hid (below_step HBW.out (Nat.le_refl _) ((Below.refl wr.heap.size wr).alloc (Nat.le_refl _) (.cells #[.int .i64 (X i : Nat), .string (D i)] 46)))
          have HXI := Lib.hid (HL.out i)
          have HI1 := Lib.hid (show n ≤ i ∧ i < len ∧ i = n + t from ⟨by omega, by omega, hi⟩)
          clear hi
          have hA := at8_lt (D i) j
          by_cases he : vB X D n (X i) n j = at8 (D i) j
          · have HE := Lib.hid he
            have q1 : (((vB X D n (X i) n j : Nat) : Int) == ((at8 (D i) j : Nat) : Int)) = true := by rw [he]; simp
            have q2 : (((vB X D n (X i) n j : Nat) : Int) != ((at8 (D i) j : Nat) : Int)) = false := by rw [he]; simp
            clear he
            have HCX := Lib.hid (fun W (h : SRow W W.heap.size (some ⟨b0, off0, none⟩) len X D) => HC.out (X i) j W h HXI.out hlj)
            generalize hAA : at8 (D i) j = A at *
            generalize hYY : vB X D n (X i) n j = Y at *
            have HAA := Lib.hid hAA
            have HYY := Lib.hid hYY
            clear hAA hYY
            go_wp2_with fail
            go_quiet ((go_at_call 63; exact Calls.quiet_of (HCX.out _ (show SRow _ _ _ _ _ _ from HXB.out))))
            go_wp2_with fail
            go_roundw
            case rel =>
              refine ⟨t + 1, by omega, by go_num, below_drewN HBB.out _, fun i' h1 h2 => ?_⟩
              by_cases h3 : i' < n + t
              · exact HGI.out i' h1 h3
              · obtain rfl : i' = i := by have := HI1.out.2.2; omega
                rw [HYY.out, HAA.out]; exact HE.out
            case measure => simp [intOf]; omega
          · have HE := Lib.hid he
            have q1 : (((vB X D n (X i) n j : Nat) : Int) == ((at8 (D i) j : Nat) : Int)) = false := by simp; omega
            have q2 : (((vB X D n (X i) n j : Nat) : Int) != ((at8 (D i) j : Nat) : Int)) = true := by simp; omega
            clear he
            have HCX := Lib.hid (fun W (h : SRow W W.heap.size (some ⟨b0, off0, none⟩) len X D) => HC.out (X i) j W h HXI.out hlj)
            have HNG := Lib.hid (show ¬ Good X D n len S0.size from fun g => HE.out (g j hlj i HI1.out.1 HI1.out.2.1))
            generalize at8 (D i) j = A at *
            generalize vB X D n (X i) n j = Y at *
            go_wp2_with fail
            go_quiet ((go_at_call 63; exact Calls.quiet_of (HCX.out _ (show SRow _ _ _ _ _ _ from HXB.out))))
            go_wp2_with fail
            go_ret2
            exact ⟨Or.inr ⟨HNG.out, rfl⟩, below_drewN HBB.out _⟩
        · have hd : decide ((t : Int) < ((len - n : Nat) : Int)) = false := decide_eq_false (by omega)
          have hd2 : decide (t < len - n) = false := decide_eq_false hlt
          have HN := Lib.hid (show n + t = len from by omega)
          go_wp2_with fail
          go_roundw
          case rel =>
            have HREL : ∃ j' : Nat, j' ≤ S0.size ∧ Value.int .i64 ((j : Int) + 1) = .int .i64 j' ∧ Value.string (T ++ ⟨#[UInt8.ofNat V]⟩) = .string (strB j' (vB X D n 0 n)) ∧ Below w.heap.size w wr ∧ Hid (∀ q, q < j' → ∀ i, n ≤ i → i < len → vB X D n (X i) n q = at8 (D i) q) := by
              refine ⟨j + 1, by omega, by go_num, by rw [HT.out], HBW.out, fun q hq i h1 h2 => ?_⟩
              by_cases h3 : q < j
              · exact HG.out q h3 i h1 h2
              · obtain rfl : q = j := by omega
                exact HGI.out i h1 (by rw [HN.out]; exact h2)
            first | exact HREL | ((repeat apply Exists.intro); exact ⟨HREL, rfl⟩)
          case measure => simp [intOf]; omega
    · have hd : decide ((j : Int) < (S0.size : Int)) = false := decide_eq_false (by omega)
      obtain rfl : j = S0.size := by omega
      go_wp2_with fail
      go_ret2
      exact ⟨Or.inl ⟨HG.out, rfl⟩, HB.out⟩
set_option maxRecDepth 100000 in
set_option maxHeartbeats 2000000 in
theorem secretOf29_eq (a : Option Addr) (n m : Nat) (X : Nat → Nat) (D : Nat → ByteArray) (w : World) (hx : SRow w w.heap.size a n X D) (hX : ∀ i, X i < 256) (hn : n ≤ 255) (h0 : 0 < n) (hcm : n ≤ maxLen) (hm2 : m ≤ 1024) (hD : ∀ i, i < n → (D i).size = m) (hI : ∀ i k, i < n → k < n → X i = X k → i = k) :
    Calls Try.prog 29 #[.slice a n n, .int .i64 n] w (SecPost X D n n m w) := by
  have HX := Lib.hid hx
  have HL := Lib.hid hX
  have HD := Lib.hid hD
  have HI := Lib.hid hI
  have HC := Lib.hid (fun (at' j : Nat) (w : World) (hx : SRow w w.heap.size a n X D) (ha : at' < 256) (hm : j < m) => refValueAt63 a n n n m X D at' j w w.heap.size hx hX ha hn (Nat.le_refl _) (by unfold maxLen; omega) hm (by omega) (fun i hi => hD i (by omega)) (fun i k hi hk => hI i k (by omega) (by omega)))
  unfold maxLen at hcm
  clear hx hX hD hI
  obtain ⟨b0, off0, rfl, hbB0, d0, d1⟩ := HX.out 0 (by omega)
  have hh0 : (0 : Int) < (n : Int) := by omega
  have hsz := HD.out 0 (by omega)
  rw [Nat.zero_mul, Nat.add_zero] at d0 d1
  generalize hS0 : D 0 = S0 at *
  subst hsz
  have HS0 := Lib.hid hS0
  clear hS0
  go_enter Try.func29, Try.ntmps29
  go_wp2_with fail
  clear d0 d1
  go_loopw [6, 15] (fun sv jv wr => ∃ j : Nat, j ≤ S0.size ∧ jv = .int .i64 j ∧ sv = .string (strB j (vB X D n 0 n)) ∧ Below w.heap.size w wr ∧ Hid (∀ q, q < j → ∀ i, n ≤ i → i < n → vB X D n (X i) n q = at8 (D i) q)) (fun _ jv _ => S0.size - (intOf jv).toNat)
  case atStart => exact ⟨0, by omega, rfl, rfl, Below.refl _ _, fun q hq => by omega⟩
  case round =>
    obtain ⟨j, hj, rfl, rfl, hb, HG⟩ := hrel
    have HB := Lib.hid hb
    clear hb
    by_cases hlj : j < S0.size
    · have hd : decide ((j : Int) < (S0.size : Int)) = true := decide_eq_true (by omega)
      go_wp2_with fail
      refine (HC.out 0 j _ (HX.out.at' HB.out) (by decide) hlj).mono ?_
      rintro e w1 ⟨rfl, q, hq⟩
      have HVL := vB_lt X D n 0 n j HL.out (by decide)
      have HS := Lib.hid (strB_succ j (vB X D n 0 n))
      have HSZ := Lib.hid (strB_size j (vB X D n 0 n))
      generalize strB j (vB X D n 0 n) = T at *
      generalize vB X D n 0 n j = V at *
      have HB1 := Lib.hid (show Below w.heap.size w w1 from by rw [hq]; exact below_drewN HB.out q)
      clear hq
      have hcv := fun t => conv_one w1 V t
      have hts : T.size ≤ 1024 := by rw [HSZ.out]; omega
      go_wp2_with fail
      clear hcv
      have HT := Lib.hid (HS.out)
      clear hts hd
      have HBA := Lib.hid (below_step HB1.out (Nat.le_refl _) ((Below.refl w1.heap.size w1).alloc (Nat.le_refl _) (.cells #[.int .u8 (V : Nat)] 5)))
      generalize w1.alloc (.cells #[.int .u8 (V : Nat)] 5) = w2 at *
      go_loopw [31] (fun tv wr => ∃ t : Nat, t ≤ n - n ∧ tv = .int .i64 t ∧ Below w.heap.size w wr ∧ Hid (∀ i, n ≤ i → i < n + t → vB X D n (X i) n j = at8 (D i) j)) (fun tv _ => n - n - (intOf tv).toNat)
      case atStart => exact ⟨0, by omega, rfl, HBA.out, fun i h1 h2 => by omega⟩
      case round =>
        clear HBA
        obtain ⟨t, ht, rfl, hb, HGI⟩ := hrel
        have HBW := Lib.hid hb
        clear hb
        by_cases hlt : t < n - n
        · exfalso; omega
        · have hd : decide ((t : Int) < ((n - n : Nat) : Int)) = false := decide_eq_false (by omega)
          have hd2 : decide (t < n - n) = false := decide_eq_false hlt
          have HN := Lib.hid (show n + t = n from by omega)
          go_wp2_with fail
          go_roundw
          case rel =>
            have HREL : ∃ j' : Nat, j' ≤ S0.size ∧ Value.int .i64 ((j : Int) + 1) = .int .i64 j' ∧ Value.string (T ++ ⟨#[UInt8.ofNat V]⟩) = .string (strB j' (vB X D n 0 n)) ∧ Below w.heap.size w wr ∧ Hid (∀ q, q < j' → ∀ i, n ≤ i → i < n → vB X D n (X i) n q = at8 (D i) q) := by
              refine ⟨j + 1, by omega, by go_num, by rw [HT.out], HBW.out, fun q hq i h1 h2 => ?_⟩
              by_cases h3 : q < j
              · exact HG.out q h3 i h1 h2
              · obtain rfl : q = j := by omega
                exact HGI.out i h1 (by rw [HN.out]; exact h2)
            first | exact HREL | ((repeat apply Exists.intro); exact ⟨HREL, rfl⟩)
          case measure => simp [intOf]; omega
    · have hd : decide ((j : Int) < (S0.size : Int)) = false := decide_eq_false (by omega)
      obtain rfl : j = S0.size := by omega
      go_wp2_with fail
      go_ret2
      exact ⟨Or.inl ⟨HG.out, rfl⟩, HB.out⟩
theorem secretOf29 (a : Option Addr) (ca len n m : Nat) (X : Nat → Nat) (D : Nat → ByteArray) (w : World) (hx : SRow w w.heap.size a len X D) (hX : ∀ i, X i < 256) (hn : n ≤ 255) (h0 : 0 < n) (hln : n ≤ len) (hlen : len ≤ 255) (hca : len ≤ ca) (hcm : ca ≤ maxLen) (hm2 : m ≤ 1024) (hD : ∀ i, i < len → (D i).size = m) (hI : ∀ i k, i < len → k < len → X i = X k → i = k) :
    Calls Try.prog 29 #[.slice a len ca, .int .i64 n] w (SecPost X D n len m w) := by
  by_cases hcn : n < ca
  · exact secretOf29_lt a ca len n m X D w hx hX hn h0 hln hlen hca hcn hcm hm2 hD hI
  · obtain rfl : ca = n := by omega
    obtain rfl : len = ca := by omega
    exact secretOf29_eq a len m X D w hx hX hn h0 hcm hm2 hD hI
end Go.Proofs.Ytnjmcppljbkhnaa

set_option linter.unusedVariables false
set_option linter.unusedSimpArgs false
namespace Go.Proofs.Ytnjmcppljbkhnaa
open Go.RowKit

/-- shares in memory, whatever their numbers. -/
def SRowI (w : World) (B : Nat) (a : Option Addr) (n : Nat) (X : Nat → Int) (D : Nat → ByteArray) : Prop :=
  ∀ i, i < n → ∃ b off, a = some ⟨b, off, none⟩ ∧ b < B ∧ w.cell? ⟨b, off + i * 2, none⟩ = some (.int .i64 (X i)) ∧ w.cell? ⟨b, off + i * 2 + 1, none⟩ = some (.string (D i))
theorem SRowI.below {w w' : World} {B : Nat} {a : Option Addr} {n : Nat} {X : Nat → Int} {D : Nat → ByteArray} (h : SRowI w B a n X D) (hb : Below B w w') : SRowI w' B a n X D := by
  intro i hi
  obtain ⟨b, off, e, hB, h1, h2⟩ := h i hi
  exact ⟨b, off, e, hB, (hb.cell (p := ⟨b, off + i * 2, none⟩) hB).trans h1, (hb.cell (p := ⟨b, off + i * 2 + 1, none⟩) hB).trans h2⟩
def xN (X : Nat → Int) : Nat → Nat := fun i => (X i).toNat % 256
theorem xN_lt (X : Nat → Int) (i : Nat) : xN X i < 256 := Nat.mod_lt _ (by decide)
theorem SRowI.nat {w : World} {B : Nat} {a : Option Addr} {n : Nat} {X : Nat → Int} {D : Nat → ByteArray} (h : SRowI w B a n X D) (hX : ∀ i, i < n → 1 ≤ X i ∧ X i ≤ 255) : SRow w B a n (xN X) D := by
  intro i hi
  obtain ⟨b, off, e, hB, h1, h2⟩ := h i hi
  have := hX i hi
  have e2 : ((xN X i : Nat) : Int) = X i := by unfold xN; omega
  exact ⟨b, off, e, hB, by rw [e2]; exact h1, h2⟩
def twiceB (X : Nat → Int) (i : Nat) : Bool := (List.range i).any fun j => X j == X i
def eltE (X : Nat → Int) (D : Nat → ByteArray) (i : Nat) : Int :=
  if ¬ (1 ≤ X i ∧ X i ≤ 255) then 7 else if twiceB X i = true then 4 else if (D i).size = 0 ∨ 1024 < (D i).size ∨ (D i).size ≠ (D 0).size then 6 else 0
def scanE (X : Nat → Int) (D : Nat → ByteArray) (base : Int) : Nat → Int
  | 0 => base
  | k + 1 => if scanE X D base k = 0 then eltE X D k else scanE X D base k
def baseE (need : Int) (len : Nat) : Int := if ¬ (1 ≤ need ∧ need ≤ 255) then 7 else if (len : Int) < need then 3 else if 255 < len then 8 else 0
theorem scanE_stay (X : Nat → Int) (D : Nat → ByteArray) (base : Int) (k m : Nat) (h : scanE X D base k ≠ 0) : scanE X D base (k + m) = scanE X D base k := by
  induction m with
  | zero => rfl
  | succ m ih =>
    show (if scanE X D base (k + m) = 0 then eltE X D (k + m) else scanE X D base (k + m)) = _
    rw [ih, if_neg h]
theorem scanE_stop (X : Nat → Int) (D : Nat → ByteArray) (k len : Nat) (e : Int) (hk : k < len) (h0 : scanE X D 0 k = 0) (he : eltE X D k = e) (hne : e ≠ 0) : scanE X D 0 len = e := by
  have h1 : scanE X D 0 (k + 1) = e := by
    show (if scanE X D 0 k = 0 then eltE X D k else scanE X D 0 k) = _
    rw [if_pos h0, he]
  obtain ⟨m, rfl⟩ := Nat.exists_eq_add_of_le (show k + 1 ≤ len by omega)
  rw [scanE_stay X D 0 (k + 1) m (by rw [h1]; exact hne), h1]
theorem scanE_next (X : Nat → Int) (D : Nat → ByteArray) (k : Nat) (h0 : scanE X D 0 k = 0) (he : eltE X D k = 0) : scanE X D 0 (k + 1) = 0 := by
  show (if scanE X D 0 k = 0 then eltE X D k else scanE X D 0 k) = _
  rw [if_pos h0, he]
theorem scanE_base (X : Nat → Int) (D : Nat → ByteArray) (base : Int) (k : Nat) (h : base ≠ 0) : scanE X D base k = base := by
  have := scanE_stay X D base 0 k h
  rwa [Nat.zero_add] at this
theorem scanE_all (X : Nat → Int) (D : Nat → ByteArray) (len : Nat) (h : scanE X D 0 len = 0) : ∀ i, i < len → eltE X D i = 0 := by
  induction len with
  | zero => intro i hi; omega
  | succ k ih =>
    have h' : (if scanE X D 0 k = 0 then eltE X D k else scanE X D 0 k) = 0 := h
    by_cases h0 : scanE X D 0 k = 0
    · rw [if_pos h0] at h'
      intro i hi
      by_cases e : i = k
      · subst e; exact h'
      · exact ih h0 i (by omega)
    · rw [if_neg h0] at h'; exact absurd h' h0
theorem eltE_ok (X : Nat → Int) (D : Nat → ByteArray) (i : Nat) (h : eltE X D i = 0) : (1 ≤ X i ∧ X i ≤ 255) ∧ twiceB X i = false ∧ (D i).size ≠ 0 ∧ (D i).size ≤ 1024 ∧ (D i).size = (D 0).size := by
  unfold eltE at h
  split at h
  · cases h
  · rename_i h1
    split at h
    · cases h
    · rename_i h2
      split at h
      · cases h
      · rename_i h3
        refine ⟨Decidable.of_not_not h1, by simpa using h2, ?_, ?_, ?_⟩ <;> omega
theorem twice_no (X : Nat → Int) (i : Nat) (h : twiceB X i = false) : ∀ j, j < i → X j ≠ X i := by
  intro j hj e
  have : twiceB X i = true := by
    unfold twiceB
    rw [List.any_eq_true]
    exact ⟨j, by simpa using hj, by simpa using e⟩
  rw [h] at this; cases this
theorem shares_fit (X : Nat → Int) (D : Nat → ByteArray) (len : Nat) (h : scanE X D 0 len = 0) :
    (∀ i, i < len → 1 ≤ X i ∧ X i ≤ 255) ∧ (∀ i, i < len → (D i).size = (D 0).size) ∧ (∀ i k, i < len → k < len → xN X i = xN X k → i = k) ∧ (0 < len → (D 0).size ≤ 1024) := by
  have ha := scanE_all X D len h
  have hr : ∀ i, i < len → 1 ≤ X i ∧ X i ≤ 255 := fun i hi => (eltE_ok X D i (ha i hi)).1
  refine ⟨hr, fun i hi => (eltE_ok X D i (ha i hi)).2.2.2.2, ?_, fun h0 => (eltE_ok X D 0 (ha 0 h0)).2.2.2.1⟩
  intro i k hi hk e
  have h1 := hr i hi
  have h2 := hr k hk
  have hX : X i = X k := by unfold xN at e; omega
  rcases Nat.lt_trichotomy i k with hlt | heq | hgt
  · exact absurd hX (twice_no X k (eltE_ok X D k (ha k hk)).2.1 i hlt)
  · exact heq
  · exact absurd hX.symm (twice_no X i (eltE_ok X D i (ha i hi)).2.1 k hgt)
/-- which numbers were seen. -/
def seenF (X : Nat → Int) (k : Nat) (x : Nat) : Bool := (List.range k).any fun j => X j == (x : Int)
theorem seenF_twice (X : Nat → Int) (k x : Nat) (h : X k = (x : Int)) : seenF X k x = twiceB X k := by unfold seenF twiceB; rw [h]
theorem seenF_succ (X : Nat → Int) (k x y : Nat) (h : X k = (x : Int)) : seenF X (k + 1) y = if y = x then true else seenF X k y := by
  unfold seenF
  rw [List.range_succ, List.any_append]
  by_cases e : y = x
  · subst e; simp [h]
  · have : ((x : Int) == (y : Int)) = false := by simp; omega
    simp [h, e, this]
def Seen (w : World) (g : Nat) (f : Nat → Bool) : Prop := g < w.heap.size ∧ ∀ x, x < 256 → w.cell? ⟨g, x, none⟩ = some (.bool (f x)) ∧ w.frozen? ⟨g, x, none⟩ = false
theorem Seen.set {w : World} {g : Nat} {f f' : Nat → Bool} (h : Seen w g f) (x : Nat) (hx : x < 256) (hf : ∀ y, f' y = if y = x then true else f y) : Seen (w.setCell ⟨g, x, none⟩ (.bool true)) g f' := by
  refine ⟨by simpa [World.setCell] using h.1, fun j hj => ⟨?_, ?_⟩⟩
  · rw [hf j]
    by_cases e : j = x
    · subst e
      rw [World.cell?_setCell_same' _ _ _ (by rw [(h.2 j hj).1]; rfl)]
      simp
    · rw [World.cell?_setCell_other _ _ _ _ (by intro hh; injection hh with _ h2 _; exact e h2.symm), (h.2 j hj).1]
      simp [e]
  · rw [World.frozen?_setCell]; exact (h.2 j hj).2
theorem Seen.below {w w' : World} {g B : Nat} {f : Nat → Bool} (h : Seen w g f) (hb : Below B w w') (hg : g < B) : Seen w' g f :=
  ⟨Nat.lt_of_lt_of_le h.1 hb.size, fun i hi => ⟨(hb.cell (p := ⟨g, i, none⟩) hg).trans (h.2 i hi).1, (hb.frozen (p := ⟨g, i, none⟩) hg).trans (h.2 i hi).2⟩⟩
theorem Seen.drewN {w : World} {g : Nat} {f : Nat → Bool} (h : Seen w g f) (n : Nat) : Seen (w.drewN n) g f := h
theorem Seen_new (w : World) (t : TypeId) (X : Nat → Int) : Seen (w.alloc (.cells (Array.replicate 256 (.bool false)) t)) w.heap.size (seenF X 0) := by
  refine ⟨by simp, fun x hx => ⟨?_, (Blk.new w t _).frozen x⟩⟩
  rw [(Blk.new w t _).cell x]
  simp [hx, seenF]
def SPost (X : Nat → Int) (D : Nat → ByteArray) (n : Int) (len : Nat) (w : World) (e : Ending) (w' : World) : Prop :=
  ((scanE X D (baseE n len) len ≠ 0 ∧ e = .returned (.tuple #[.string ByteArray.empty, .int .i64 (scanE X D (baseE n len) len)])) ∨
   (scanE X D (baseE n len) len = 0 ∧ Good (xN X) D n.toNat len (D 0).size ∧ e = .returned (.tuple #[.string (vS (xN X) D n.toNat 0 (D 0).size), .int .i64 0])) ∨
   (scanE X D (baseE n len) len = 0 ∧ ¬ Good (xN X) D n.toNat len (D 0).size ∧ e = .returned (.tuple #[.string ByteArray.empty, .int .i64 18]))) ∧ Below w.heap.size w w'
theorem strB_at (s : ByteArray) : strB s.size (at8 s) = s := by
  apply ByteArray.ext
  unfold strB
  apply Array.ext'
  apply List.ext_getElem (by simp)
  intro i h1 h2
  simp at h1 h2
  simp [at8, List.getD_eq_getElem?_getD, h1]
theorem strB_eq (m : Nat) (f : Nat → Nat) (s : ByteArray) (hs : s.size = m) (hf : ∀ j, f j < 256) : strB m f = s ↔ ∀ j, j < m → f j = at8 s j := by
  constructor
  · intro h j hj
    rw [← h, at8_strB m f j hj (hf j)]
  · intro h
    rw [← strB_at s, hs]
    exact strB_congr h
set_option maxRecDepth 100000 in
set_option maxHeartbeats 2000000 in
theorem secret26_base (a : Option Addr) (ca len : Nat) (X : Nat → Int) (D : Nat → ByteArray) (n : Int) (w : World) (hlen : len ≤ maxLen) (hb : baseE n len ≠ 0) :
    Calls Try.prog 26 #[.slice a len ca, .int .i64 n] w (SPost X D n len w) := by
  have HP := Lib.hid (fun e (he : e = baseE n len) => show SPost X D n len w (.returned (.tuple #[.string ByteArray.empty, .int .i64 e])) w from ⟨Or.inl ⟨by rw [scanE_base _ _ _ _ hb]; exact hb, by rw [scanE_base _ _ _ _ hb, he]⟩, Below.refl _ _⟩)
  unfold maxLen at hlen
  by_cases h1 : n < 1
  · have HE := Lib.hid (show (7 : Int) = baseE n len from by unfold baseE; rw [if_pos (by omega)])
    clear hb
    go_enter Try.func26, Try.ntmps26
    go_wp2_with fail
    go_ret2
    exact HP.out 7 HE.out
  · by_cases h2 : 255 < n
    · have HE := Lib.hid (show (7 : Int) = baseE n len from by unfold baseE; rw [if_pos (by omega)])
      clear hb
      go_enter Try.func26, Try.ntmps26
      go_wp2_with fail
      go_ret2
      exact HP.out 7 HE.out
    · by_cases h3 : (len : Int) < n
      · have HE := Lib.hid (show (3 : Int) = baseE n len from by unfold baseE; rw [if_neg (by omega), if_pos h3])
        clear hb
        go_enter Try.func26, Try.ntmps26
        go_wp2_with fail
        go_ret2
        exact HP.out 3 HE.out
      · by_cases h4 : 255 < len
        · have h5 : (255 : Int) < (len : Int) := by omega
          have HE := Lib.hid (show (8 : Int) = baseE n len from by unfold baseE; rw [if_neg (by omega), if_neg h3, if_pos h4])
          clear hb
          go_enter Try.func26, Try.ntmps26
          go_wp2_with fail
          go_ret2
          exact HP.out 8 HE.out
        · exact absurd (by unfold baseE; rw [if_neg (by omega), if_neg h3, if_neg h4]) hb
end Go.Proofs.Ytnjmcppljbkhnaa
