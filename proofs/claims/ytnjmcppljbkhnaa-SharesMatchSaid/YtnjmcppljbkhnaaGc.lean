import Derived.Test.YtnjmcppljbkhnaaGb
set_option linter.unusedVariables false
set_option linter.unusedSimpArgs false
namespace Go.Proofs.Ytnjmcppljbkhnaa
open Go.RowKit

/-- byte j of the value, out of the first i shares. -/
def vB (X : Nat → Nat) (D : Nat → ByteArray) (n at' i j : Nat) : Nat := vK X (fun t => at8 (D t) j) n at' i
def vArr (X : Nat → Nat) (D : Nat → ByteArray) (n at' i j : Nat) : Nat → Nat := fun q => if q < j then vB X D n at' (i + 1) q else vB X D n at' i q
theorem vB_succ (X : Nat → Nat) (D : Nat → ByteArray) (n at' i j : Nat) : vB X D n at' (i + 1) j = vB X D n at' i j ^^^ tm (wK X i at' n) (at8 (D i) j) := rfl
theorem vArr_step (X : Nat → Nat) (D : Nat → ByteArray) (n at' i j v : Nat) (h : v = vB X D n at' (i + 1) j) : upd (vArr X D n at' i j) j v = vArr X D n at' i (j + 1) := by
  funext q
  unfold upd vArr
  by_cases e : q = j
  · subst e; simp [h]
  · by_cases e2 : q < j
    · simp [e, e2, show q < j + 1 by omega]
    · simp [e, e2, show ¬ q < j + 1 by omega]
theorem vB_lt (X : Nat → Nat) (D : Nat → ByteArray) (n at' i j : Nat) (hX : ∀ i, X i < 256) (ha : at' < 256) : vB X D n at' i j < 256 := vK_lt X _ n at' i hX ha
def vS (X : Nat → Nat) (D : Nat → ByteArray) (n at' m : Nat) : ByteArray := strB m (vB X D n at' n)
/-- the state: the weights, and the bytes of the value. -/
def VS (w : World) (n m go : Nat) (X : Nat → Nat) (at' : Nat) (f : Nat → Nat) (wr : World) : Prop := WS w n (wDone X at' n n) wr ∧ w.heap.size < go ∧ BR wr go m f
theorem VS.alloc {w wr : World} {n m go : Nat} {X : Nat → Nat} {at' : Nat} {f : Nat → Nat} (h : VS w n m go X at' f wr) (o : Obj) : VS w n m go X at' f (wr.alloc o) := by
  have b : Below wr.heap.size wr (wr.alloc o) := (Below.refl _ _).alloc (Nat.le_refl _) o
  exact ⟨h.1.alloc o, h.2.1, h.2.2.below b h.2.2.1⟩
theorem VS.drew {w wr : World} {n m go : Nat} {X : Nat → Nat} {at' : Nat} {f : Nat → Nat} (h : VS w n m go X at' f wr) : VS w n m go X at' f wr.drew := ⟨h.1.drew, h.2.1, h.2.2.drew⟩
theorem VS.store {w wr : World} {n m go : Nat} {X : Nat → Nat} {at' : Nat} {f : Nat → Nat} (h : VS w n m go X at' f wr) (i v : Nat) (hi : i < m) : VS w n m go X at' (upd f i v) (wr.setCell ⟨go, i, none⟩ (.int .u8 (v : Nat))) := by
  have h2 := h.2.1
  exact ⟨⟨h.1.1.setCell (by show w.heap.size ≤ go; omega) _, h.1.2.only (only_set (only_refl wr go) i _) (by omega)⟩, h2, h.2.2.set i v hi⟩
def VS2 (w : World) (n m go : Nat) (X : Nat → Nat) (at' : Nat) (f : Nat → Nat) (gb x : Nat) (d : ByteArray) (wr : World) : Prop := VS w n m go X at' f wr ∧ go < gb ∧ gb < wr.heap.size ∧ Blk wr gb 46 #[.int .i64 (x : Nat), .string d]
theorem VS2.drew {w wr : World} {n m go gb x : Nat} {d : ByteArray} {X : Nat → Nat} {at' : Nat} {f : Nat → Nat} (h : VS2 w n m go X at' f gb x d wr) : VS2 w n m go X at' f gb x d wr.drew := ⟨h.1.drew, h.2.1, h.2.2.1, h.2.2.2⟩
theorem VS2.store {w wr : World} {n m go gb x : Nat} {d : ByteArray} {X : Nat → Nat} {at' : Nat} {f : Nat → Nat} (h : VS2 w n m go X at' f gb x d wr) (i v : Nat) (hi : i < m) : VS2 w n m go X at' (upd f i v) gb x d (wr.setCell ⟨go, i, none⟩ (.int .u8 (v : Nat))) :=
  ⟨h.1.store i v hi, h.2.1, by simpa [World.setCell] using h.2.2.1, h.2.2.2.only (only_set (only_refl wr go) i _) (by have := h.2.1; omega)⟩
theorem VS2_new {w wr : World} {n m go x : Nat} {d : ByteArray} {X : Nat → Nat} {at' : Nat} {f : Nat → Nat} (h : VS w n m go X at' f wr) : VS2 w n m go X at' f wr.heap.size x d (wr.alloc (.cells #[.int .i64 (x : Nat), .string d] 46)) :=
  ⟨h.alloc _, h.2.2.1, by simp, Blk.new wr 46 _⟩

set_option maxRecDepth 100000 in
set_option maxHeartbeats 2000000 in
theorem valueAt61 (a : Option Addr) (ca n m : Nat) (X : Nat → Nat) (D : Nat → ByteArray) (at' : Nat) (w : World) (hx : SRow w w.heap.size a n X D) (hX : ∀ i, X i < 256) (ha : at' < 256) (hn : n ≤ 255) (h0 : 0 < n) (hm : m ≤ 1099511627776) (hD : ∀ i, i < n → (D i).size = m) :
    Calls Try.prog 61 #[.slice a n ca, .int .u8 at'] w fun e w' => e = .returned (.string (vS X D n at' m)) ∧ Below w.heap.size w w' := by
  have HX := Lib.hid hx
  have HL := Lib.hid hX
  have HD := Lib.hid hD
  clear hx hX hD
  go_enter Try.func61, Try.ntmps61
  go_wp2_with fail
  refine (weights90 a ca n X D at' _ HX.out HL.out ha hn).mono ?_
  rintro e w1 ⟨rfl, hws⟩
  have HWS := Lib.hid hws
  clear hws
  have hmk := run_madeB w1 m (by omega)
  have hgo := HWS.out.2.1
  have HV0 := Lib.hid (show VS w n m w1.heap.size X at' (vArr X D n at' 0 0) (madeB w1 m) from
    ⟨⟨below_step HWS.out.1 (Nat.le_refl _) (madeB_below w1 m), HWS.out.2.below (madeB_below w1 m) hgo⟩, hgo, (madeB_row w1 m).congr fun i _ => by simp [vArr, vB, vK]⟩)
  obtain ⟨b0, off0, rfl, hbB0, d0, d1⟩ := (HX.out.below HWS.out.1) 0 h0
  have hh0 : (0 : Int) < (n : Int) := by omega
  have hsz := HD.out 0 h0
  rw [Nat.zero_mul, Nat.add_zero] at d0 d1
  generalize hS0 : D 0 = S0 at *
  subst hsz
  clear HWS
  generalize madeB w1 S0.size = w2 at *
  generalize w1.heap.size = go at *
  go_wp2_with fail
  clear d0 d1
  go_loopw [21] (fun iv wr => ∃ i : Nat, i ≤ n ∧ iv = .int .i64 i ∧ VS w n S0.size go X at' (vArr X D n at' i 0) wr) (fun iv _ => n - (intOf iv).toNat)
  case atStart => exact ⟨0, by omega, rfl, HV0.out⟩
  case round =>
    clear HV0
    obtain ⟨i, hi, rfl, hws⟩ := hrel
    have HWS := Lib.hid hws
    clear hws
    by_cases hlt : i < n
    · have hd : decide ((i : Int) < (n : Int)) = true := decide_eq_true (by omega)
      obtain ⟨b, off, e', hbB, c0, c1⟩ := (HX.out.below HWS.out.1.1) i hlt
      cases e'
      have hi1 : (i : Int) < (n : Int) := by omega
      have HW2 := Lib.hid (VS2_new (x := X i) (d := D i) HWS.out)
      have HDi := Lib.hid (HD.out i hlt)
      clear HWS
      go_wp2_with fail
      clear c0 c1 hd
      generalize (wr.alloc (.cells #[.int .i64 (X i : Nat), .string (D i)] 46)) = wq at *
      generalize wr.heap.size = gb at *
      go_loopw [28] (fun kv wr => ∃ j : Nat, j ≤ S0.size ∧ kv = .int .i64 j ∧ VS2 w n S0.size go X at' (vArr X D n at' i j) gb (X i) (D i) wr) (fun kv _ => S0.size - (intOf kv).toNat)
      case atStart => exact ⟨0, by omega, rfl, HW2.out⟩
      case round =>
        clear HW2
        obtain ⟨j, hj, rfl, hws⟩ := hrel
        have HWS := Lib.hid hws
        clear hws
        by_cases hlj : j < S0.size
        · have hd : decide ((j : Int) < (S0.size : Int)) = true := decide_eq_true (by omega)
          have HE := Lib.hid (vB_succ X D n at' i j)
          have hwi : wDone X at' n n i = wK X i at' n := by simp [wDone, hlt]
          have hoj : vArr X D n at' i j j = vB X D n at' i j := by simp [vArr]
          have HVL := vB_lt X D n at' i j HL.out ha
          have HWL := Lib.hid (wK_lt X i at' n HL.out ha)
          have y0 := (HWS.out.1.1.2.2 i hlt).1
          have y1 := (HWS.out.1.2.2.2 j hlj).1
          have z1 := (HWS.out.1.2.2.2 j hlj).2
          rw [hwi] at y0
          rw [hoj] at y1
          clear hwi hoj
          have bx : wr.cell? ⟨gb, 0, none⟩ = some (.int .i64 (X i : Nat)) := HWS.out.2.2.2.cell 0
          have bx1 : wr.cell? ⟨gb, 1, none⟩ = some (.string (D i)) := HWS.out.2.2.2.cell 1
          have hj1 : (j : Int) < (S0.size : Int) := by omega
          have hj2 : j < (D i).size := by rw [HDi.out]; exact hlj
          have hj3 : (j : Int) < ((D i).size : Int) := by omega
          have e8 := at8_get (D i) j hj2
          have HAL := Lib.hid (at8_lt (D i) j)
          generalize at8 (D i) j = A at *
          have HC := Lib.hid (fun w => times64 (wK X i at' n) A w HWL.out HAL.out)
          have HTL := tm_lt (b := A) HWL.out
          have x1 := u8_xor_nat (vB X D n at' i j) (tm (wK X i at' n) A) HVL HTL
          generalize tm (wK X i at' n) A = T at *
          generalize wK X i at' n = W at *
          generalize D i = S at *
          go_wp2_with fail
          refine wp_region_still_tail 15 (by kernel_rfl) (by kernel_rfl) ?_
          simp only [List.take_succ_cons, List.take_zero, List.drop_succ_cons, List.drop_zero]
          repeat still_step
          still_call (by refine (HC.out _).mono ?_; rintro e w' ⟨rfl, rfl⟩; exact ⟨rfl, rfl⟩)
          repeat still_step
          refine wpStill_nil ?_
          change wpList _ _ _ _ _ wr.drew
          go_wp2_with fail
          go_roundw
          case rel =>
            refine ⟨j + 1, by omega, by go_num, ?_⟩
            rw [← vArr_step X D n at' i j _ HE.out.symm]
            exact (HWS.out.store j _ hlj).drew
          case measure => simp [intOf]; omega
        · have hd : decide ((j : Int) < (S0.size : Int)) = false := decide_eq_false (by omega)
          have HWE := Lib.hid (show VS w n S0.size go X at' (vArr X D n at' (i + 1) 0) wr from by
            refine ⟨HWS.out.1.1, HWS.out.1.2.1, HWS.out.1.2.2.congr fun q hq => ?_⟩
            obtain rfl : j = S0.size := by omega
            simp [vArr, hq])
          clear HWS
          go_wp2_with fail
          go_roundw
          case rel => exact ⟨i + 1, by omega, by go_num, HWE.out⟩
          case measure => simp [intOf]; omega
    · have hd : decide ((i : Int) < (n : Int)) = false := decide_eq_false (by omega)
      obtain rfl : i = n := by omega
      have hcv := conv_BR (HWS.out.2.2.congr (f' := vB X D i at' i) fun q hq => by simp [vArr]) S0.size
      go_wp2_with fail
      go_ret
      exact ⟨rfl, HWS.out.1.1⟩
end Go.Proofs.Ytnjmcppljbkhnaa
