import Derived.Test.YtnjmcppljbkhnaaGd
set_option linter.unusedVariables false
set_option linter.unusedSimpArgs false
namespace Go.Proofs.Ytnjmcppljbkhnaa
open Go.RowKit

theorem SRow.more {w : World} {B B' : Nat} {a : Option Addr} {n : Nat} {X : Nat → Nat} {D : Nat → ByteArray} (h : SRow w B a n X D) (hB : B ≤ B') : SRow w B' a n X D := by
  intro i hi
  obtain ⟨b, off, e, hb, h1, h2⟩ := h i hi
  exact ⟨b, off, e, by omega, h1, h2⟩
theorem SRow.at' {w w' : World} {a : Option Addr} {n : Nat} {X : Nat → Nat} {D : Nat → ByteArray} (h : SRow w w.heap.size a n X D) (hb : Below w.heap.size w w') : SRow w' w'.heap.size a n X D := (h.below hb).more hb.size
theorem conv_one (w : World) (V : Nat) (t : TypeId) : (convert 88 9 (.slice (some ⟨w.heap.size, 0, none⟩) 1 1)).run Try.prog (w.alloc (.cells #[.int .u8 (V : Nat)] t)) = .ok (.string ⟨#[UInt8.ofNat V]⟩) (w.alloc (.cells #[.int .u8 (V : Nat)] t)) := by
  have h := conv_row (f := fun _ => V) (n := 1) (Blk.new w t (row8 1 fun _ => V)) 0 1 (by omega) 1
  have e : row8 1 (fun _ => V) = #[.int .u8 (V : Nat)] := by simp [row8, List.range, List.range.loop]
  rw [e] at h
  have e2 : strB 1 (fun _ => V) = ⟨#[UInt8.ofNat V]⟩ := by simp [strB, List.range, List.range.loop]
  rw [e2] at h
  exact h
theorem strB_succ (n : Nat) (f : Nat → Nat) : strB n f ++ ⟨#[UInt8.ofNat (f n)]⟩ = strB (n + 1) f := by
  unfold strB
  apply ByteArray.ext
  simp [List.range_succ]
/-- the further shares fit. -/
def Good (X : Nat → Nat) (D : Nat → ByteArray) (n len m : Nat) : Prop := ∀ j, j < m → ∀ i, n ≤ i → i < len → vB X D n (X i) n j = at8 (D i) j
def SecPost (X : Nat → Nat) (D : Nat → ByteArray) (n len m : Nat) (w : World) (e : Ending) (w' : World) : Prop :=
  ((Good X D n len m ∧ e = .returned (.tuple #[.string (vS X D n 0 m), .bool true])) ∨ (¬ Good X D n len m ∧ e = .returned (.tuple #[.string ByteArray.empty, .bool false]))) ∧ Below w.heap.size w w'
set_option maxRecDepth 100000 in
set_option maxHeartbeats 2000000 in
theorem secretOf29_lt (a : Option Addr) (ca len n m : Nat) (X : Nat → Nat) (D : Nat → ByteArray) (w : World) (hx : SRow w w.heap.size a len X D) (hX : ∀ i, X i < 256) (hn : n ≤ 255) (h0 : 0 < n) (hln : n ≤ len) (hlen : len ≤ 255) (hca : len ≤ ca) (hcn : n < ca) (hcm : ca ≤ maxLen) (hm2 : m ≤ 1024) (hD : ∀ i, i < len → (D i).size = m) (hI : ∀ i k, i < len → k < len → X i = X k → i = k) :
    Calls Try.prog 29 #[.slice a len ca, .int .i64 n] w (SecPost X D n len m w) := by
  have HX := Lib.hid hx
  have HL := Lib.hid hX
  have HD := Lib.hid hD
  have HI := Lib.hid hI
  have HC := Lib.hid (fun (at' j : Nat) (w : World) (hx : SRow w w.heap.size a len X D) (ha : at' < 256) (hm : j < m) => refValueAt63 a ca len n m X D at' j w w.heap.size hx hX ha hn hln (by unfold maxLen; omega) hm (by omega) (fun i hi => hD i (by omega)) (fun i k hi hk => hI i k (by omega) (by omega)))
  unfold maxLen at hcm
  clear hx hX hD hI
  obtain ⟨b0, off0, rfl, hbB0, d0, d1⟩ := HX.out 0 (by omega)
  have hh0 : (0 : Int) < (len : Int) := by omega
  have hsz := HD.out 0 (by omega)
  rw [Nat.zero_mul, Nat.add_zero] at d0 d1
  generalize hS0 : D 0 = S0 at *
  subst hsz
  have HS0 := Lib.hid hS0
  clear hS0
  go_enter Try.func29, Try.ntmps29
  go_wp2_with fail
  clear d0 d1
  go_loopw [6, 15] (fun sv jv wr => ∃ j : Nat, j ≤ S0.size ∧ jv = .int .i64 j ∧ sv = .string (strB j (vB X D n 0 n)) ∧ Below w.heap.size w wr ∧ Hid (∀ q, q < j → ∀ i, n ≤ i → i < len → vB X D n (X i) n q = at8 (D i) q)) (fun _ jv _ => S0.size - (intOf jv).toNat)
  case atStart => exact ⟨0, by omega, rfl, rfl, Below.refl _ _, fun q hq => by omega⟩
  case round =>
    obtain ⟨j, hj, rfl, rfl, hb, HG⟩ := hrel
    have HB := Lib.hid hb
    clear hb
    by_cases hlj : j < S0.size
    · have hd : decide ((j : Int) < (S0.size : Int)) = true := decide_eq_true (by omega)
      go_wp2_with fail
      refine (HC.out 0 j _ (HX.out.at' HB.out) (by decide) hlj).mono ?_
      rintro e w1 ⟨rfl, q, hq⟩
      have HVL := vB_lt X D n 0 n j HL.out (by decide)
      have HS := Lib.hid (strB_succ j (vB X D n 0 n))
      have HSZ := Lib.hid (strB_size j (vB X D n 0 n))
      generalize strB j (vB X D n 0 n) = T at *
      generalize vB X D n 0 n j = V at *
      have HB1 := Lib.hid (show Below w.heap.size w w1 from by rw [hq]; exact below_drewN HB.out q)
      clear hq
      have hcv := fun t => conv_one w1 V t
      have hts : T.size ≤ 1024 := by rw [HSZ.out]; omega
      go_wp2_with fail
      clear hcv
      have HT := Lib.hid (HS.out)
      clear hts hd
      have HBA := Lib.hid (below_step HB1.out (Nat.le_refl _) ((Below.refl w1.heap.size w1).alloc (Nat.le_refl _) (.cells #[.int .u8 (V : Nat)] 5)))
      generalize w1.alloc (.cells #[.int .u8 (V : Nat)] 5) = w2 at *
      go_loopw [31] (fun tv wr => ∃ t : Nat, t ≤ len - n ∧ tv = .int .i64 t ∧ Below w.heap.size w wr ∧ Hid (∀ i, n ≤ i → i < n + t → vB X D n (X i) n j = at8 (D i) j)) (fun tv _ => len - n - (intOf tv).toNat)
      case atStart => exact ⟨0, by omega, rfl, HBA.out, fun i h1 h2 => by omega⟩
      case round =>
        clear HBA
        obtain ⟨t, ht, rfl, hb, HGI⟩ := hrel
        have HBW := Lib.hid hb
        clear hb
        by_cases hlt : t < len - n
        · have hd : decide ((t : Int) < ((len - n : Nat) : Int)) = true := decide_eq_true (by omega)
          have hd2 : decide (t < len - n) = true := decide_eq_true hlt
          obtain ⟨i, hi⟩ : ∃ i, i = n + t := ⟨_, rfl⟩
          obtain ⟨b', off', e', hbB', c0, c1⟩ := (HX.out.below HBW.out) i (by omega)
          cases e'
          have ea : off0 + i * 2 = off0 + n * 2 + t * 2 := by omega
          rw [ea] at c0 c1
          clear ea
          have hjd : j < (D i).size := by rw [HD.out i (by omega)]; exact hlj
          have hj3 : (j : Int) < ((D i).size : Int) := by omega
          have e8 := at8_get (D i) j hjd
          have HXB := Lib.hid (HX.out.at' (below_step HBW.out (Nat.le_refl _) ((Below.refl wr.heap.size wr).alloc (Nat.le_refl _) (.cells #[.int .i64 (X i : Nat), .string (D i)] 46))))
          have HBB := Lib.hid (below_step HBW.out (Nat.le_refl _) ((Below.refl wr.heap.size wr).alloc (Nat.le_refl _) (.cells #[.int .i64 (X i : Nat), .string (D i)] 46)))
          have HXI := Lib.hid (HL.out i)
          have HI1 := Lib.hid (show n ≤ i ∧ i < len ∧ i = n + t from ⟨by omega, by omega, hi⟩)
          clear hi
          have hA := at8_lt (D i) j
          by_cases he : vB X D n (X i) n j = at8 (D i) j
          · have HE := Lib.hid he
            have q1 : (((vB X D n (X i) n j : Nat) : Int) == ((at8 (D i) j : Nat) : Int)) = true := by rw [he]; simp
            have q2 : (((vB X D n (X i) n j : Nat) : Int) != ((at8 (D i) j : Nat) : Int)) = false := by rw [he]; simp
            clear he
            have HCX := Lib.hid (fun W (h : SRow W W.heap.size (some ⟨b0, off0, none⟩) len X D) => HC.out (X i) j W h HXI.out hlj)
            generalize hAA : at8 (D i) j = A at *
            generalize hYY : vB X D n (X i) n j = Y at *
            have HAA := Lib.hid hAA
            have HYY := Lib.hid hYY
            clear hAA hYY
            go_wp2_with fail
            go_quiet ((go_at_call 63; exact Calls.quiet_of (HCX.out _ (show SRow _ _ _ _ _ _ from HXB.out))))
            go_wp2_with fail
            go_roundw
            case rel =>
              refine ⟨t + 1, by omega, by go_num, below_drewN HBB.out _, fun i' h1 h2 => ?_⟩
              by_cases h3 : i' < n + t
              · exact HGI.out i' h1 h3
              · obtain rfl : i' = i := by have := HI1.out.2.2; omega
                rw [HYY.out, HAA.out]; exact HE.out
            case measure => simp [intOf]; omega
          · have HE := Lib.hid he
            have q1 : (((vB X D n (X i) n j : Nat) : Int) == ((at8 (D i) j : Nat) : Int)) = false := by simp; omega
            have q2 : (((vB X D n (X i) n j : Nat) : Int) != ((at8 (D i) j : Nat) : Int)) = true := by simp; omega
            clear he
            have HCX := Lib.hid (fun W (h : SRow W W.heap.size (some ⟨b0, off0, none⟩) len X D) => HC.out (X i) j W h HXI.out hlj)
            have HNG := Lib.hid (show ¬ Good X D n len S0.size from fun g => HE.out (g j hlj i HI1.out.1 HI1.out.2.1))
            generalize at8 (D i) j = A at *
            generalize vB X D n (X i) n j = Y at *
            go_wp2_with fail
            go_quiet ((go_at_call 63; exact Calls.quiet_of (HCX.out _ (show SRow _ _ _ _ _ _ from HXB.out))))
            go_wp2_with fail
            go_ret2
            exact ⟨Or.inr ⟨HNG.out, rfl⟩, below_drewN HBB.out _⟩
        · have hd : decide ((t : Int) < ((len - n : Nat) : Int)) = false := decide_eq_false (by omega)
          have hd2 : decide (t < len - n) = false := decide_eq_false hlt
          have HN := Lib.hid (show n + t = len from by omega)
          go_wp2_with fail
          go_roundw
          case rel =>
            have HREL : ∃ j' : Nat, j' ≤ S0.size ∧ Value.int .i64 ((j : Int) + 1) = .int .i64 j' ∧ Value.string (T ++ ⟨#[UInt8.ofNat V]⟩) = .string (strB j' (vB X D n 0 n)) ∧ Below w.heap.size w wr ∧ Hid (∀ q, q < j' → ∀ i, n ≤ i → i < len → vB X D n (X i) n q = at8 (D i) q) := by
              refine ⟨j + 1, by omega, by go_num, by rw [HT.out], HBW.out, fun q hq i h1 h2 => ?_⟩
              by_cases h3 : q < j
              · exact HG.out q h3 i h1 h2
              · obtain rfl : q = j := by omega
                exact HGI.out i h1 (by rw [HN.out]; exact h2)
            first | exact HREL | ((repeat apply Exists.intro); exact ⟨HREL, rfl⟩)
          case measure => simp [intOf]; omega
    · have hd : decide ((j : Int) < (S0.size : Int)) = false := decide_eq_false (by omega)
      obtain rfl : j = S0.size := by omega
      go_wp2_with fail
      go_ret2
      exact ⟨Or.inl ⟨HG.out, rfl⟩, HB.out⟩
set_option maxRecDepth 100000 in
set_option maxHeartbeats 2000000 in
theorem secretOf29_eq (a : Option Addr) (n m : Nat) (X : Nat → Nat) (D : Nat → ByteArray) (w : World) (hx : SRow w w.heap.size a n X D) (hX : ∀ i, X i < 256) (hn : n ≤ 255) (h0 : 0 < n) (hcm : n ≤ maxLen) (hm2 : m ≤ 1024) (hD : ∀ i, i < n → (D i).size = m) (hI : ∀ i k, i < n → k < n → X i = X k → i = k) :
    Calls Try.prog 29 #[.slice a n n, .int .i64 n] w (SecPost X D n n m w) := by
  have HX := Lib.hid hx
  have HL := Lib.hid hX
  have HD := Lib.hid hD
  have HI := Lib.hid hI
  have HC := Lib.hid (fun (at' j : Nat) (w : World) (hx : SRow w w.heap.size a n X D) (ha : at' < 256) (hm : j < m) => refValueAt63 a n n n m X D at' j w w.heap.size hx hX ha hn (Nat.le_refl _) (by unfold maxLen; omega) hm (by omega) (fun i hi => hD i (by omega)) (fun i k hi hk => hI i k (by omega) (by omega)))
  unfold maxLen at hcm
  clear hx hX hD hI
  obtain ⟨b0, off0, rfl, hbB0, d0, d1⟩ := HX.out 0 (by omega)
  have hh0 : (0 : Int) < (n : Int) := by omega
  have hsz := HD.out 0 (by omega)
  rw [Nat.zero_mul, Nat.add_zero] at d0 d1
  generalize hS0 : D 0 = S0 at *
  subst hsz
  have HS0 := Lib.hid hS0
  clear hS0
  go_enter Try.func29, Try.ntmps29
  go_wp2_with fail
  clear d0 d1
  go_loopw [6, 15] (fun sv jv wr => ∃ j : Nat, j ≤ S0.size ∧ jv = .int .i64 j ∧ sv = .string (strB j (vB X D n 0 n)) ∧ Below w.heap.size w wr ∧ Hid (∀ q, q < j → ∀ i, n ≤ i → i < n → vB X D n (X i) n q = at8 (D i) q)) (fun _ jv _ => S0.size - (intOf jv).toNat)
  case atStart => exact ⟨0, by omega, rfl, rfl, Below.refl _ _, fun q hq => by omega⟩
  case round =>
    obtain ⟨j, hj, rfl, rfl, hb, HG⟩ := hrel
    have HB := Lib.hid hb
    clear hb
    by_cases hlj : j < S0.size
    · have hd : decide ((j : Int) < (S0.size : Int)) = true := decide_eq_true (by omega)
      go_wp2_with fail
      refine (HC.out 0 j _ (HX.out.at' HB.out) (by decide) hlj).mono ?_
      rintro e w1 ⟨rfl, q, hq⟩
      have HVL := vB_lt X D n 0 n j HL.out (by decide)
      have HS := Lib.hid (strB_succ j (vB X D n 0 n))
      have HSZ := Lib.hid (strB_size j (vB X D n 0 n))
      generalize strB j (vB X D n 0 n) = T at *
      generalize vB X D n 0 n j = V at *
      have HB1 := Lib.hid (show Below w.heap.size w w1 from by rw [hq]; exact below_drewN HB.out q)
      clear hq
      have hcv := fun t => conv_one w1 V t
      have hts : T.size ≤ 1024 := by rw [HSZ.out]; omega
      go_wp2_with fail
      clear hcv
      have HT := Lib.hid (HS.out)
      clear hts hd
      have HBA := Lib.hid (below_step HB1.out (Nat.le_refl _) ((Below.refl w1.heap.size w1).alloc (Nat.le_refl _) (.cells #[.int .u8 (V : Nat)] 5)))
      generalize w1.alloc (.cells #[.int .u8 (V : Nat)] 5) = w2 at *
      go_loopw [31] (fun tv wr => ∃ t : Nat, t ≤ n - n ∧ tv = .int .i64 t ∧ Below w.heap.size w wr ∧ Hid (∀ i, n ≤ i → i < n + t → vB X D n (X i) n j = at8 (D i) j)) (fun tv _ => n - n - (intOf tv).toNat)
      case atStart => exact ⟨0, by omega, rfl, HBA.out, fun i h1 h2 => by omega⟩
      case round =>
        clear HBA
        obtain ⟨t, ht, rfl, hb, HGI⟩ := hrel
        have HBW := Lib.hid hb
        clear hb
        by_cases hlt : t < n - n
        · exfalso; omega
        · have hd : decide ((t : Int) < ((n - n : Nat) : Int)) = false := decide_eq_false (by omega)
          have hd2 : decide (t < n - n) = false := decide_eq_false hlt
          have HN := Lib.hid (show n + t = n from by omega)
          go_wp2_with fail
          go_roundw
          case rel =>
            have HREL : ∃ j' : Nat, j' ≤ S0.size ∧ Value.int .i64 ((j : Int) + 1) = .int .i64 j' ∧ Value.string (T ++ ⟨#[UInt8.ofNat V]⟩) = .string (strB j' (vB X D n 0 n)) ∧ Below w.heap.size w wr ∧ Hid (∀ q, q < j' → ∀ i, n ≤ i → i < n → vB X D n (X i) n q = at8 (D i) q) := by
              refine ⟨j + 1, by omega, by go_num, by rw [HT.out], HBW.out, fun q hq i h1 h2 => ?_⟩
              by_cases h3 : q < j
              · exact HG.out q h3 i h1 h2
              · obtain rfl : q = j := by omega
                exact HGI.out i h1 (by rw [HN.out]; exact h2)
            first | exact HREL | ((repeat apply Exists.intro); exact ⟨HREL, rfl⟩)
          case measure => simp [intOf]; omega
    · have hd : decide ((j : Int) < (S0.size : Int)) = false := decide_eq_false (by omega)
      obtain rfl : j = S0.size := by omega
      go_wp2_with fail
      go_ret2
      exact ⟨Or.inl ⟨HG.out, rfl⟩, HB.out⟩
theorem secretOf29 (a : Option Addr) (ca len n m : Nat) (X : Nat → Nat) (D : Nat → ByteArray) (w : World) (hx : SRow w w.heap.size a len X D) (hX : ∀ i, X i < 256) (hn : n ≤ 255) (h0 : 0 < n) (hln : n ≤ len) (hlen : len ≤ 255) (hca : len ≤ ca) (hcm : ca ≤ maxLen) (hm2 : m ≤ 1024) (hD : ∀ i, i < len → (D i).size = m) (hI : ∀ i k, i < len → k < len → X i = X k → i = k) :
    Calls Try.prog 29 #[.slice a len ca, .int .i64 n] w (SecPost X D n len m w) := by
  by_cases hcn : n < ca
  · exact secretOf29_lt a ca len n m X D w hx hX hn h0 hln hlen hca hcn hcm hm2 hD hI
  · obtain rfl : ca = n := by omega
    obtain rfl : len = ca := by omega
    exact secretOf29_eq a len m X D w hx hX hn h0 hcm hm2 hD hI
end Go.Proofs.Ytnjmcppljbkhnaa
