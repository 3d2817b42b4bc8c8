import Derived.Test.YtnjmcppljbkhnaaFa
set_option linter.unusedVariables false
set_option linter.unusedSimpArgs false
namespace Go.Proofs.Ytnjmcppljbkhnaa
open Go.RowKit
set_option maxHeartbeats 1000000 in
theorem wordAt95 (s : ByteArray) (i : Nat) (w : World) (hs : i + 4 ≤ s.size) (hm : s.size ≤ maxLen) :
    Calls Try.prog 95 #[.string s, .int .i64 i] w fun e w' => e = .returned (.int .u32 (wbe s i : Nat)) ∧ Below w.heap.size w w' := by
  unfold maxLen at hm
  have h0 : i < s.size := by omega
  have h1 : i + 1 < s.size := by omega
  have h2 : i + 2 < s.size := by omega
  have h3 : i + 3 < s.size := by omega
  have w1 : IntKind.i64.wrap ((i : Int) + 1) = (i : Int) + 1 := IntWalk.i64_in _ (by omega)
  have w2 : IntKind.i64.wrap ((i : Int) + 2) = (i : Int) + 2 := IntWalk.i64_in _ (by omega)
  have w3 : IntKind.i64.wrap ((i : Int) + 3) = (i : Int) + 3 := IntWalk.i64_in _ (by omega)
  have t1 : ((i : Int) + 1).toNat = i + 1 := by omega
  have t2 : ((i : Int) + 2).toNat = i + 2 := by omega
  have t3 : ((i : Int) + 3).toNat = i + 3 := by omega
  have p1 : 0 ≤ (i : Int) + 1 := by omega
  have q1 : (i : Int) + 1 < (s.size : Int) := by omega
  have p2 : 0 ≤ (i : Int) + 2 := by omega
  have q2 : (i : Int) + 2 < (s.size : Int) := by omega
  have p3 : 0 ≤ (i : Int) + 3 := by omega
  have q3 : (i : Int) + 3 < (s.size : Int) := by omega
  have p0 : 0 ≤ (i : Int) := by omega
  have q0 : (i : Int) < (s.size : Int) := by omega
  go_enter Try.func95, Try.ntmps95
  go_wp2
  go_quiet (fail)
  go_wp2
  go_ret
  refine ⟨ret_int ?_, by first | exact below_drewN (Below.refl _ _) _ | exact below_drew (Below.refl _ _)⟩
  rw [at8_get s i h0, at8_get s (i + 1) h1, at8_get s (i + 2) h2, at8_get s (i + 3) h3]
  rw [lw_bits' _ _ _ _ (at8_lt _ _) (at8_lt _ _) (at8_lt _ _) (at8_lt _ _)]
  unfold wbe
  omega
/-- the nonce of part i. -/
def pNonce (nonce : ByteArray) (i : Nat) : ByteArray := nonce.extract 0 8 ++ beS 4 (wbe nonce 8 + i)
theorem pNonce_size (nonce : ByteArray) (i : Nat) (h : nonce.size = 12) : (pNonce nonce i).size = 12 := by
  unfold pNonce
  rw [ByteArray.size_append, beS_size]
  simp; omega
theorem beS_mod (v : Nat) : beS 4 (v % 4294967296) = beS 4 v := strB_congr fun i hi => by
  unfold beF
  have : i = 0 ∨ i = 1 ∨ i = 2 ∨ i = 3 := by omega
  rcases this with rfl | rfl | rfl | rfl <;> simp only [Nat.reduceSub, Nat.reducePow] <;> omega
set_option maxRecDepth 100000 in
set_option maxHeartbeats 1000000 in
theorem partNonce70 (nonce : ByteArray) (i : Nat) (w : World) (hn : nonce.size = 12) (hi : i < 4294967296) :
    Calls Try.prog 70 #[.string nonce, .int .i64 i] w fun e w' => e = .returned (.string (pNonce nonce i)) ∧ Below w.heap.size w w' := by
  have hn1 : nonce.size ≤ 12 := by omega
  have hn2 : 12 ≤ nonce.size := by omega
  have i0 : (8 : Int) ≤ (nonce.size : Int) := by omega
  have i00 : ¬ (nonce.size : Int) < 8 := by omega
  have C95 := Lib.hid (fun w => wordAt95 nonce 8 w (by omega) (by unfold maxLen; omega))
  have HW := Lib.hid (wbe_lt nonce 8)
  have HP := Lib.hid (show nonce.extract 0 8 ++ beS 4 ((wbe nonce 8 + i) % 4294967296) = pNonce nonce i from by rw [beS_mod]; rfl)
  have hA : (nonce.extract 0 8).size ≤ 8 := by simp; omega
  have hB : (beS 4 ((wbe nonce 8 + i) % 4294967296)).size ≤ 4 := by rw [beS_size]; omega
  have C94 := Lib.hid (fun w => four94 ((wbe nonce 8 + i) % 4294967296) w (Nat.mod_lt _ (by decide)))
  have hsum : ((wbe nonce 8 : Int) + (i : Int)) % 4294967296 = (((wbe nonce 8 + i) % 4294967296 : Nat) : Int) := by omega
  have hic : (i : Int) % 4294967296 = (i : Int) := by omega
  have hic2 : IntKind.u32.wrap (i : Int) = (i : Int) := by rw [IntKind.wrap_u32]; omega
  have hsum2 : IntKind.u32.wrap ((wbe nonce 8 : Int) + (i : Int)) = (((wbe nonce 8 + i) % 4294967296 : Nat) : Int) := by rw [IntKind.wrap_u32]; omega
  generalize beS 4 ((wbe nonce 8 + i) % 4294967296) = B at *
  have hwl := wbe_lt nonce 8
  generalize (wbe nonce 8 + i) % 4294967296 = S at *
  generalize wbe nonce 8 = W at *
  clear hn
  go_enter Try.func70, Try.ntmps70
  go_wp2_with fail
  have a1 : (nonce.extract 0 8).size + B.size ≤ 9223372036854775807 := by omega
  have a2 : (nonce.extract 0 8).size + B.size ≤ maxLen := by unfold maxLen; omega
  have a3 : ¬ maxLen < (nonce.extract 0 8).size + B.size := by unfold maxLen; omega
  have a4 : ¬ 9223372036854775807 < (nonce.extract 0 8).size + B.size := by omega
  generalize hAe : nonce.extract 0 8 = A at *
  go_region_held3 (fun w' => Below w.heap.size w w') (first | exact below_drew (Below.refl _ _) | exact below_step (by assumption) (Nat.le_refl _) hbb | assumption) (first | (go_at_call 95; refine (C95.out _).mono ?_; rintro e w' ⟨rfl, hbb⟩) | (go_at_call 94; refine (C94.out _).mono ?_; rintro e w' ⟨rfl, hbb⟩))
  all_goals
    have HF := Lib.hid (by assumption : Below w.heap.size w _)
    clear hAe
    go_wp2_with fail
    go_ret
    exact ⟨by rw [← HP.out]; rfl, HF.out⟩
/-- the error of keys. -/
def kyE (c n t : ByteArray) : Int := if c.size ≠ 32 ∨ n.size ≠ 32 ∨ t.size ≠ 16 then 6 else 0
set_option maxHeartbeats 1000000 in
theorem keysError36 (c n t : ByteArray) (w : World) (hc : c.size ≤ maxLen) (hn : n.size ≤ maxLen) (ht : t.size ≤ maxLen) :
    Calls Try.prog 36 #[.agg #[.string c, .string n, .string t]] w fun e w' => e = .returned (.int .i64 (kyE c n t)) ∧ Below w.heap.size w w' := by
  unfold maxLen at hc hn ht
  by_cases h1 : c.size = 32
  · by_cases h2 : n.size = 32
    · by_cases h3 : t.size = 16
      · skip
        have d1 : ((c.size : Int) != 32) = false := by simp; omega
        have d2 : ((n.size : Int) != 32) = false := by simp; omega
        have d3 : ((t.size : Int) != 16) = false := by simp; omega
        have HE := Lib.hid (show kyE c n t = 0 from if_neg (by omega))
        clear h1 h2 h3
        go_enter Try.func36, Try.ntmps36
        go_wp2_with fail
        go_ret
        exact ⟨by rw [HE.out]; rfl, (Below.refl _ _).alloc (Nat.le_refl _) _⟩
      · skip
        have d1 : ((c.size : Int) != 32) = false := by simp; omega
        have d2 : ((n.size : Int) != 32) = false := by simp; omega
        have d3 : ((t.size : Int) != 16) = true := by simp; omega
        have HE := Lib.hid (show kyE c n t = 6 from if_pos (by omega))
        clear h1 h2 h3
        go_enter Try.func36, Try.ntmps36
        go_wp2_with fail
        go_ret
        exact ⟨by rw [HE.out]; rfl, (Below.refl _ _).alloc (Nat.le_refl _) _⟩
    · skip
      have d1 : ((c.size : Int) != 32) = false := by simp; omega
      have d2 : ((n.size : Int) != 32) = true := by simp; omega
      have HE := Lib.hid (show kyE c n t = 6 from if_pos (by omega))
      clear h1 h2
      go_enter Try.func36, Try.ntmps36
      go_wp2_with fail
      go_ret
      exact ⟨by rw [HE.out]; rfl, (Below.refl _ _).alloc (Nat.le_refl _) _⟩
  · skip
    have d1 : ((c.size : Int) != 32) = true := by simp; omega
    have HE := Lib.hid (show kyE c n t = 6 from if_pos (by omega))
    clear h1
    go_enter Try.func36, Try.ntmps36
    go_wp2_with fail
    go_ret
    exact ⟨by rw [HE.out]; rfl, (Below.refl _ _).alloc (Nat.le_refl _) _⟩
set_option maxHeartbeats 1000000 in
theorem checkKeys72 (c n t : ByteArray) (w : World) (hc : c.size ≤ maxLen) (hn : n.size ≤ maxLen) (ht : t.size ≤ maxLen) :
    Calls Try.prog 72 #[.agg #[.string c, .string n, .string t]] w fun e w' => e = .returned (.int .i64 (kyE c n t)) ∧ Below w.heap.size w w' := by
  unfold maxLen at hc hn ht
  by_cases h1 : c.size = 32
  · by_cases h2 : n.size = 32
    · by_cases h3 : t.size = 16
      · skip
        have d1 : ((c.size : Int) != 32) = false := by simp; omega
        have d2 : ((n.size : Int) != 32) = false := by simp; omega
        have d3 : ((t.size : Int) != 16) = false := by simp; omega
        have HE := Lib.hid (show kyE c n t = 0 from if_neg (by omega))
        clear h1 h2 h3
        go_enter Try.func72, Try.ntmps72
        go_wp2_with fail
        go_ret
        exact ⟨by rw [HE.out]; rfl, (Below.refl _ _).alloc (Nat.le_refl _) _⟩
      · skip
        have d1 : ((c.size : Int) != 32) = false := by simp; omega
        have d2 : ((n.size : Int) != 32) = false := by simp; omega
        have d3 : ((t.size : Int) != 16) = true := by simp; omega
        have HE := Lib.hid (show kyE c n t = 6 from if_pos (by omega))
        clear h1 h2 h3
        go_enter Try.func72, Try.ntmps72
        go_wp2_with fail
        go_ret
        exact ⟨by rw [HE.out]; rfl, (Below.refl _ _).alloc (Nat.le_refl _) _⟩
    · skip
      have d1 : ((c.size : Int) != 32) = false := by simp; omega
      have d2 : ((n.size : Int) != 32) = true := by simp; omega
      have HE := Lib.hid (show kyE c n t = 6 from if_pos (by omega))
      clear h1 h2
      go_enter Try.func72, Try.ntmps72
      go_wp2_with fail
      go_ret
      exact ⟨by rw [HE.out]; rfl, (Below.refl _ _).alloc (Nat.le_refl _) _⟩
  · skip
    have d1 : ((c.size : Int) != 32) = true := by simp; omega
    have HE := Lib.hid (show kyE c n t = 6 from if_pos (by omega))
    clear h1
    go_enter Try.func72, Try.ntmps72
    go_wp2_with fail
    go_ret
    exact ⟨by rw [HE.out]; rfl, (Below.refl _ _).alloc (Nat.le_refl _) _⟩
end Go.Proofs.Ytnjmcppljbkhnaa

set_option linter.unusedVariables false
set_option linter.unusedSimpArgs false
namespace Go.Proofs.Ytnjmcppljbkhnaa
open Go.RowKit
def flagS (last : Bool) : ByteArray := ⟨#[if last = true then 1 else 0]⟩
/-- the extra of part i. -/
def pExtra (head : ByteArray) (i : Nat) (last : Bool) : ByteArray := catS [head, beS 8 i, flagS last]
theorem pExtra_size (head : ByteArray) (i : Nat) (last : Bool) : (pExtra head i last).size = head.size + 9 := by
  have h : (beS 8 i).data.toList.length = 8 := by rw [Array.length_toList]; exact beS_size 8 i
  have h2 : head.data.toList.length = head.size := Array.length_toList
  have h3 : (flagS last).data.toList.length = 1 := rfl
  show ((([head, beS 8 i, flagS last]).map (·.data.toList)).flatten.toArray).size = _
  simp only [List.map_cons, List.map_nil, List.flatten_cons, List.flatten_nil, List.size_toArray, List.length_append, List.length_nil, h, h2, h3]
def lowV (M : ByteArray) : Nat → Nat
  | 0 => 0
  | t + 1 => lowV M t * 256 + at8 M (8 + t)
theorem lowV_lt (M : ByteArray) (t : Nat) : lowV M t < 256 ^ t := by
  induction t with
  | zero => simp [lowV]
  | succ t ih =>
    have := at8_lt M (8 + t)
    simp only [lowV, Nat.pow_succ]
    omega
theorem lowV_four (M : ByteArray) : lowV M 4 = wbe M 8 := by
  simp only [lowV, wbe, Nat.reduceAdd]
  omega
theorem cat3 (a b c : ByteArray) (W : World) (hlen : (catS [a, b, c]).size ≤ 140737488355328) :
    Calls Try.prog 103 #[.slice (some ⟨W.heap.size, 0, none⟩) 3 3] (W.alloc (.cells #[.string a, .string b, .string c] 9)) fun r w' => r = .returned (.string (catS [a, b, c])) ∧ Below (W.alloc (.cells #[.string a, .string b, .string c] 9)).heap.size (W.alloc (.cells #[.string a, .string b, .string c] 9)) w' := by
  refine concat103 W.heap.size 0 3 [a, b, c] _ ?_ (by simp) (by simp) (by simp) hlen
  intro j x hx
  rw [Nat.zero_add]
  have hb : Blk (W.alloc (.cells #[.string a, .string b, .string c] 9)) W.heap.size 9 #[.string a, .string b, .string c] := Blk.new W 9 _
  rw [hb.cell j]
  have hj : j < 3 := by
    have := (List.getElem?_eq_some_iff.1 hx).1
    simpa using this
  have hj' : j = 0 ∨ j = 1 ∨ j = 2 := by omega
  rcases hj' with rfl | rfl | rfl <;> simp at hx <;> subst hx <;> rfl
theorem or_byte (x b : Nat) (hx : x < 281474976710656) (hb : b < 256) : bits .or .i64 ((x : Int) * 256) (b : Int) = ((x * 256 + b : Nat) : Int) := by
  have h := i64_or_nat (x * 256) b (by omega) (by omega)
  have h2 := Nat.two_pow_add_eq_or_of_lt (i := 8) (b := b) (by omega) x
  rw [show (2 : Nat) ^ 8 = 256 by rfl] at h2
  rw [show x * 256 = 256 * x by omega, ← h2, show 256 * x = x * 256 by omega] at h
  simpa using h
set_option maxRecDepth 100000 in
set_option maxHeartbeats 2000000 in
theorem blockSpec97 (head : ByteArray) (i : Nat) (last : Bool) (w : World) (hh : head.size = 20) (hi : i ≤ 1099511627776) :
    Calls Try.prog 97 #[.string head, .int .i64 i, .bool last] w fun e w' => e = .returned (.tuple #[.string (pNonce (head.extract 8 head.size) i), .string (pExtra head i last)]) ∧ Below w.heap.size w w' := by
  have h1 : head.size ≤ 20 := by omega
  have h2 : 20 ≤ head.size := by omega
  have hM : (head.extract 8 head.size).size = 12 := by simp; omega
  have hM1 := Nat.le_of_eq hM
  have hM2 := Nat.le_of_eq hM.symm
  have HN := Lib.hid (show (head.extract 8 head.size).extract 0 8 ++ beS 4 (wbe (head.extract 8 head.size) 8 + i) = pNonce (head.extract 8 head.size) i from rfl)
  have HX := Lib.hid (pExtra_size head i last)
  have HXE := Lib.hid (show pExtra head i last = catS [head, beS 8 i, flagS last] from rfl)
  generalize pNonce (head.extract 8 head.size) i = PN at *
  clear hh hM
  generalize hMe : head.extract 8 head.size = M at *
  go_enter Try.func97, Try.ntmps97
  go_wp2_with fail
  clear hMe
  go_loop [9, 10] (fun lv kv => ∃ t : Nat, t ≤ 4 ∧ kv = .int .i64 ((8 + t : Nat) : Int) ∧ lv = .int .i64 (lowV M t : Nat)) (fun _ kv => 12 - (intOf kv).toNat)
  case atStart => exact ⟨0, by omega, rfl, rfl⟩
  case round =>
    obtain ⟨t, ht, rfl, rfl⟩ := hrel
    by_cases hlt : t < 4
    · have hlv : lowV M t < 281474976710656 := Nat.lt_of_lt_of_le (lowV_lt M t) (Nat.le_trans (Nat.pow_le_pow_right (by omega) (show t ≤ 6 by omega)) (by decide))
      have hu1 : 8 + t < M.size := by omega
      have e8 := at8_get M (8 + t) hu1
      have hA := at8_lt M (8 + t)
      have hor := or_byte (lowV M t) (at8 M (8 + t)) hlv hA
      have HS := Lib.hid (show lowV M t * 256 + at8 M (8 + t) = lowV M (t + 1) from rfl)
      have HJ := Lib.hid (show ((8 + t : Nat) : Int) + 1 = ((8 + (t + 1) : Nat) : Int) from by omega)
      have HK1 := Lib.hid (show t + 1 ≤ 4 from hlt)
      have hd : decide (((8 + t : Nat) : Int) < 12) = true := decide_eq_true (by omega)
      have hmz : 12 - (8 + (t + 1)) < 12 - (8 + t) := by omega
      generalize 8 + t = u at *
      have hu2 : (u : Int) < (M.size : Int) := by omega
      generalize at8 M u = A at *
      generalize lowV M t = V at *
      go_wp2_with fail
      go_round
      case rel => exact ⟨t + 1, HK1.out, by rw [HJ.out], by rw [← HS.out]; go_num⟩
      case measure => simp [intOf]; omega
    · obtain rfl : t = 4 := by omega
      rw [lowV_four]
      have hwl := wbe_lt M 8
      have C4 := Lib.hid (fun w => number110 (wbe M 8 + i) 4 w (by omega) (by decide))
      have C8 := Lib.hid (fun w => number110 i 8 w (by omega) (by decide))
      have e1 : (wbe M 8 : Int) + (i : Int) = ((wbe M 8 + i : Nat) : Int) := by omega
      have hS1 : wbe M 8 + i ≤ 2000000000000 := by omega
      have hB4 : (beS 4 (wbe M 8 + i)).size ≤ 4 := by rw [beS_size]; omega
      generalize beS 4 (wbe M 8 + i) = B4 at *
      generalize wbe M 8 + i = S at *
      generalize wbe M 8 = W at *
      have s1 : IntKind.i64.wrap (S : Int) = (S : Int) := wraps_i64 _ (by omega) (by omega)
      generalize beS 8 i = B8 at *
      have hA8 : (M.extract 0 8).size ≤ 8 := by simp; omega
      have i0 : (8 : Int) ≤ (M.size : Int) := by omega
      have i00 : ¬ M.size < 8 := by omega
      have i01 : 8 ≤ M.size := by omega
      generalize hAe : M.extract 0 8 = A at *
      have a1 : A.size + B4.size ≤ 9223372036854775807 := by omega
      have a2 : A.size + B4.size ≤ maxLen := by unfold maxLen; omega
      have a3 : ¬ maxLen < A.size + B4.size := by unfold maxLen; omega
      have a4 : ¬ 9223372036854775807 < A.size + B4.size := by omega
      have HCL := Lib.hid (show (catS [head, B8, flagS last]).size ≤ 140737488355328 from by rw [← HXE.out, HX.out]; omega)
      cases last
      · have hfl : flagS false = ⟨#[0]⟩ := rfl
        rw [hfl] at HCL HXE
        clear hfl
        go_wp2_with fail
        go_region_held3 (fun w' => Below w.heap.size w w') (first | exact below_drew (Below.refl _ _) | exact below_step (by assumption) (Nat.le_refl _) hbb | assumption | exact Below.alloc (by assumption) (by have := Below.size (by assumption : Below w.heap.size w _); omega) _) (first | (go_at_call_of 110 (Value.int IntKind.i64 4); refine (C4.out _).mono ?_; rintro e w' ⟨rfl, hbb⟩) | (go_at_call_of 110 (Value.int IntKind.i64 8); refine (C8.out _).mono ?_; rintro e w' ⟨rfl, hbb⟩) | (go_at_call 103; refine (cat3 _ _ _ _ HCL.out).mono ?_; rintro e w' ⟨rfl, hbb⟩))
        all_goals
          have HF := Lib.hid (by assumption : Below w.heap.size w _)
          clear hAe
          go_wp2_with fail
          go_ret2
          exact ⟨by rw [← HN.out, HXE.out]; rfl, HF.out⟩
      · have hfl : flagS true = ⟨#[1]⟩ := rfl
        rw [hfl] at HCL HXE
        clear hfl
        go_wp2_with fail
        go_region_held3 (fun w' => Below w.heap.size w w') (first | exact below_drew (Below.refl _ _) | exact below_step (by assumption) (Nat.le_refl _) hbb | assumption | exact Below.alloc (by assumption) (by have := Below.size (by assumption : Below w.heap.size w _); omega) _) (first | (go_at_call_of 110 (Value.int IntKind.i64 4); refine (C4.out _).mono ?_; rintro e w' ⟨rfl, hbb⟩) | (go_at_call_of 110 (Value.int IntKind.i64 8); refine (C8.out _).mono ?_; rintro e w' ⟨rfl, hbb⟩) | (go_at_call 103; refine (cat3 _ _ _ _ HCL.out).mono ?_; rintro e w' ⟨rfl, hbb⟩))
        all_goals
          have HF := Lib.hid (by assumption : Below w.heap.size w _)
          clear hAe
          go_wp2_with fail
          go_ret2
          exact ⟨by rw [← HN.out, HXE.out]; rfl, HF.out⟩
end Go.Proofs.Ytnjmcppljbkhnaa

set_option linter.unusedVariables false
set_option linter.unusedSimpArgs false
namespace Go.Proofs.Ytnjmcppljbkhnaa
open Go.RowKit
/-- a sealed part. -/
def partB (c head : ByteArray) (i : Nat) (last : Bool) (text : ByteArray) : ByteArray := sealB c (pNonce (head.extract 8 head.size) i) (pExtra head i last) text
theorem partB_size (c head : ByteArray) (i : Nat) (last : Bool) (text : ByteArray) : (partB c head i last text).size = text.size + 16 := sealB_size _ _ _ _
set_option maxRecDepth 100000 in
set_option maxHeartbeats 1000000 in
theorem sealPart75 (c n t head text : ByteArray) (i : Nat) (last : Bool) (w : World) (hc : c.size = 32) (hh : head.size = 20) (hi : i ≤ 1099511627776) (hs : text.size ≤ 100000) :
    Calls Try.prog 75 #[.agg #[.string c, .string n, .string t], .string head, .int .i64 i, .bool last, .string text] w fun e w' => e = .returned (.string (partB c head i last text)) ∧ Below w.heap.size w w' := by
  have HM : (head.extract 8 head.size).size = 12 := by simp; omega
  have HC := Lib.hid (fun w => sealBlock48 c (pNonce (head.extract 8 head.size) i) (pExtra head i last) text w hc (pNonce_size _ _ HM) (by rw [pExtra_size]; omega) (by omega))
  have HS := Lib.hid (fun w => blockSpec97 head i last w hh hi)
  have HE := Lib.hid (show sealB c (pNonce (head.extract 8 head.size) i) (pExtra head i last) text = partB c head i last text from rfl)
  rw [HE.out] at HC
  clear hc hh HM
  generalize pNonce (head.extract 8 head.size) i = N at *
  generalize pExtra head i last = X at *
  generalize partB c head i last text = R at *
  have HNEW := Lib.hid (Blk.new w 60 #[.string c, .string n, .string t])
  have HB0 := Lib.hid ((Below.refl w.heap.size w).alloc (Nat.le_refl _) (.cells #[Value.string c, Value.string n, Value.string t] 60))
  go_enter Try.func75, Try.ntmps75
  go_wp2_with fail
  refine (HS.out _).mono ?_
  rintro e w1 ⟨rfl, hb1⟩
  have b0 : w1.cell? ⟨w.heap.size, 0, none⟩ = some (.string c) := (hb1.cell (p := ⟨w.heap.size, 0, none⟩) (by simp)).trans (HNEW.out.cell 0)
  have HB1 := Lib.hid (show Below w.heap.size w w1 from HB0.out.trans (hb1.mono (by simp)))
  clear hb1 HNEW HB0
  go_wp2_with fail
  refine (HC.out _).mono ?_
  rintro e w2 ⟨rfl, hb2⟩
  have HB2 := Lib.hid (below_step HB1.out (Nat.le_refl _) hb2)
  clear hb2 b0
  go_wp2_with fail
  go_ret
  exact ⟨rfl, HB2.out⟩
set_option maxRecDepth 100000 in
set_option maxHeartbeats 1000000 in
theorem openPart96 (c n t head text : ByteArray) (i : Nat) (last : Bool) (w : World) (hc : c.size = 32) (hh : head.size = 20) (hi : i ≤ 1099511627776) (hs : text.size ≤ 100000) :
    Calls Try.prog 96 #[.agg #[.string c, .string n, .string t], .string head, .int .i64 i, .bool last, .string (partB c head i last text)] w fun e w' => e = .returned (.tuple #[.string text, .bool true]) ∧ Below w.heap.size w w' := by
  have HM : (head.extract 8 head.size).size = 12 := by simp; omega
  have HC := Lib.hid (fun w => openBlock49_ok c (pNonce (head.extract 8 head.size) i) (pExtra head i last) text w hc (pNonce_size _ _ HM) (by rw [pExtra_size]; omega) (by omega))
  have HS := Lib.hid (fun w => blockSpec97 head i last w hh hi)
  have HE := Lib.hid (show sealB c (pNonce (head.extract 8 head.size) i) (pExtra head i last) text = partB c head i last text from rfl)
  rw [HE.out] at HC
  clear hc hh HM
  generalize pNonce (head.extract 8 head.size) i = N at *
  generalize pExtra head i last = X at *
  generalize partB c head i last text = R at *
  have HNEW := Lib.hid (Blk.new w 60 #[.string c, .string n, .string t])
  have HB0 := Lib.hid ((Below.refl w.heap.size w).alloc (Nat.le_refl _) (.cells #[Value.string c, Value.string n, Value.string t] 60))
  go_enter Try.func96, Try.ntmps96
  go_wp2_with fail
  refine (HS.out _).mono ?_
  rintro e w1 ⟨rfl, hb1⟩
  have b0 : w1.cell? ⟨w.heap.size, 0, none⟩ = some (.string c) := (hb1.cell (p := ⟨w.heap.size, 0, none⟩) (by simp)).trans (HNEW.out.cell 0)
  have HB1 := Lib.hid (show Below w.heap.size w w1 from HB0.out.trans (hb1.mono (by simp)))
  clear hb1 HNEW HB0
  go_wp2_with fail
  refine (HC.out _).mono ?_
  rintro e w2 ⟨rfl, hb2⟩
  have HB2 := Lib.hid (below_step HB1.out (Nat.le_refl _) hb2)
  clear hb2 b0
  go_wp2_with fail
  go_ret2
  exact ⟨rfl, HB2.out⟩
end Go.Proofs.Ytnjmcppljbkhnaa
