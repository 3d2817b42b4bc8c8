import Derived.Test.YtdfloglicjocbaaVa
set_option linter.unusedVariables false
set_option linter.unusedSimpArgs false
namespace Go.Proofs.Ytdfloglicjocbaa
open Go.Shelf Go.RowKit Go.Lib Go.Sort
variable {α : Type} [Inhabited α]

omit [Inhabited α] in
theorem ltOf_yes {cf : α → α → Int} {x y : α} (h : cf x y < 0) : ltOf cf x y = true := decide_eq_true h
omit [Inhabited α] in
theorem ltOf_no {cf : α → α → Int} {x y : α} (h : ¬ cf x y < 0) : ltOf cf x y = false := decide_eq_false h

set_option maxHeartbeats 4000000 in
set_option maxRecDepth 1000000 in
theorem symOne (enc : α → Value) (cf : α → α → Int) (lt' : α → α → Bool) (hS : SWO lt') (g : Nat) (cb : Array Value) (blk off cap a b : Nat) (d0 d : Array α) (w0 w : World)
    (eg : ∀ args w, (callFunc g args).run Try.prog w = .ok (.enter g args) w) (hcmp : CmpLays1 Try.prog g cb enc cf blk off d0.size w0) (R : Row1 enc w0 blk off d0) (hs : d0.size = d.size) (S : SW enc w0 blk off d w) (hab : a + 1 < b) (hb : b ≤ d.size) (hsz : d.size < 4611686018427387904)
    (hB : SortedIn lt' (a + 1) b d) (hag : ∀ j, a + 1 ≤ j → j < b → lt' d[j]! d[a]! = ltOf cf d[j]! d[a]!) :
    Calls Try.prog 101 #[.slice (some ⟨blk, off, none⟩) d.size cap, .int .i64 a, .int .i64 ((a : Int) + 1), .int .i64 b, .func (.func g) #[] cb] w fun e w' => e = .returned (.tuple #[]) ∧ ∃ d', PermIn a b d d' ∧ SortedIn lt' a b d' ∧ SW enc w0 blk off d' w' := by
  have mixed := Try.laysSlF20_f100.mixed
  have hcl0 := R.hO.cells
  simp only [Value.cells] at hcl0
  have hst := R.hO.store Try.prog
  have HC : Aside _ := hcmp
  have S0 : Aside (SW enc w0 blk off d w) := S
  have HB := Lib.hid hB
  have HG := Lib.hid hag
  clear S hcmp hB hag
  have hone : ((a : Int) + 1 - (a : Int) == 1) = true := by rw [beq_iff_eq]; omega
  go_enter Try.func101, Try.ntmps101
  go_wp2
  go_loopg [10, 11] (b - a) (fun kx s10 s11 wr => ∃ (i j : Nat), s10 = .int .i64 i ∧ s11 = .int .i64 j ∧ a + 1 ≤ i ∧ i ≤ j ∧ j ≤ b ∧ j - i ≤ kx ∧ Aside (SW enc w0 blk off d wr) ∧ Hid (i = a + 1 ∨ lt' d[i - 1]! d[a]! = true) ∧ Hid (j = b ∨ lt' d[j]! d[a]! = false))
  case atStart => exact ⟨a + 1, b, by congr 1, rfl, by omega, by omega, by omega, by omega, S0, Or.inl rfl, Or.inl rfl⟩
  case round =>
    clear S0
    obtain ⟨i, j, rfl, rfl, hi1, hij, hjb, hkx, S1, HI, HJ⟩ := hrel
    by_cases hlt : i < j
    · have hltz : (i : Int) < (j : Int) := by omega
      obtain ⟨h, hh⟩ : ∃ h : Nat, h = (i + j) / 2 := ⟨_, rfl⟩
      have hz : ((i : Int) + (j : Int)) / 2 = (h : Int) := by omega
      have hb1 : i ≤ h := by omega
      have hb2 : h < j := by omega
      clear hh
      obtain ⟨iN, hiN⟩ : ∃ q, q = h := ⟨_, rfl⟩
      obtain ⟨jN, hjN⟩ : ∃ q, q = a := ⟨_, rfl⟩
      have ea : ((h : Int)).toNat = iN := by omega
      have pa : (0 : Int) ≤ (h : Int) := by omega
      have ba : (h : Int) < (d.size : Int) := by omega
      have ra : IntKind.i64.wrap ((h : Int)) = (h : Int) := by rw [IntKind.wrap_i64]; omega
      have ec : ((a : Int)).toNat = jN := by omega
      have pc : (0 : Int) ≤ (a : Int) := by omega
      have bc : (a : Int) < (d.size : Int) := by omega
      have rc : IntKind.i64.wrap ((a : Int)) = (a : Int) := by rw [IntKind.wrap_i64]; omega
      obtain ⟨x, hx⟩ : ∃ x, x = d[h]! := ⟨_, rfl⟩
      obtain ⟨y, hy⟩ : ∃ x, x = d[a]! := ⟨_, rfl⟩
      have la := S1.out.cl R (by omega) (h) (by omega)
      have lb := S1.out.cl R (by omega) (a) (by omega)
      rw [← hx, ← hiN] at la
      rw [← hy, ← hjN] at lb
      have hc := S1.out.cmp HC.out (by omega) x y
      by_cases hv : cf x y < 0
      · have hd : decide (cf x y < 0) = true := decide_eq_true hv
        have HI2 := Lib.hid (show h + 1 = a + 1 ∨ lt' d[h + 1 - 1]! d[a]! = true from Or.inr (by rw [show h + 1 - 1 = h by omega, HG.out h (by omega) (by omega), ← hx, ← hy]; exact ltOf_yes hv))
        clear hx hy hiN hjN
        go_wp2_with fail
        go_quiet_grown (first | (go_at_fn g; refine Calls.grown_of (hc _ _)))
        have S2 : Aside (SW enc w0 blk off d (grow (wr.drewN nq) osq)) := S1.out.grown nq osq
        clear la lb hc S1
        generalize grow (wr.drewN nq) osq = w2 at S2 ⊢
        clear nq osq ea ec
        go_wp2
        go_roundg (j - (h + 1))
        case measure => omega
        case rel => exact ⟨h + 1, j, by go_num, rfl, by omega, by omega, by omega, by omega, S2, HI2, HJ⟩
      · have hd : decide (cf x y < 0) = false := decide_eq_false hv
        have HJ2 := Lib.hid (show h = b ∨ lt' d[h]! d[a]! = false from Or.inr (by rw [HG.out h (by omega) (by omega), ← hx, ← hy]; exact ltOf_no hv))
        clear hx hy hiN hjN
        go_wp2_with fail
        go_quiet_grown (first | (go_at_fn g; refine Calls.grown_of (hc _ _)))
        have S2 : Aside (SW enc w0 blk off d (grow (wr.drewN nq) osq)) := S1.out.grown nq osq
        clear la lb hc S1
        generalize grow (wr.drewN nq) osq = w2 at S2 ⊢
        clear nq osq ea ec
        go_wp2
        go_roundg (h - i)
        case measure => omega
        case rel => exact ⟨i, h, rfl, rfl, by omega, by omega, by omega, by omega, S2, HI, HJ2⟩
    · obtain rfl : i = j := by omega
      have hltz : ¬ (i : Int) < (i : Int) := by omega
      go_wp2
      go_loopg [13] (i - 1 - a) (fun kx s13 wr => ∃ (k : Nat) (dk : Array α), s13 = .int .i64 k ∧ a ≤ k ∧ k ≤ i - 1 ∧ i - 1 - k ≤ kx ∧ dk.size = d.size ∧ Aside (SW enc w0 blk off dk wr) ∧ Hid (Rot a (a + 1) (k + 1) d dk) ∧ Hid (PermIn a b d dk))
      case atStart => exact ⟨a, d, rfl, by omega, by omega, by omega, rfl, S1, rot_nil a (a + 1) d (by omega), permIn_refl _ _ _⟩
      case round =>
        clear S1
        obtain ⟨k, dk, rfl, hk1, hk2, hkx2, hds, S1, HR, HP⟩ := hrel
        by_cases hkl : k < i - 1
        · have hkz : (k : Int) < (i : Int) - 1 := by omega
          obtain ⟨iN, hiN⟩ : ∃ q, q = k := ⟨_, rfl⟩
          obtain ⟨jN, hjN⟩ : ∃ q, q = (k + 1) := ⟨_, rfl⟩
          have ea : ((k : Int)).toNat = iN := by omega
          have pa : (0 : Int) ≤ (k : Int) := by omega
          have ba : (k : Int) < (d.size : Int) := by omega
          have ra : IntKind.i64.wrap ((k : Int)) = (k : Int) := by rw [IntKind.wrap_i64]; omega
          have ec : ((k : Int) + 1).toNat = jN := by omega
          have pc : (0 : Int) ≤ (k : Int) + 1 := by omega
          have bc : (k : Int) + 1 < (d.size : Int) := by omega
          have rc : IntKind.i64.wrap ((k : Int) + 1) = (k : Int) + 1 := by rw [IntKind.wrap_i64]; omega
          have HR2 := Lib.hid (rot_right a k d dk hk1 (by omega) HR.out)
          have HP2 := Lib.hid (permIn_trans _ _ _ _ _ HP.out (swp_permIn dk a b k (k + 1) (by omega) (by omega) (by omega) (by omega) (by omega)))
          obtain ⟨x, hx⟩ : ∃ x, x = dk[k]! := ⟨_, rfl⟩
          obtain ⟨y, hy⟩ : ∃ x, x = dk[k + 1]! := ⟨_, rfl⟩
          have S2 : Aside (SW enc w0 blk off (swp dk (k) (k + 1)) ((wr.setCell ⟨blk, off + iN, none⟩ (enc y)).setCell ⟨blk, off + jN, none⟩ (enc x)).drew) := by rw [hiN, hjN, hx, hy]; exact S1.out.swapped R (k) (k + 1) (by omega) (by omega)
          have ca := S1.out.c1 R (by omega) (k) (by omega)
          have cb' := S1.out.c1 R (by omega) (k + 1) (by omega)
          have fa := S1.out.f1 R (by omega) (k) (by omega)
          have fb := S1.out.f1 R (by omega) (k + 1) (by omega)
          obtain ⟨u, cc⟩ := S1.out.c2 R (by omega) (k) (k + 1) (by omega) (by omega) (enc y)
          rw [← hjN, ← hiN] at cc
          rw [← hx, ← hiN] at ca
          rw [← hy, ← hjN] at cb'
          rw [← hiN] at fa
          rw [← hjN] at fb
          clear S1 hx hy hiN hjN
          go_wp2_with fail
          go_big_region
          clear ca cb' cc fa fb
          generalize ((wr.setCell ⟨blk, off + iN, none⟩ (enc y)).setCell ⟨blk, off + jN, none⟩ (enc x)).drew = w2 at S2 ⊢
          clear ea ec
          go_wp2
          go_roundg (i - 1 - (k + 1))
          case measure => omega
          case rel => exact ⟨k + 1, _, by go_num, by omega, by omega, Nat.le_refl _, by rw [size_swp]; exact hds, S2, HR2, HP2⟩
        · obtain rfl : k = i - 1 := by omega
          have hkz : ¬ ((i - 1 : Nat) : Int) < (i : Int) - 1 := by omega
          have hkz2 : ((i - 1 : Nat) : Int) = (i : Int) - 1 := by omega
          have HM := Lib.hid (merge_one hS a i b d dk (by omega) hjb HB.out (by have := HR.out; rwa [show i - 1 + 1 = i by omega] at this) HI.out HJ.out)
          go_wp2
          (try simp only [Exit.inBlock, Exit.then]); refine bodyPost_ret (results_none rfl _ _ _) rfl ?_
          exact ⟨rfl, dk, HP.out, HM.out, S1.out⟩

set_option maxHeartbeats 4000000 in
set_option maxRecDepth 1000000 in
theorem symLast (enc : α → Value) (cf : α → α → Int) (lt' : α → α → Bool) (hS : SWO lt') (g : Nat) (cb : Array Value) (blk off cap a m : Nat) (d0 d : Array α) (w0 w : World)
    (eg : ∀ args w, (callFunc g args).run Try.prog w = .ok (.enter g args) w) (hcmp : CmpLays1 Try.prog g cb enc cf blk off d0.size w0) (R : Row1 enc w0 blk off d0) (hs : d0.size = d.size) (S : SW enc w0 blk off d w) (hab : a + 1 < m) (hb : m + 1 ≤ d.size) (hsz : d.size < 4611686018427387904)
    (hA : SortedIn lt' a m d) (hag : ∀ i, a ≤ i → i < m → lt' d[m]! d[i]! = ltOf cf d[m]! d[i]!) :
    Calls Try.prog 101 #[.slice (some ⟨blk, off, none⟩) d.size cap, .int .i64 a, .int .i64 m, .int .i64 ((m : Int) + 1), .func (.func g) #[] cb] w fun e w' => e = .returned (.tuple #[]) ∧ ∃ d', PermIn a (m + 1) d d' ∧ SortedIn lt' a (m + 1) d' ∧ SW enc w0 blk off d' w' := by
  have mixed := Try.laysSlF20_f100.mixed
  have hcl0 := R.hO.cells
  simp only [Value.cells] at hcl0
  have hst := R.hO.store Try.prog
  have HC : Aside _ := hcmp
  have S0 : Aside (SW enc w0 blk off d w) := S
  have HA := Lib.hid hA
  have HG := Lib.hid hag
  clear S hcmp hA hag
  have hne1 : ((m : Int) - (a : Int) == 1) = false := by simp; omega
  have hne2 : ((m : Int) + 1 - (m : Int) == 1) = true := by simp; omega
  go_enter Try.func101, Try.ntmps101
  go_wp2
  go_loopg [14, 15] (m - a) (fun kx s10 s11 wr => ∃ (i j : Nat), s10 = .int .i64 i ∧ s11 = .int .i64 j ∧ a ≤ i ∧ i ≤ j ∧ j ≤ m ∧ j - i ≤ kx ∧ Aside (SW enc w0 blk off d wr) ∧ Hid (i = a ∨ lt' d[m]! d[i - 1]! = false) ∧ Hid (j = m ∨ lt' d[m]! d[j]! = true))
  case atStart => exact ⟨a, m, rfl, rfl, by omega, by omega, by omega, by omega, S0, Or.inl rfl, Or.inl rfl⟩
  case round =>
    clear S0
    obtain ⟨i, j, rfl, rfl, hi1, hij, hjb, hkx, S1, HI, HJ⟩ := hrel
    by_cases hlt : i < j
    · have hltz : (i : Int) < (j : Int) := by omega
      obtain ⟨h, hh⟩ : ∃ h : Nat, h = (i + j) / 2 := ⟨_, rfl⟩
      have hz : ((i : Int) + (j : Int)) / 2 = (h : Int) := by omega
      have hb1 : i ≤ h := by omega
      have hb2 : h < j := by omega
      clear hh
      obtain ⟨iN, hiN⟩ : ∃ q, q = m := ⟨_, rfl⟩
      obtain ⟨jN, hjN⟩ : ∃ q, q = h := ⟨_, rfl⟩
      have ea : ((m : Int)).toNat = iN := by omega
      have pa : (0 : Int) ≤ (m : Int) := by omega
      have ba : (m : Int) < (d.size : Int) := by omega
      have ra : IntKind.i64.wrap ((m : Int)) = (m : Int) := by rw [IntKind.wrap_i64]; omega
      have ec : ((h : Int)).toNat = jN := by omega
      have pc : (0 : Int) ≤ (h : Int) := by omega
      have bc : (h : Int) < (d.size : Int) := by omega
      have rc : IntKind.i64.wrap ((h : Int)) = (h : Int) := by rw [IntKind.wrap_i64]; omega
      obtain ⟨x, hx⟩ : ∃ x, x = d[m]! := ⟨_, rfl⟩
      obtain ⟨y, hy⟩ : ∃ x, x = d[h]! := ⟨_, rfl⟩
      have la := S1.out.cl R (by omega) (m) (by omega)
      have lb := S1.out.cl R (by omega) (h) (by omega)
      rw [← hx, ← hiN] at la
      rw [← hy, ← hjN] at lb
      have hc := S1.out.cmp HC.out (by omega) x y
      by_cases hv : cf x y < 0
      · have hd : decide (cf x y < 0) = true := decide_eq_true hv
        have HJ2 := Lib.hid (show h = m ∨ lt' d[m]! d[h]! = true from Or.inr (by rw [HG.out h (by omega) (by omega), ← hx, ← hy]; exact ltOf_yes hv))
        clear hx hy hiN hjN
        go_wp2_with fail
        go_quiet_grown (first | (go_at_fn g; refine Calls.grown_of (hc _ _)))
        have S2 : Aside (SW enc w0 blk off d (grow (wr.drewN nq) osq)) := S1.out.grown nq osq
        clear la lb hc S1
        generalize grow (wr.drewN nq) osq = w2 at S2 ⊢
        clear nq osq ea ec
        go_wp2
        go_roundg (h - i)
        case measure => omega
        case rel => exact ⟨i, h, rfl, rfl, by omega, by omega, by omega, by omega, S2, HI, HJ2⟩
      · have hd : decide (cf x y < 0) = false := decide_eq_false hv
        have HI2 := Lib.hid (show h + 1 = a ∨ lt' d[m]! d[h + 1 - 1]! = false from Or.inr (by rw [show h + 1 - 1 = h by omega, HG.out h (by omega) (by omega), ← hx, ← hy]; exact ltOf_no hv))
        clear hx hy hiN hjN
        go_wp2_with fail
        go_quiet_grown (first | (go_at_fn g; refine Calls.grown_of (hc _ _)))
        have S2 : Aside (SW enc w0 blk off d (grow (wr.drewN nq) osq)) := S1.out.grown nq osq
        clear la lb hc S1
        generalize grow (wr.drewN nq) osq = w2 at S2 ⊢
        clear nq osq ea ec
        go_wp2
        go_roundg (j - (h + 1))
        case measure => omega
        case rel => exact ⟨h + 1, j, by go_num, rfl, by omega, by omega, by omega, by omega, S2, HI2, HJ⟩
    · obtain rfl : i = j := by omega
      have hltz : ¬ (i : Int) < (i : Int) := by omega
      go_wp2
      go_loopg [17] (m - i) (fun kx s17 wr => ∃ (k : Nat) (dk : Array α), s17 = .int .i64 k ∧ i ≤ k ∧ k ≤ m ∧ k - i ≤ kx ∧ dk.size = d.size ∧ Aside (SW enc w0 blk off dk wr) ∧ Hid (Rot k m (m + 1) d dk) ∧ Hid (PermIn a (m + 1) d dk))
      case atStart => exact ⟨m, d, rfl, by omega, by omega, by omega, rfl, S1, rot_nil2 m (m + 1) d (by omega), permIn_refl _ _ _⟩
      case round =>
        clear S1
        obtain ⟨k, dk, rfl, hk1, hk2, hkx2, hds, S1, HR, HP⟩ := hrel
        by_cases hkl : i < k
        · obtain ⟨p, rfl⟩ : ∃ p, k = p + 1 := ⟨k - 1, by omega⟩
          have hkz : (i : Int) < (p : Int) + 1 := by omega
          have hkz2 : (p : Int) + 1 - 1 = (p : Int) := by omega
          obtain ⟨iN, hiN⟩ : ∃ q, q = (p + 1) := ⟨_, rfl⟩
          obtain ⟨jN, hjN⟩ : ∃ q, q = p := ⟨_, rfl⟩
          have ea : ((p : Int) + 1).toNat = iN := by omega
          have pa : (0 : Int) ≤ (p : Int) + 1 := by omega
          have ba : (p : Int) + 1 < (d.size : Int) := by omega
          have ra : IntKind.i64.wrap ((p : Int) + 1) = (p : Int) + 1 := by rw [IntKind.wrap_i64]; omega
          have ec : ((p : Int)).toNat = jN := by omega
          have pc : (0 : Int) ≤ (p : Int) := by omega
          have bc : (p : Int) < (d.size : Int) := by omega
          have rc : IntKind.i64.wrap ((p : Int)) = (p : Int) := by rw [IntKind.wrap_i64]; omega
          have HR2 := Lib.hid (rot_left p m d dk (by omega) (by omega) HR.out)
          have HP2 := Lib.hid (permIn_trans _ _ _ _ _ HP.out (swp_permIn dk a (m + 1) (p + 1) p (by omega) (by omega) (by omega) (by omega) (by omega)))
          obtain ⟨x, hx⟩ : ∃ x, x = dk[p + 1]! := ⟨_, rfl⟩
          obtain ⟨y, hy⟩ : ∃ x, x = dk[p]! := ⟨_, rfl⟩
          have S2 : Aside (SW enc w0 blk off (swp dk (p + 1) (p)) ((wr.setCell ⟨blk, off + iN, none⟩ (enc y)).setCell ⟨blk, off + jN, none⟩ (enc x)).drew) := by rw [hiN, hjN, hx, hy]; exact S1.out.swapped R (p + 1) (p) (by omega) (by omega)
          have ca := S1.out.c1 R (by omega) (p + 1) (by omega)
          have cb' := S1.out.c1 R (by omega) (p) (by omega)
          have fa := S1.out.f1 R (by omega) (p + 1) (by omega)
          have fb := S1.out.f1 R (by omega) (p) (by omega)
          obtain ⟨u, cc⟩ := S1.out.c2 R (by omega) (p + 1) (p) (by omega) (by omega) (enc y)
          rw [← hiN, ← hjN] at cc
          rw [← hx, ← hiN] at ca
          rw [← hy, ← hjN] at cb'
          rw [← hiN] at fa
          rw [← hjN] at fb
          clear S1 hx hy hiN hjN
          go_wp2_with fail
          go_big_region
          clear ca cb' cc fa fb
          generalize ((wr.setCell ⟨blk, off + iN, none⟩ (enc y)).setCell ⟨blk, off + jN, none⟩ (enc x)).drew = w2 at S2 ⊢
          clear ea ec
          go_wp2
          go_roundg (p - i)
          case measure => omega
          case rel => exact ⟨p, _, by first | rfl | go_num, by omega, by omega, Nat.le_refl _, by rw [size_swp]; exact hds, S2, HR2, HP2⟩
        · obtain rfl : k = i := by omega
          have hkz : ¬ (k : Int) < (k : Int) := by omega
          have HM := Lib.hid (merge_last hS a k m d dk (by omega) hjb HA.out HR.out HI.out HJ.out)
          go_wp2
          (try simp only [Exit.inBlock, Exit.then]); refine bodyPost_ret (results_none rfl _ _ _) rfl ?_
          exact ⟨rfl, dk, HP.out, HM.out, S1.out⟩
end Go.Proofs.Ytdfloglicjocbaa
