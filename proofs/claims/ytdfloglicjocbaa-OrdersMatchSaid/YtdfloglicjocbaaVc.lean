import Derived.Test.YtdfloglicjocbaaVb
import Derived.Deep.CutRange
set_option linter.unusedVariables false
set_option linter.unusedSimpArgs false
namespace Go.Proofs.Ytdfloglicjocbaa
open Go.Shelf Go.RowKit Go.Lib Go.Sort
variable {α : Type} [Inhabited α]

/-- behind the rotation. -/
structure Mid1 (lt' lt : α → α → Bool) (a st mid en b : Nat) (d : Array α) : Prop where
  hv : Halves lt' a st mid en b d
  agL : ∀ i j, a ≤ i → i < st → st ≤ j → j < mid → lt' d[j]! d[i]! = lt d[j]! d[i]!
  agR : ∀ i j, mid ≤ i → i < en → en ≤ j → j < b → lt' d[j]! d[i]! = lt d[j]! d[i]!
theorem mid1_of {lt' lt : α → α → Bool} (hS : SWO lt') (a m b st mid en : Nat) (d d1 : Array α) (h1 : a ≤ st) (h2 : st ≤ m) (h3 : m ≤ en) (h4 : en ≤ b) (h5 : st + en = mid + m) (h6 : st ≤ mid) (hA : SortedIn lt' a m d) (hB : SortedIn lt' m b d) (hr : Rot st m en d d1)
    (e1 : a < st → en < b → lt' d[en]! d[st - 1]! = false) (e2 : st < m → m < en → lt' d[en - 1]! d[st]! = true) (hag : ∀ i j, a ≤ i → i < m → m ≤ j → j < b → lt' d[j]! d[i]! = lt d[j]! d[i]!) : Mid1 lt' lt a st mid en b d1 := by
  have hv := halves hS a m b st mid en d d1 h1 h2 h3 h4 h5 hA hB hr e1 e2
  obtain ⟨r1, r2, r3, r4⟩ := hr
  refine ⟨hv, fun i j h1 h2 h3 h4 => ?_, fun i j h1 h2 h3 h4 => ?_⟩
  · rw [r2 i (by omega), r3 j (by omega) (by omega)]; exact hag _ _ (by omega) (by omega) (by omega) (by omega)
  · rw [r2 j (by omega), r4 i (by omega) (by omega)]; exact hag _ _ (by omega) (by omega) (by omega) (by omega)
theorem mid1_left {lt' lt : α → α → Bool} {a st mid en b : Nat} {d : Array α} (h : Mid1 lt' lt a st mid en b d) (h1 : a ≤ st) (h2 : st ≤ mid) (hn : ¬ (a < st ∧ st < mid)) : SortedIn lt' a mid d := by
  by_cases e : st = a
  · rw [← e]; exact h.hv.sB
  · rw [show mid = st by omega]; exact h.hv.sA
structure Mid2 (lt' lt : α → α → Bool) (a mid en b : Nat) (d1 d : Array α) : Prop where
  pm : PermIn a mid d1 d
  sL : SortedIn lt' a mid d
  sC : SortedIn lt' mid en d
  sD : SortedIn lt' en b d
  agR : ∀ i j, mid ≤ i → i < en → en ≤ j → j < b → lt' d[j]! d[i]! = lt d[j]! d[i]!
theorem mid2_of {lt' lt : α → α → Bool} {a st mid en b : Nat} {d1 d2 : Array α} (h : Mid1 lt' lt a st mid en b d1) (h3 : mid ≤ en) (hp : PermIn a mid d1 d2) (hs : SortedIn lt' a mid d2) : Mid2 lt' lt a mid en b d1 d2 := by
  refine ⟨hp, hs, fun i j h1 h2 h3 => ?_, fun i j h1 h2 h3 => ?_, fun i j h1 h2 h3 h4 => ?_⟩
  · rw [hp.2.1 i (Or.inr (by omega)), hp.2.1 j (Or.inr (by omega))]; exact h.hv.sC i j h1 h2 h3
  · rw [hp.2.1 i (Or.inr (by omega)), hp.2.1 j (Or.inr (by omega))]; exact h.hv.sD i j h1 h2 h3
  · rw [hp.2.1 i (Or.inr (by omega)), hp.2.1 j (Or.inr (by omega))]; exact h.agR i j h1 h2 h3 h4
theorem mid2_right {lt' lt : α → α → Bool} {a mid en b : Nat} {d1 d : Array α} (h : Mid2 lt' lt a mid en b d1 d) (h1 : mid ≤ en) (h2 : en ≤ b) (hn : ¬ (mid < en ∧ en < b)) : SortedIn lt' mid b d := by
  by_cases e : en = mid
  · rw [← e]; exact h.sD
  · rw [show b = en by omega]; exact h.sC
theorem mid_end {lt' lt : α → α → Bool} {a st mid en b : Nat} {d d1 d2 d3 : Array α} (ham : a ≤ mid) (hmb : mid ≤ b) (hb : b ≤ d.size) (h1 : Mid1 lt' lt a st mid en b d1) (h2 : Mid2 lt' lt a mid en b d1 d2) (p1 : PermIn a b d d1) (p3 : PermIn mid b d2 d3) (s3 : SortedIn lt' mid b d3) : PermIn a b d d3 ∧ SortedIn lt' a b d3 := by
  have e1 : d1.size = d.size := p1.1
  have e2 : d2.size = d1.size := h2.pm.1
  refine ⟨permIn_trans _ _ _ _ _ (permIn_trans _ _ _ _ _ p1 (permIn_mono _ _ a mid a b (Nat.le_refl _) hmb (by omega) h2.pm)) (permIn_mono _ _ mid b a b ham (Nat.le_refl _) (by omega) p3), ?_⟩
  exact halves_end a mid b d1 d2 d3 ham hmb (by omega) h1.hv.cross h2.pm h2.sL p3 s3

def SymPost (enc : α → Value) (lt' : α → α → Bool) (w0 : World) (blk off a b : Nat) (d : Array α) (e : Ending) (w' : World) : Prop :=
  e = .returned (.tuple #[]) ∧ ∃ d', PermIn a b d d' ∧ SortedIn lt' a b d' ∧ SW enc w0 blk off d' w'

set_option maxHeartbeats 4000000 in
set_option maxRecDepth 1000000 in
theorem symRec (enc : α → Value) (cf : α → α → Int) (lt' : α → α → Bool) (hS : SWO lt') (g : Nat) (cb : Array Value) (blk off cap : Nat) (d0 : Array α) (w0 : World)
    (eg : ∀ args w, (callFunc g args).run Try.prog w = .ok (.enter g args) w) (hcmp : CmpLays1 Try.prog g cb enc cf blk off d0.size w0) (R : Row1 enc w0 blk off d0) (N : Nat)
    (ih : ∀ (a m b : Nat) (d : Array α) (w : World), b - a < N → d0.size = d.size → SW enc w0 blk off d w → a < m → m < b → b ≤ d.size → d.size < 4611686018427387904 → SortedIn lt' a m d → SortedIn lt' m b d →
      (∀ i j, a ≤ i → i < m → m ≤ j → j < b → lt' d[j]! d[i]! = ltOf cf d[j]! d[i]!) →
      Calls Try.prog 101 #[.slice (some ⟨blk, off, none⟩) d.size cap, .int .i64 a, .int .i64 m, .int .i64 b, .func (.func g) #[] cb] w (SymPost enc lt' w0 blk off a b d))
    (a m b : Nat) (d : Array α) (w : World) (hN : b - a < N + 1) (hs : d0.size = d.size) (S : SW enc w0 blk off d w) (ham : a + 1 < m) (hmb : m + 1 < b) (hb : b ≤ d.size) (hsz : d.size < 4611686018427387904) (hA : SortedIn lt' a m d) (hB : SortedIn lt' m b d)
    (hag : ∀ i j, a ≤ i → i < m → m ≤ j → j < b → lt' d[j]! d[i]! = ltOf cf d[j]! d[i]!) :
    Calls Try.prog 101 #[.slice (some ⟨blk, off, none⟩) d.size cap, .int .i64 a, .int .i64 m, .int .i64 b, .func (.func g) #[] cb] w (SymPost enc lt' w0 blk off a b d) := by
  have mixed := Try.laysSlF20_f100.mixed
  have hcl0 := R.hO.cells
  simp only [Value.cells] at hcl0
  have hst := R.hO.store Try.prog
  have HC : Aside _ := hcmp
  have S0 : Aside (SW enc w0 blk off d w) := S
  have HA := Lib.hid hA
  have HB := Lib.hid hB
  have HG := Lib.hid hag
  have IH := Lib.hid ih
  clear S hcmp hA hB hag ih
  have hne1 : ((m : Int) - (a : Int) == 1) = false := by simp; omega
  have hne2 : ((b : Int) - (m : Int) == 1) = false := by simp; omega
  obtain ⟨mid, hmid⟩ : ∃ mid : Nat, mid = (a + b) / 2 := ⟨_, rfl⟩
  have hz : ((a : Int) + (b : Int)) / 2 = (mid : Int) := by omega
  have hmid1 : a + 2 ≤ mid := by omega
  have hmid2 : mid + 2 ≤ b := by omega
  have hmid3 : 2 * mid ≤ a + b := by omega
  have hmid4 : a + b ≤ 2 * mid + 1 := by omega
  clear hmid
  go_enter Try.func101, Try.ntmps101
  go_upto_if 140 with fail
  go_cut [20, 21] from 138 to 146 (fun s20 s21 wc => ∃ (st r : Nat), s20 = .int .i64 st ∧ s21 = .int .i64 r ∧ a ≤ st ∧ st ≤ r ∧ r ≤ m ∧ r ≤ mid ∧ mid + m ≤ st + b ∧ Hid (st = a ∨ st + b = mid + m) ∧ Hid (r = m ∨ r = mid) ∧ Aside (SW enc w0 blk off d wc))
  case first =>
    by_cases hc : mid < m
    · have hcz : (mid : Int) < (m : Int) := by omega
      go_wp2_with fail
      go_meet
      case rel => exact ⟨mid + m - b, mid, by congr 1; omega, rfl, by omega, by omega, by omega, by omega, by omega, Or.inr (by omega), Or.inr rfl, S0⟩
    · have hcz : ¬ (mid : Int) < (m : Int) := by omega
      go_wp2_with fail
      go_meet
      case rel => exact ⟨a, m, rfl, rfl, by omega, by omega, by omega, by omega, by omega, Or.inl rfl, Or.inl rfl, S0⟩
  case rest =>
    clear S0
    obtain ⟨st0, r0, rfl, rfl, k1, k2, k3, k4, k5, K1, K2, S0⟩ := hcut
    go_wp2_with fail
    go_loopg [20, 21] (r0 - st0) (fun kx s20 s21 wr => ∃ (st r : Nat), s20 = .int .i64 st ∧ s21 = .int .i64 r ∧ st0 ≤ st ∧ st ≤ r ∧ r ≤ r0 ∧ r - st ≤ kx ∧ Aside (SW enc w0 blk off d wr) ∧ Hid (st = st0 ∨ lt' d[mid + m - st]! d[st - 1]! = false) ∧ Hid (r = r0 ∨ lt' d[mid + m - 1 - r]! d[r]! = true))
    case atStart => exact ⟨st0, r0, rfl, rfl, by omega, by omega, by omega, by omega, S0, Or.inl rfl, Or.inl rfl⟩
    case round =>
      clear S0
      obtain ⟨st, r, rfl, rfl, j1, j2, j3, hkx, S1, HI, HR⟩ := hrel
      by_cases hlt : st < r
      · have hltz : (st : Int) < (r : Int) := by omega
        obtain ⟨h, hh⟩ : ∃ h : Nat, h = (st + r) / 2 := ⟨_, rfl⟩
        have hz2 : ((st : Int) + (r : Int)) / 2 = (h : Int) := by omega
        have hb1 : st ≤ h := by omega
        have hb2 : h < r := by omega
        clear hh
        obtain ⟨q, hq⟩ : ∃ q : Nat, q = mid + m - 1 - h := ⟨_, rfl⟩
        have hqz : (mid : Int) + (m : Int) - 1 - (h : Int) = (q : Int) := by omega
        have hq1 : m ≤ q := by omega
        have hq2 : q < b := by omega
        have HQ := Lib.hid hq
        clear hq
        obtain ⟨iN, hiN⟩ : ∃ vq, vq = q := ⟨_, rfl⟩
        obtain ⟨jN, hjN⟩ : ∃ vq, vq = h := ⟨_, rfl⟩
        have ea : ((q : Int)).toNat = iN := by omega
        have pa : (0 : Int) ≤ (q : Int) := by omega
        have ba : (q : Int) < (d.size : Int) := by omega
        have ra : IntKind.i64.wrap ((q : Int)) = (q : Int) := by rw [IntKind.wrap_i64]; omega
        have ec : ((h : Int)).toNat = jN := by omega
        have pc : (0 : Int) ≤ (h : Int) := by omega
        have bc : (h : Int) < (d.size : Int) := by omega
        have rc : IntKind.i64.wrap ((h : Int)) = (h : Int) := by rw [IntKind.wrap_i64]; omega
        obtain ⟨x, hx⟩ : ∃ x, x = d[q]! := ⟨_, rfl⟩
        obtain ⟨y, hy⟩ : ∃ x, x = d[h]! := ⟨_, rfl⟩
        have la := S1.out.cl R (by omega) (q) (by omega)
        have lb := S1.out.cl R (by omega) (h) (by omega)
        rw [← hx, ← hiN] at la
        rw [← hy, ← hjN] at lb
        have hc := S1.out.cmp HC.out (by omega) x y
        by_cases hv : cf x y < 0
        · have hd : decide (cf x y < 0) = true := decide_eq_true hv
          have HR2 := Lib.hid (show h = r0 ∨ lt' d[mid + m - 1 - h]! d[h]! = true from Or.inr (by rw [← HQ.out, HG.out h q (by omega) (by omega) (by omega) (by omega), ← hx, ← hy]; exact ltOf_yes hv))
          clear hx hy hiN hjN
          go_wp2_with fail
          go_quiet_grown (first | (go_at_fn g; refine Calls.grown_of (hc _ _)))
          have S2 : Aside (SW enc w0 blk off d (grow (wr.drewN nq) osq)) := S1.out.grown nq osq
          clear la lb hc S1
          generalize grow (wr.drewN nq) osq = w2 at S2 ⊢
          clear nq osq ea ec
          go_wp2
          go_roundg (h - st)
          case measure => omega
          case rel => exact ⟨st, h, rfl, rfl, by omega, by omega, by omega, by omega, S2, HI, HR2⟩
        · have hd : decide (cf x y < 0) = false := decide_eq_false hv
          have HI2 := Lib.hid (show h + 1 = st0 ∨ lt' d[mid + m - (h + 1)]! d[h + 1 - 1]! = false from Or.inr (by rw [show mid + m - (h + 1) = q by rw [HQ.out]; omega, show h + 1 - 1 = h by omega, HG.out h q (by omega) (by omega) (by omega) (by omega), ← hx, ← hy]; exact ltOf_no hv))
          clear hx hy hiN hjN
          go_wp2_with fail
          go_quiet_grown (first | (go_at_fn g; refine Calls.grown_of (hc _ _)))
          have S2 : Aside (SW enc w0 blk off d (grow (wr.drewN nq) osq)) := S1.out.grown nq osq
          clear la lb hc S1
          generalize grow (wr.drewN nq) osq = w2 at S2 ⊢
          clear nq osq ea ec
          go_wp2
          go_roundg (r - (h + 1))
          case measure => omega
          case rel => exact ⟨h + 1, r, by go_num, rfl, by omega, by omega, by omega, by omega, S2, HI2, HR⟩
      · obtain rfl : st = r := by omega
        have hltz : ¬ (st : Int) < (st : Int) := by omega
        obtain ⟨en, hen⟩ : ∃ en : Nat, en = mid + m - st := ⟨_, rfl⟩
        have henz : (mid : Int) + (m : Int) - (st : Int) = (en : Int) := by omega
        have q1 : st + en = mid + m := by omega
        have q2 : m ≤ en := by omega
        have q3 : en ≤ b := by omega
        have q4 : mid ≤ en := by omega
        have E1 := Lib.hid (show a < st → en < b → lt' d[en]! d[st - 1]! = false from fun g1 g2 => by
          rcases HI.out with e | e
          · rcases K1.out with e' | e'
            · omega
            · omega
          · rw [hen]; exact e)
        have E2 := Lib.hid (show st < m → m < en → lt' d[en - 1]! d[st]! = true from fun g1 g2 => by
          rcases HR.out with e | e
          · rcases K2.out with e' | e'
            · omega
            · omega
          · rw [show en - 1 = mid + m - 1 - st by omega]; exact e)
        clear hen HI HR K1 K2
        obtain ⟨t1, ht⟩ : ∃ t : Bool, t = decide (st < m ∧ m < en) := ⟨_, rfl⟩
        have HT1 := Lib.hid ht
        clear ht
        go_upto_region 39 with fail
        go_cut [185] from 178 to 185 (fun s185 wc => s185 = .bool t1 ∧ Aside (SW enc w0 blk off d wc))
        case first =>
          by_cases g1 : st < m
          · have g1z : (st : Int) < (m : Int) := by omega
            have g1d : decide (st < m) = true := decide_eq_true g1
            by_cases g2 : m < en
            · have g2z : (m : Int) < (en : Int) := by omega
              have g2d : decide (m < en) = true := decide_eq_true g2
              obtain rfl : t1 = true := by rw [HT1.out]; simp [g1, g2]
              go_wp2_with fail
              go_meet
              case rel => exact ⟨rfl, S1⟩
            · have g2z : ¬ (m : Int) < (en : Int) := by omega
              have g2d : decide (m < en) = false := decide_eq_false g2
              obtain rfl : t1 = false := by rw [HT1.out]; simp [g2]
              go_wp2_with fail
              go_meet
              case rel => exact ⟨rfl, S1⟩
          · have g1z : ¬ (st : Int) < (m : Int) := by omega
            have g1d : decide (st < m) = false := decide_eq_false g1
            obtain rfl : t1 = false := by rw [HT1.out]; simp [g1]
            go_wp2_with fail
            go_meet
            case rel => exact ⟨rfl, S1⟩
        case rest =>
          clear S1
          obtain ⟨rfl, S1⟩ := hcut
          go_upto_if 185 with fail
          go_cut [24] from 186 to 191 (fun s24 wc => ∃ d1 : Array α, s24 = .int .i64 en ∧ d1.size = d.size ∧ Hid (Mid1 lt' (ltOf cf) a st mid en b d1) ∧ Hid (PermIn a b d d1) ∧ Aside (SW enc w0 blk off d1 wc))
          case first =>
            cases t1
            · have hn : ¬ (st < m ∧ m < en) := of_decide_eq_false HT1.out.symm
              have HM := Lib.hid (mid1_of (lt := ltOf cf) hS a m b st mid en d d (by omega) (by omega) q2 q3 q1 (by omega) HA.out HB.out (by
                by_cases e : st = m
                · rw [e]; exact rot_nil2 m en d (by omega)
                · rw [show en = m by omega]; exact rot_nil st m d (by omega)) E1.out E2.out HG.out)
              go_wp2_with fail
              go_meet
              case rel => exact ⟨d, rfl, rfl, HM, permIn_refl _ _ _, S1⟩
            · obtain ⟨g1, g2⟩ : st < m ∧ m < en := of_decide_eq_true HT1.out.symm
              have hc := rotate108 enc (.func (.func g) #[] cb) blk off cap st m en d0 d w0 wc R hs S1.out g1 g2 (by omega) hsz
              clear S1
              go_wp2_with (go_at_call 108; refine hc.mono ?_; rintro e w2 ⟨rfl, d1, hrot, hp1, S2⟩)
              have HM := mid1_of (lt := ltOf cf) hS a m b st mid en d d1 (by omega) (by omega) q2 q3 q1 (by omega) HA.out HB.out hrot E1.out E2.out HG.out
              have HP := permIn_mono d d1 st en a b (by omega) q3 (by omega) hp1
              go_meet
              case rel => exact ⟨d1, rfl, hp1.1, HM, HP, S2⟩
          case rest =>
            clear S1 E1 E2
            obtain ⟨d1, rfl, hd1, HM, HP, S1⟩ := hcut
            have hst1 : a ≤ st := by omega
            have hst2 : st ≤ mid := by omega
            obtain ⟨t2, ht⟩ : ∃ t : Bool, t = decide (a < st ∧ st < mid) := ⟨_, rfl⟩
            have HT2 := Lib.hid ht
            clear ht
            go_upto_region 41 with fail
            go_cut [199] from 192 to 199 (fun s199 wc => s199 = .bool t2 ∧ Aside (SW enc w0 blk off d1 wc))
            case first =>
              by_cases g1 : a < st
              · have g1z : (a : Int) < (st : Int) := by omega
                have g1d : decide (a < st) = true := decide_eq_true g1
                by_cases g2 : st < mid
                · have g2z : (st : Int) < (mid : Int) := by omega
                  have g2d : decide (st < mid) = true := decide_eq_true g2
                  obtain rfl : t2 = true := by rw [HT2.out]; simp [g1, g2]
                  go_wp2_with fail
                  go_meet
                  case rel => exact ⟨rfl, S1⟩
                · have g2z : ¬ (st : Int) < (mid : Int) := by omega
                  have g2d : decide (st < mid) = false := decide_eq_false g2
                  obtain rfl : t2 = false := by rw [HT2.out]; simp [g2]
                  go_wp2_with fail
                  go_meet
                  case rel => exact ⟨rfl, S1⟩
              · have g1z : ¬ (a : Int) < (st : Int) := by omega
                have g1d : decide (a < st) = false := decide_eq_false g1
                obtain rfl : t2 = false := by rw [HT2.out]; simp [g1]
                go_wp2_with fail
                go_meet
                case rel => exact ⟨rfl, S1⟩
            case rest =>
              clear S1
              obtain ⟨rfl, S1⟩ := hcut
              go_upto_if 199 with fail
              go_cut [24] from 200 to 205 (fun s24 wc => ∃ d2 : Array α, s24 = .int .i64 en ∧ d2.size = d.size ∧ Hid (Mid2 lt' (ltOf cf) a mid en b d1 d2) ∧ Aside (SW enc w0 blk off d2 wc))
              case first =>
                cases t2
                · have hn : ¬ (a < st ∧ st < mid) := of_decide_eq_false HT2.out.symm
                  have HM2 := Lib.hid (mid2_of HM.out q4 (permIn_refl _ _ _) (mid1_left HM.out hst1 hst2 hn))
                  go_wp2_with fail
                  go_meet
                  case rel => exact ⟨d1, rfl, hd1, HM2, S1⟩
                · obtain ⟨g1, g2⟩ : a < st ∧ st < mid := of_decide_eq_true HT2.out.symm
                  have hc := IH.out a st mid d1 wc (by omega) (by omega) S1.out g1 g2 (by omega) (by omega) HM.out.hv.sA HM.out.hv.sB HM.out.agL
                  rw [hd1] at hc
                  clear S1
                  go_wp2_with (go_at_call 101; refine hc.mono ?_; rintro e w2 ⟨rfl, d2, hp2, hs2, S2⟩)
                  have HM2 := mid2_of HM.out q4 hp2 hs2
                  go_meet
                  case rel => exact ⟨d2, rfl, hp2.1.trans hd1, HM2, S2⟩
              case rest =>
                clear S1
                obtain ⟨d2, rfl, hd2, HM2, S1⟩ := hcut
                have HALL := Lib.hid (fun hn => mid2_right HM2.out (by omega) (by omega) hn)
                by_cases g1 : mid < en
                · have g1z : (mid : Int) < (en : Int) := by omega
                  have g1d : decide (mid < en) = true := decide_eq_true g1
                  by_cases g2 : en < b
                  · have g2z : (en : Int) < (b : Int) := by omega
                    have g2d : decide (en < b) = true := decide_eq_true g2
                    have hc := IH.out mid en b d2 _ (by omega) (by omega) S1.out g1 g2 (by omega) (by omega) HM2.out.sC HM2.out.sD HM2.out.agR
                    rw [hd2] at hc
                    clear S1
                    go_wp2_with (go_at_call 101; refine hc.mono ?_; rintro e w2 ⟨rfl, d3, hp3, hs3, S2⟩)
                    have HE := mid_end (by omega) (by omega) (by omega) HM.out HM2.out HP.out hp3 hs3
                    go_end0
                    exact ⟨rfl, d3, HE.1, HE.2, S2⟩
                  · have g2z : ¬ (en : Int) < (b : Int) := by omega
                    have g2d : decide (en < b) = false := decide_eq_false g2
                    have HE := Lib.hid (mid_end (by omega) (by omega) (by omega) HM.out HM2.out HP.out (permIn_refl _ _ _) (HALL.out (by omega)))
                    go_wp2_with fail
                    go_end0
                    exact ⟨rfl, d2, HE.out.1, HE.out.2, S1.out⟩
                · have g1z : ¬ (mid : Int) < (en : Int) := by omega
                  have g1d : decide (mid < en) = false := decide_eq_false g1
                  have HE := Lib.hid (mid_end (by omega) (by omega) (by omega) HM.out HM2.out HP.out (permIn_refl _ _ _) (HALL.out (by omega)))
                  go_wp2_with fail
                  go_end0
                  exact ⟨rfl, d2, HE.out.1, HE.out.2, S1.out⟩
end Go.Proofs.Ytdfloglicjocbaa
