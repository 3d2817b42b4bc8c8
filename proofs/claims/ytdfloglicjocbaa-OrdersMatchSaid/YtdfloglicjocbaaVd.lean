import Derived.Test.YtdfloglicjocbaaVc
set_option linter.unusedVariables false
set_option linter.unusedSimpArgs false
namespace Go.Proofs.Ytdfloglicjocbaa
open Go.Shelf Go.RowKit Go.Lib Go.Sort
variable {α : Type} [Inhabited α]

theorem symMerge101 (enc : α → Value) (cf : α → α → Int) (lt' : α → α → Bool) (hS : SWO lt') (g : Nat) (cb : Array Value) (blk off cap : Nat) (d0 : Array α) (w0 : World)
    (eg : ∀ args w, (callFunc g args).run Try.prog w = .ok (.enter g args) w) (hcmp : CmpLays1 Try.prog g cb enc cf blk off d0.size w0) (R : Row1 enc w0 blk off d0) (N : Nat) :
    ∀ (a m b : Nat) (d : Array α) (w : World), b - a < N → d0.size = d.size → SW enc w0 blk off d w → a < m → m < b → b ≤ d.size → d.size < 4611686018427387904 → SortedIn lt' a m d → SortedIn lt' m b d →
      (∀ i j, a ≤ i → i < m → m ≤ j → j < b → lt' d[j]! d[i]! = ltOf cf d[j]! d[i]!) →
      Calls Try.prog 101 #[.slice (some ⟨blk, off, none⟩) d.size cap, .int .i64 a, .int .i64 m, .int .i64 b, .func (.func g) #[] cb] w (SymPost enc lt' w0 blk off a b d) := by
  induction N with
  | zero => intro a m b d w h; exact absurd h (Nat.not_lt_zero _)
  | succ N ih =>
    intro a m b d w hN hs S ham hmb hb hsz hA hB hag
    by_cases h1 : m = a + 1
    · subst h1
      have h := symOne enc cf lt' hS g cb blk off cap a b d0 d w0 w eg hcmp R hs S hmb hb hsz hB (fun j h1 h2 => hag a j (Nat.le_refl _) (by omega) h1 h2)
      rw [show ((a + 1 : Nat) : Int) = (a : Int) + 1 by omega]
      exact h
    · by_cases h2 : b = m + 1
      · subst h2
        have h := symLast enc cf lt' hS g cb blk off cap a m d0 d w0 w eg hcmp R hs S (by omega) hb hsz hA (fun i h1 h2 => hag i m h1 h2 (Nat.le_refl _) (by omega))
        rw [show ((m + 1 : Nat) : Int) = (m : Int) + 1 by omega]
        exact h
      · exact symRec enc cf lt' hS g cb blk off cap d0 w0 eg hcmp R N ih a m b d w hN hs S (by omega) (by omega) hb hsz hA hB hag

variable {idx : α → Nat}
def StabPost (enc : α → Value) (lt' : α → α → Bool) (w0 : World) (blk off : Nat) (d : Array α) (e : Ending) (w' : World) : Prop :=
  e = .returned (.tuple #[]) ∧ ∃ d', PermIn 0 d.size d d' ∧ SortedIn lt' 0 d.size d' ∧ SW enc w0 blk off d' w'

set_option maxHeartbeats 4000000 in
set_option maxRecDepth 1000000 in
theorem stable88 (enc : α → Value) (cf : α → α → Int) (hS : SWO (ltOf cf)) (idx : α → Nat) (g : Nat) (cb : Array Value) (blk off cap : Nat) (d : Array α) (w : World)
    (eg : ∀ args w, (callFunc g args).run Try.prog w = .ok (.enter g args) w) (hcmp : CmpLays1 Try.prog g cb enc cf blk off d.size w) (R : Row1 enc w blk off d) (hsz : d.size < 1000000) (hinc : ∀ i j, i < j → j < d.size → idx d[i]! < idx d[j]!) :
    Calls Try.prog 88 #[.slice (some ⟨blk, off, none⟩) d.size cap, .int .i64 d.size, .func (.func g) #[] cb] w (StabPost enc (lexL (ltOf cf) idx) w blk off d) := by
  have HC : Aside _ := hcmp
  have S0 : Aside (SW enc w blk off d w) := SW.start R.hH
  have HI := Lib.hid (ins1_start (lt' := lexL (ltOf cf) idx) d.size d hinc)
  have hS' := lex_swo (idx := idx) hS
  clear hcmp hinc
  generalize hn : d.size = n at *
  have HN := Lib.hid hn
  clear hn
  go_enter Try.func88, Try.ntmps88
  go_wp2_with fail
  go_loopg [7, 8] n (fun kx s7 s8 wr => ∃ (a : Nat) (dk : Array α), s7 = .int .i64 a ∧ s8 = .int .i64 ((a : Int) + 20) ∧ a ≤ n ∧ n - a ≤ kx ∧ Hid (dk.size = n) ∧ Aside (SW enc w blk off dk wr) ∧ Hid (Ins1 (lexL (ltOf cf) idx) idx n a dk) ∧ Hid (PermIn 0 n d dk))
  case atStart => exact ⟨0, d, rfl, by congr 1, by omega, by omega, HN, S0, HI, permIn_refl _ _ _⟩
  case round =>
    clear S0 HI
    obtain ⟨a, dk, rfl, rfl, han, hkx, HK, S1, HI, HP⟩ := hrel
    by_cases hlt : a + 20 ≤ n
    · have hltz : (a : Int) + 20 ≤ (n : Int) := by omega
      have hc := Try.insertionSortCmpFunc_s enc cf g cb blk off cap a (a + 20) d dk w wr eg (HN.out.symm ▸ HC.out) R (by rw [HN.out, HK.out]) S1.out (by omega) (by rw [HK.out]; omega) (by rw [HK.out]; omega)
      rw [HK.out, show ((a + 20 : Nat) : Int) = (a : Int) + 20 by omega] at hc
      have hio := insertion_lex (idx := idx) hS a (a + 20) dk (by omega) (by rw [HK.out]; omega) (fun p q h1 h2 h3 => HI.out.inc p q h2 (by omega) h1)
      have HI2 := Lib.hid (ins1_step n a (a + 20) dk _ HI.out hlt (by omega) (by omega) (Or.inl rfl) (by rw [HK.out]; exact Nat.le_refl _) hio.1 hio.2)
      have HP2 := Lib.hid (permIn_trans _ _ _ _ _ HP.out (permIn_mono _ _ a (a + 20) 0 n (Nat.zero_le _) hlt (by rw [HK.out]; exact Nat.le_refl _) hio.1))
      have HK2 := Lib.hid (hio.1.1.trans HK.out)
      clear S1 hio
      go_wp2_with (go_at_call 100; refine hc.mono ?_; rintro e w2 ⟨rfl, S2⟩)
      have S3 : Aside _ := S2
      clear S2 hc
      go_wp2_with fail
      go_roundg (n - (a + 20))
      case measure => omega
      case rel => exact ⟨a + 20, _, by congr 1, by congr 1, by omega, by omega, HK2, S3, HI2, HP2⟩
    · have hltz : ¬ (a : Int) + 20 ≤ (n : Int) := by omega
      have hc := Try.insertionSortCmpFunc_s enc cf g cb blk off cap a n d dk w wr eg (HN.out.symm ▸ HC.out) R (by rw [HN.out, HK.out]) S1.out han (by rw [HK.out]; exact Nat.le_refl _) (by rw [HK.out]; omega)
      rw [HK.out] at hc
      have hio := insertion_lex (idx := idx) hS a n dk han (by rw [HK.out]; exact Nat.le_refl _) (fun p q h1 h2 h3 => HI.out.inc p q h2 h3 h1)
      have HB := Lib.hid (ins1_end n (a + 20) _ (ins1_step n a n dk _ HI.out (Nat.le_refl _) han (by omega) (Or.inr rfl) (by rw [HK.out]; exact Nat.le_refl _) hio.1 hio.2) (by omega))
      have HP2 := Lib.hid (permIn_trans _ _ _ _ _ HP.out (permIn_mono _ _ a n 0 n (Nat.zero_le _) (Nat.le_refl _) (by rw [HK.out]; exact Nat.le_refl _) hio.1))
      have HK2 := Lib.hid (hio.1.1.trans HK.out)
      clear S1 hio HI HP HK
      go_wp2_with (go_at_call 100; refine hc.mono ?_; rintro e w2 ⟨rfl, S2⟩)
      have S3 : Aside _ := S2
      clear S2 hc
      generalize insertionSort (ltOf cf) dk a n = dn at *
      go_wp2_with fail
      go_loopg [6] n (fun kx s6 wr => ∃ (s : Nat) (dk : Array α), s6 = .int .i64 s ∧ 20 ≤ s ∧ s ≤ 2000000 ∧ n - s ≤ kx ∧ Hid (dk.size = n) ∧ Aside (SW enc w blk off dk wr) ∧ Hid (SBlk (lexL (ltOf cf) idx) idx s n dk) ∧ Hid (PermIn 0 n d dk))
      case atStart => exact ⟨20, dn, rfl, by omega, by omega, by omega, HK2, S3, HB, HP2⟩
      case round =>
        clear S3 HB HP2 HK2
        obtain ⟨s, dk, rfl, hs1, hs2, hkx2, HK, S1, HB, HP⟩ := hrel
        by_cases hsn : s < n
        · have hsz : (s : Int) < (n : Int) := by omega
          go_wp2_with fail
          go_loopg [7, 8] n (fun kx s7 s8 wr => ∃ (a : Nat) (dk : Array α), s7 = .int .i64 a ∧ s8 = .int .i64 ((a : Int) + 2 * (s : Int)) ∧ a ≤ n ∧ n - a ≤ kx ∧ Hid (dk.size = n) ∧ Aside (SW enc w blk off dk wr) ∧ Hid (Pass (lexL (ltOf cf) idx) idx s n a dk) ∧ Hid (PermIn 0 n d dk))
          case atStart => exact ⟨0, dk, rfl, by congr 1; omega, by omega, by omega, HK, S1, pass_start s n dk HB.out, HP⟩
          case round =>
            clear S1 HB HP HK
            obtain ⟨a, dk, rfl, rfl, han, hkx3, HK, S1, HB, HP⟩ := hrel
            by_cases hlt2 : a + 2 * s ≤ n
            · have hltz2 : (a : Int) + 2 * (s : Int) ≤ (n : Int) := by omega
              obtain ⟨pA, pB, pG⟩ := pass_pre s n a (a + 2 * s) dk (by omega) HB.out hlt2 (by omega) (Nat.le_refl _)
              have hc := symMerge101 enc cf (lexL (ltOf cf) idx) hS' g cb blk off cap d w eg (HN.out.symm ▸ HC.out) R (2 * s + 1) a (a + s) (a + 2 * s) dk wr (by omega) (by rw [HN.out, HK.out]) S1.out (by omega) (by omega) (by rw [HK.out]; exact hlt2) (by rw [HK.out]; omega) pA pB (fun i j h1 h2 h3 h4 => lex_eq _ _ (pG i j h1 h2 h3 h4))
              rw [HK.out, show ((a + s : Nat) : Int) = (a : Int) + (s : Int) by omega, show ((a + 2 * s : Nat) : Int) = (a : Int) + 2 * (s : Int) by omega] at hc
              clear S1 pA pB pG
              go_wp2_with (go_at_call 101; refine hc.mono ?_; rintro e w2 ⟨rfl, d', hp, hso, S2⟩)
              have HB2 := Lib.hid (pass_step s n a (a + 2 * s) dk d' (by omega) HB.out hlt2 (by omega) (Nat.le_refl _) (Or.inl rfl) (by rw [HK.out]; exact Nat.le_refl _) hp hso)
              have HP2 := Lib.hid (permIn_trans _ _ _ _ _ HP.out (permIn_mono _ _ a (a + 2 * s) 0 n (Nat.zero_le _) hlt2 (by rw [HK.out]; exact Nat.le_refl _) hp))
              have HK2 := Lib.hid (hp.1.trans HK.out)
              have S3 : Aside _ := S2
              clear S2 hc hp hso
              go_wp2_with fail
              go_roundg (n - (a + 2 * s))
              case measure => omega
              case rel => exact ⟨a + 2 * s, d', by congr 1 <;> omega, by congr 1 <;> omega, hlt2, by omega, HK2, S3, HB2, HP2⟩
            · have hltz2 : ¬ (a : Int) + 2 * (s : Int) ≤ (n : Int) := by omega
              by_cases hm : a + s < n
              · have hmz : (a : Int) + (s : Int) < (n : Int) := by omega
                obtain ⟨pA, pB, pG⟩ := pass_pre s n a n dk (by omega) HB.out (Nat.le_refl _) (by omega) (by omega)
                have hc := symMerge101 enc cf (lexL (ltOf cf) idx) hS' g cb blk off cap d w eg (HN.out.symm ▸ HC.out) R (n - a + 1) a (a + s) n dk wr (by omega) (by rw [HN.out, HK.out]) S1.out (by omega) hm (by rw [HK.out]; exact Nat.le_refl _) (by rw [HK.out]; omega) pA pB (fun i j h1 h2 h3 h4 => lex_eq _ _ (pG i j h1 h2 h3 h4))
                rw [HK.out, show ((a + s : Nat) : Int) = (a : Int) + (s : Int) by omega] at hc
                clear S1 pA pB pG
                go_wp2_with (go_at_call 101; refine hc.mono ?_; rintro e w2 ⟨rfl, d', hp, hso, S2⟩)
                have HB2 := Lib.hid (pass_end s n (a + 2 * s) d' (pass_step s n a n dk d' (by omega) HB.out (Nat.le_refl _) han (by omega) (Or.inr rfl) (by rw [HK.out]; exact Nat.le_refl _) hp hso) (by omega))
                have HP2 := Lib.hid (permIn_trans _ _ _ _ _ HP.out (permIn_mono _ _ a n 0 n (Nat.zero_le _) (Nat.le_refl _) (by rw [HK.out]; exact Nat.le_refl _) hp))
                have HK2 := Lib.hid (hp.1.trans HK.out)
                have S3 : Aside _ := S2
                clear S2 hc hp hso
                go_wp2_with fail
                go_roundg (n - 2 * s)
                case measure => omega
                case rel => exact ⟨2 * s, d', by congr 1; omega, by omega, by omega, by omega, HK2, S3, HB2, HP2⟩
              · have hmz : ¬ (a : Int) + (s : Int) < (n : Int) := by omega
                have HB2 := Lib.hid (pass_end s n (a + 2 * s) dk (pass_skip s n a dk (by omega) HB.out (by omega)) (by omega))
                go_wp2_with fail
                go_roundg (n - 2 * s)
                case measure => omega
                case rel => exact ⟨2 * s, dk, by congr 1; omega, by omega, by omega, by omega, HK, S1, HB2, HP⟩
        · have hsz : ¬ (s : Int) < (n : Int) := by omega
          have HE := Lib.hid (sblk_end s n dk HB.out (by omega))
          go_wp2_with fail
          go_end0
          exact ⟨rfl, dk, by rw [HN.out]; exact HP.out, by rw [HN.out]; exact HE.out, S1.out⟩

set_option maxHeartbeats 400000 in
theorem sortStable78 (enc : α → Value) (cf : α → α → Int) (hS : SWO (ltOf cf)) (idx : α → Nat) (g : Nat) (cb : Array Value) (blk off cap : Nat) (d : Array α) (w : World)
    (eg : ∀ args w, (callFunc g args).run Try.prog w = .ok (.enter g args) w) (hcmp : CmpLays1 Try.prog g cb enc cf blk off d.size w) (R : Row1 enc w blk off d) (hsz : d.size < 1000000) (hinc : ∀ i j, i < j → j < d.size → idx d[i]! < idx d[j]!) :
    Calls Try.prog 78 #[.slice (some ⟨blk, off, none⟩) d.size cap, .func (.func g) #[] cb] w (StabPost enc (lexL (ltOf cf) idx) w blk off d) := by
  have hc := stable88 enc cf hS idx g cb blk off cap d w eg hcmp R hsz hinc
  clear hcmp R hinc
  go_enter Try.func78, Try.ntmps78
  go_wp2_with (go_at_call 88; refine hc.mono ?_; rintro e w2 ⟨rfl, d', hp, hso, S2⟩)
  go_end0
  exact ⟨rfl, d', hp, hso, S2⟩
end Go.Proofs.Ytdfloglicjocbaa
