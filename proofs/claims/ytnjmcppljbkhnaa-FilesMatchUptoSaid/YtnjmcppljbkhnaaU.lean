import Derived.Test.YtnjmcppljbkhnaaV
set_option linter.unusedVariables false
set_option linter.unusedSimpArgs false
namespace Go.Proofs.Ytnjmcppljbkhnaa
open Go.RowKit

theorem at8_left (a b : ByteArray) (i : Nat) (h : i < a.size) : at8 (a ++ b) i = at8 a i := by
  unfold at8
  rw [List.getD_eq_getElem?_getD, List.getD_eq_getElem?_getD]
  simp only [ByteArray.data_append, Array.toList_append]
  rw [List.getElem?_append_left (by simpa using h)]
theorem at8_right (a b : ByteArray) (i : Nat) (h : a.size ≤ i) : at8 (a ++ b) i = at8 b (i - a.size) := by
  unfold at8
  rw [List.getD_eq_getElem?_getD, List.getD_eq_getElem?_getD]
  simp only [ByteArray.data_append, Array.toList_append]
  rw [List.getElem?_append_right (by simpa using h)]
  simp
theorem lw_left (a b : ByteArray) (i : Nat) (h : i + 4 ≤ a.size) : lw (a ++ b) i = lw a i := by
  unfold lw
  rw [at8_left a b i (by omega), at8_left a b (i + 1) (by omega), at8_left a b (i + 2) (by omega), at8_left a b (i + 3) (by omega)]
theorem lw_right (a b : ByteArray) (i : Nat) (h : a.size ≤ i) : lw (a ++ b) i = lw b (i - a.size) := by
  unfold lw
  rw [at8_right a b i h, at8_right a b (i + 1) (by omega), at8_right a b (i + 2) (by omega), at8_right a b (i + 3) (by omega)]
  rw [show i + 1 - a.size = i - a.size + 1 by omega, show i + 2 - a.size = i - a.size + 2 by omega, show i + 3 - a.size = i - a.size + 3 by omega]
def expandB : ByteArray := ⟨#[101, 120, 112, 97, 110, 100, 32, 51, 50, 45, 98, 121, 116, 101, 32, 107]⟩
def headB (key nonce : ByteArray) (c : Nat) : ByteArray := expandB ++ key ++ litB c ++ nonce
theorem litB_size (c : Nat) : (litB c).size = 4 := strB_size _ _
theorem litB_lw (c : Nat) (hc : c < 4294967296) : lw (litB c) 0 = c := by
  have e : ∀ j, j < 4 → at8 (litB c) j = c / 256 ^ j % 256 := fun j hj => at8_strB 4 (bytesN c) j hj (Nat.mod_lt _ (by decide))
  unfold lw
  rw [e 0 (by omega), e (0 + 1) (by omega), e (0 + 2) (by omega), e (0 + 3) (by omega)]
  omega
theorem headB_size (key nonce : ByteArray) (c : Nat) (hk : key.size = 32) (hn : nonce.size = 12) : (headB key nonce c).size = 64 := by
  unfold headB
  rw [ByteArray.size_append, ByteArray.size_append, ByteArray.size_append, litB_size, hk, hn]
  rfl
theorem headB_lw (key nonce : ByteArray) (c i : Nat) (hk : key.size = 32) (hn : nonce.size = 12) (hc : c < 4294967296) (hi : i < 16) : lw (headB key nonce c) (4 * i) = start2 key nonce c 3 i := by
  have hE : expandB.size = 16 := rfl
  have s1 : (expandB ++ key).size = 48 := by rw [ByteArray.size_append, hk, hE]
  have s2 : (expandB ++ key ++ litB c).size = 52 := by rw [ByteArray.size_append, s1, litB_size]
  unfold headB start2
  by_cases h1 : i < 4
  · rw [if_pos h1, lw_left _ _ _ (by omega), lw_left _ _ _ (by omega), lw_left _ _ _ (by omega)]
    have : i = 0 ∨ i = 1 ∨ i = 2 ∨ i = 3 := by omega
    rcases this with rfl | rfl | rfl | rfl <;> decide +kernel
  · rw [if_neg h1]
    by_cases h2 : i < 12
    · rw [if_pos h2, lw_left _ _ _ (by omega), lw_left _ _ _ (by omega), lw_right _ _ _ (by omega), hE]
      congr 1
      omega
    · rw [if_neg h2]
      by_cases h3 : i = 12
      · rw [if_pos h3, lw_left _ _ _ (by omega), lw_right _ _ _ (by omega), s1, h3]
        exact litB_lw c hc
      · rw [if_neg h3, if_pos (by omega), lw_right _ _ _ (by omega), s2]
        congr 1
        omega
def hdW (H : ByteArray) (m : Nat) : Nat → Nat := fun i => if i < m then lw H (4 * i) else 0
theorem hdW_succ (H : ByteArray) (m : Nat) : upd (hdW H m) m (lw H (4 * m)) = hdW H (m + 1) := by
  funext i
  unfold upd hdW
  by_cases e : i = m
  · subst e; simp
  · by_cases e2 : i < m
    · simp [e, e2, show i < m + 1 by omega]
    · simp [e, e2, show ¬ i < m + 1 by omega]
def RB1 (w : World) (g : Nat) (f : Nat → Nat) (wr : World) : Prop := Below w.heap.size w wr ∧ w.heap.size ≤ g ∧ Blk wr g 121 (row32 f)
theorem RB1.store {w wr : World} {g : Nat} {f : Nat → Nat} (h : RB1 w g f wr) (n i v : Nat) : RB1 w g (upd f i v) ((wr.drewN n).setCell ⟨g, i, none⟩ (.int .u32 (v : Nat))) := by
  obtain ⟨h1, h2, h3⟩ := h
  refine ⟨(below_drewN h1 n).setCell h2 _, h2, ?_⟩
  rw [← row32_set]; exact Blk.set (w := wr.drewN n) h3 i _
def RB2 (w : World) (g gf : Nat) (S f : Nat → Nat) (wr : World) : Prop := Below w.heap.size w wr ∧ w.heap.size ≤ g ∧ g < gf ∧ gf < wr.heap.size ∧ Blk wr gf 121 (row32 S) ∧ Blk wr g 121 (row32 f)
theorem RB2.next {w wr w' : World} {g gf : Nat} {S f f' : Nat → Nat} (h : RB2 w g gf S f wr) (h1 : Blk w' g 121 (row32 f')) (h2 : wr.grownBy w' (some g)) : RB2 w g gf S f' w' := by
  obtain ⟨a, b, c, d, e, _⟩ := h
  exact ⟨only_below a h2 a.size b, b, c, Nat.lt_of_lt_of_le d h2.size, e.only h2 (by omega), h1⟩
theorem RB1.copy {w wr : World} {S : Nat → Nat} {old : Array Value} {g : Nat} (h : RB1 w g S wr) (hn : Blk (wr.alloc (.cells old 121)) wr.heap.size 121 old) : RB2 w g wr.heap.size S S ((wr.alloc (.cells old 121)).setRow wr.heap.size (row32 S)) := by
  obtain ⟨a, b, c⟩ := h
  have b2 : Below wr.heap.size wr ((wr.alloc (.cells old 121)).setRow wr.heap.size (row32 S)) := below_setRow ((Below.refl _ _).alloc (Nat.le_refl _) _) (Nat.le_refl _)
  exact ⟨below_step a (Nat.le_refl _) b2, b, c.lt, by simp, setRow_heap _ _ _ _ _ _ hn, c.below b2 c.lt⟩
theorem strB_join (n m : Nat) (f g : Nat → Nat) (h : ∀ j, j < m → g j = f (n + j)) : strB n f ++ strB m g = strB (n + m) f := by
  unfold strB
  apply ByteArray.ext
  apply Array.ext'
  simp only [ByteArray.data_append, Array.toList_append]
  rw [List.range_add, List.map_append, List.map_map]
  congr 1
  apply List.map_congr_left
  intro j hj
  simp only [Function.comp_apply]
  rw [h j (by simpa using hj)]

theorem RB2.below {w wr w' : World} {g gf : Nat} {S f : Nat → Nat} (h : RB2 w g gf S f wr) (b : Below wr.heap.size wr w') : RB2 w g gf S f w' := by
  obtain ⟨h1, h2, h3, h4, h5, h6⟩ := h
  exact ⟨below_step h1 (Nat.le_refl _) b, h2, h3, Nat.lt_of_lt_of_le h4 b.size, h5.below b h4, h6.below b (by omega)⟩
theorem rb_keep {w W w' : World} {g gf t : Nat} {S f : Nat → Nat} {x y : Value} (h : RB2 w g gf S f W ∧ W.cell? ⟨g, t, none⟩ = some x ∧ W.cell? ⟨gf, t, none⟩ = some y) (b : Below W.heap.size W w') : RB2 w g gf S f w' ∧ w'.cell? ⟨g, t, none⟩ = some x ∧ w'.cell? ⟨gf, t, none⟩ = some y := by
  have h4 := h.1.2.2.2.1
  have h3 := h.1.2.2.1
  exact ⟨h.1.below b, (b.cell (p := ⟨g, t, none⟩) (by show g < _; omega)).trans h.2.1, (b.cell (p := ⟨gf, t, none⟩) (by show gf < _; omega)).trans h.2.2⟩
def wB (F S : Nat → Nat) : Nat → Nat := fun j => addw (F (j / 4)) (S (j / 4)) / 256 ^ (j % 4) % 256
theorem wB_join (F S : Nat → Nat) (t : Nat) : strB (4 * t) (wB F S) ++ litB (addw (F t) (S t)) = strB (4 * (t + 1)) (wB F S) := by
  have h := strB_join (4 * t) 4 (wB F S) (bytesN (addw (F t) (S t))) (fun j hj => by
    unfold wB bytesN
    rw [show (4 * t + j) / 4 = t by omega, show (4 * t + j) % 4 = j by omega])
  exact h
theorem mixI (f : Nat → Nat) (a b c d : Nat) (A B C D : Int) (g : Nat) (w : World) (eA : A = a) (eB : B = b) (eC : C = c) (eD : D = d) (hf : W32 f) (ha : a < 16) (hb : b < 16) (hc : c < 16) (hd : d < 16) (h : Blk w g 121 (row32 f)) :
    Calls Try.prog 83 #[.int .i64 A, .int .i64 B, .int .i64 C, .int .i64 D, .pointer (some ⟨g, 0, none⟩)] w fun e w' => e = .returned (.tuple #[]) ∧ Blk w' g 121 (row32 (qr f a b c d)) ∧ w.grownBy w' (some g) := by
  subst eA eB eC eD; exact mix83 f a b c d g w hf ha hb hc hd h
set_option maxRecDepth 100000 in
set_option maxHeartbeats 4000000 in
theorem refBlock50 (key nonce : ByteArray) (c : Nat) (w : World) (hk : key.size = 32) (hn : nonce.size = 12) (hc : c < 4294967296) :
    Calls Try.prog 50 #[.string key, .string nonce, .int .u32 c] w fun e w' => e = .returned (.string (strB 64 (blockB key nonce c))) ∧ Below w.heap.size w w' := by
  have HS64 := Lib.hid (headB_size key nonce c hk hn)
  have HLW := Lib.hid (fun i hi => headB_lw key nonce c i hk hn hc hi)
  have hk1 : key.size ≤ 32 := by omega
  have hn1 : nonce.size ≤ 12 := by omega
  clear hk hn
  go_enter Try.func50, Try.ntmps50
  go_wp2_with fail
  refine (little81 c _ hc).mono ?_
  rintro e w1 ⟨rfl, b1⟩
  have hl : (litB c).size ≤ 4 := by rw [litB_size]; omega
  have HB1 := Lib.hid b1
  clear b1
  have HH := Lib.hid (show (⟨#[101, 120, 112, 97, 110, 100, 32, 51, 50, 45, 98, 121, 116, 101, 32, 107]⟩ : ByteArray) ++ key ++ litB c ++ nonce = headB key nonce c from rfl)
  generalize litB c = L at *
  go_wp2_with fail
  rw [HH.out]
  generalize headB key nonce c = Hd at *
  have HR0 := Lib.hid (show RB1 w w1.heap.size (hdW Hd 0) (w1.alloc (.cells (row32 fun _ => 0) 121)) from
    ⟨below_step HB1.out (Nat.le_refl _) ((Below.refl _ _).alloc (Nat.le_refl _) _), HB1.out.size, by
      have e : hdW Hd 0 = fun _ => 0 := by funext i; simp [hdW]
      rw [e]; exact Blk.new w1 121 _⟩)
  rw [zero16] at HR0
  generalize w1.heap.size = g at *
  generalize (w1.alloc _) = w2 at *
  clear HB1 HH hl
  have HZ := HS64.out
  have hH1 : Hd.size ≤ 64 := by omega
  clear HZ
  go_loopw [23] (fun iv wr => ∃ i : Nat, i ≤ 16 ∧ iv = .int .i64 i ∧ RB1 w g (hdW Hd i) wr) (fun iv _ => 16 - (intOf iv).toNat)
  case atStart => exact ⟨0, by omega, rfl, HR0.out⟩
  case round =>
    clear HR0
    obtain ⟨i, hi, rfl, hsb⟩ := hrel
    have HS := Lib.hid hsb
    clear hsb
    by_cases hlt : i < 16
    · have hd : decide ((i : Int) < 16) = true := decide_eq_true (by omega)
      have hz := HS.out.2.2.frozen i
      have hce := (HS.out.2.2.cell i).trans (row32_at _ i hlt)
      have HL4 := Lib.hid (show Calls Try.prog 82 #[.string Hd, .int .i64 (4 * (i : Int))] wr fun e w' => e = .returned (.int .u32 (lw Hd (4 * i) : Nat)) ∧ ∃ n, w' = wr.drewN n from by
        rw [show 4 * (i : Int) = ((4 * i : Nat) : Int) by omega]
        exact littleAt82 Hd (4 * i) wr (by have := HS64.out; omega) (by unfold maxLen; omega))
      go_wp2_with fail
      refine HL4.out.mono ?_
      rintro e w' ⟨rfl, n, rfl⟩
      go_wp2_with fail
      go_roundw
      case rel =>
        refine ⟨i + 1, by omega, by go_num, ?_⟩
        rw [← hdW_succ]
        exact HS.out.store n i (lw Hd (4 * i))
      case measure => simp [intOf]; omega
    · have hd : decide ((i : Int) < 16) = false := decide_eq_false (by omega)
      have HS2 := Lib.hid (show RB1 w g (start2 key nonce c 3) wr from by
        obtain rfl : i = 16 := by omega
        refine ⟨HS.out.1, HS.out.2.1, ?_⟩
        rw [← row32_congr (f := hdW Hd 16) fun j hj => by unfold hdW; rw [if_pos hj, HLW.out j hj]]
        exact HS.out.2.2)
      clear HS HLW
      have hnew := Blk.new wr 121 (row32 fun _ => 0)
      rw [zero16] at hnew
      have HN := Lib.hid hnew
      clear hnew
      have HW := Lib.hid (start2_w32 key nonce c 3 hc)
      generalize hS : start2 key nonce c 3 = S at *
      have HSS := Lib.hid hS
      clear hS
      go_wp2_with (first | (refine wpList_load_row rfl 121 _ rfl g rfl 121 (row32 S) (0, 0) _ HS2.out.2.2 Try.underlying121 rfl (info121 _) ?_) | (refine wpList_store_row rfl 121 _ _ rfl wr.heap.size (row32 S) rfl rfl 121 _ HN.out (info121 _) (by rw [row32_size]; rfl) (row32_all _) ?_))
      have HS3 := Lib.hid (HS2.out.copy HN.out)
      clear HS2 HN
      generalize wr.heap.size = gf at *
      generalize ((wr.alloc _).setRow gf (row32 S)) = w3 at *
      go_loopw [35] (fun i wr => ∃ m : Nat, m ≤ 10 ∧ i = .int .i64 m ∧ RB2 w g gf S (rounds20 S m) wr) (fun i _ => 10 - (intOf i).toNat)
      case atStart => exact ⟨0, by omega, rfl, HS3.out⟩
      case round =>
        clear HS3
        obtain ⟨m, hm, rfl, hsb⟩ := hrel
        have HS := Lib.hid hsb
        clear hsb
        by_cases hlm : m < 10
        · have hdm : decide ((m : Int) < 10) = true := decide_eq_true (by omega)
          have HWm := Lib.hid (HW.out.rounds20 m)
          generalize hF : rounds20 S m = F at *
          have HFF := Lib.hid hF
          clear hF
          obtain ⟨wo, hwo⟩ : ∃ wo : World, wo = wr := ⟨_, rfl⟩
          subst hwo
          go_wp2_with fail
          go_loopw [37] (fun i wr => ∃ q : Nat, q ≤ 4 ∧ i = .int .i64 q ∧ RB2 w g gf S (cols F q) wr) (fun i _ => 4 - (intOf i).toNat)
          case atStart => exact ⟨0, by omega, rfl, HS.out⟩
          case round =>
            clear HS
            obtain ⟨q, hq, rfl, hsb⟩ := hrel
            have HS := Lib.hid hsb
            clear hsb
            by_cases hlq : q < 4
            · have hdq : decide ((q : Int) < 4) = true := decide_eq_true (by omega)
              have Q := mixI (cols F q) q (4 + q) (8 + q) (12 + q) q (4 + q) (8 + q) (12 + q) g wr rfl (by omega) (by omega) (by omega) (HWm.out.cols q) (by omega) (by omega) (by omega) (by omega) HS.out.2.2.2.2.2
              have HQ := Lib.hid Q
              clear Q
              go_wp2_with fail
              refine HQ.out.mono ?_
              rintro e w' ⟨rfl, hb, ho⟩
              have HS' := Lib.hid (HS.out.next hb ho)
              clear hb ho HQ HS
              go_wp2
              go_roundw
              case rel => exact ⟨q + 1, by omega, by go_num, HS'.out⟩
              case measure => simp [intOf]; omega
            · have hdq : decide ((q : Int) < 4) = false := decide_eq_false (by omega)
              obtain ⟨wp, hwp⟩ : ∃ wp : World, wp = wr := ⟨_, rfl⟩
              subst hwp
              have HWd := Lib.hid (HWm.out.cols 4)
              have HSd := Lib.hid (show RB2 w g gf S (cols F 4) wp from by
                obtain rfl : q = 4 := by omega
                exact HS.out)
              clear HS
              generalize hG : cols F 4 = G at *
              have HG := Lib.hid hG
              clear hG
              go_wp2_with fail
              go_loopw [50] (fun i wr => ∃ r : Nat, r ≤ 4 ∧ i = .int .i64 r ∧ RB2 w g gf S (diags G r) wr) (fun i _ => 4 - (intOf i).toNat)
              case atStart => exact ⟨0, by omega, rfl, HSd.out⟩
              case round =>
                clear HSd
                obtain ⟨r, hr, rfl, hsb⟩ := hrel
                have HS := Lib.hid hsb
                clear hsb
                by_cases hlr : r < 4
                · have hdr : decide ((r : Int) < 4) = true := decide_eq_true (by omega)
                  have Q := mixI (diags G r) r (4 + (r + 1) % 4) (8 + (r + 2) % 4) (12 + (r + 3) % 4) r (4 + ((r : Int) + 1) % 4) (8 + ((r : Int) + 2) % 4) (12 + ((r : Int) + 3) % 4) g wr rfl (by omega) (by omega) (by omega) (HWd.out.diags r) (by omega) (by omega) (by omega) (by omega) HS.out.2.2.2.2.2
                  have HQ := Lib.hid Q
                  clear Q
                  go_wp2_with fail
                  refine HQ.out.mono ?_
                  rintro e w' ⟨rfl, hb, ho⟩
                  have HS' := Lib.hid (HS.out.next hb ho)
                  clear hb ho HQ HS
                  go_wp2
                  go_roundw
                  case rel => exact ⟨r + 1, by omega, by go_num, HS'.out⟩
                  case measure => simp [intOf]; omega
                · have hdr : decide ((r : Int) < 4) = false := decide_eq_false (by omega)
                  have HSe := Lib.hid (show RB2 w g gf S (rounds20 S (m + 1)) wr from by
                    obtain rfl : r = 4 := by omega
                    show RB2 w g gf S (diags (cols (rounds20 S m) 4) 4) wr
                    rw [HFF.out, HG.out]
                    exact HS.out)
                  clear HS
                  go_wp2_with fail
                  go_roundw
                  case rel => exact ⟨m + 1, by omega, by go_num, HSe.out⟩
                  case measure => simp [intOf]; omega
        · have hdm : decide ((m : Int) < 10) = false := decide_eq_false (by omega)
          have HT := Lib.hid (show RB2 w g gf S (rounds20 S 10) wr from by
            obtain rfl : m = 10 := by omega
            exact HS.out)
          clear HS
          have HF := Lib.hid (HW.out.rounds20 10)
          generalize hR : rounds20 S 10 = F at *
          have HR := Lib.hid hR
          clear hR
          obtain ⟨wo, hwo⟩ : ∃ wo : World, wo = wr := ⟨_, rfl⟩
          subst hwo
          go_wp2_with fail
          go_loopw [14, 70] (fun sv iv wr => ∃ t : Nat, t ≤ 16 ∧ iv = .int .i64 t ∧ sv = .string (strB (4 * t) (wB F S)) ∧ RB2 w g gf S F wr) (fun _ iv _ => 16 - (intOf iv).toNat)
          case atStart => exact ⟨0, by omega, rfl, rfl, HT.out⟩
          case round =>
            clear HT
            obtain ⟨t, ht, rfl, rfl, hsb⟩ := hrel
            have HS := Lib.hid hsb
            clear hsb
            by_cases hlt16 : t < 16
            · have hdt : decide ((t : Int) < 16) = true := decide_eq_true (by omega)
              have c1 := (HS.out.2.2.2.2.2.cell t).trans (row32_at _ t hlt16)
              have c2 := (HS.out.2.2.2.2.1.cell t).trans (row32_at _ t hlt16)
              have e1 := add_w (F t) (S t)
              have e2 := add_w' (F t) (S t)
              have hA := addw_lt (F t) (S t)
              have i16 : (t : Int) < 16 := by omega
              have j16 : (0 : Int) ≤ (t : Int) := by omega
              have HJ := Lib.hid (wB_join F S t)
              have hT : (strB (4 * t) (wB F S)).size ≤ 64 := by rw [strB_size]; omega
              have hL : (litB (addw (F t) (S t))).size ≤ 4 := by rw [litB_size]; omega
              generalize strB (4 * t) (wB F S) = T at *
              have HCL := Lib.hid (fun w => little81 (addw (F t) (S t)) w hA)
              generalize litB (addw (F t) (S t)) = L2 at *
              generalize addw (F t) (S t) = W at *
              go_wp2_with fail
              have HK := Lib.hid (show RB2 w g gf S F wr ∧ wr.cell? ⟨g, t, none⟩ = some (.int .u32 (F t : Nat)) ∧ wr.cell? ⟨gf, t, none⟩ = some (.int .u32 (S t : Nat)) from ⟨HS.out, c1, c2⟩)
              clear HS c1 c2
              have hTL : T.size + L2.size ≤ 9223372036854775807 := by omega
              have hTL2 : T.size + L2.size ≤ maxLen := by unfold maxLen; omega
              have hTL3 : ¬ maxLen < T.size + L2.size := by unfold maxLen; omega
              have hTL4 : ¬ 9223372036854775807 < T.size + L2.size := by omega
              go_region_held3 (fun w' => RB2 w g gf S F w' ∧ w'.cell? ⟨g, t, none⟩ = some (.int .u32 (F t : Nat)) ∧ w'.cell? ⟨gf, t, none⟩ = some (.int .u32 (S t : Nat))) (first | exact rb_keep (by assumption) hbb | exact rb_keep HK.out (below_drew (Below.refl _ _)) | assumption) ((go_at_call 81; refine (HCL.out _).mono ?_; rintro e w' ⟨rfl, hbb⟩))
              all_goals
                have HS' := Lib.hid (And.left (by assumption : RB2 w g gf S F _ ∧ _))
                go_wp2_with fail
                go_roundw
                case rel => exact ⟨t + 1, by omega, by go_num, by rw [← HJ.out], HS'.out⟩
                case measure => simp [intOf]; omega
            · have hdt : decide ((t : Int) < 16) = false := decide_eq_false (by omega)
              have HE := Lib.hid (show strB (4 * t) (wB F S) = strB 64 (blockB key nonce c) from by
                obtain rfl : t = 16 := by omega
                rw [← HR.out, ← HSS.out]
                rfl)
              generalize strB (4 * t) (wB F S) = T at *
              go_wp2_with fail
              go_ret
              exact ⟨by rw [← HE.out]; rfl, HS.out.1⟩
end Go.Proofs.Ytnjmcppljbkhnaa
