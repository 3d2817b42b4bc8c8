import Derived.Test.YtnjmcppljbkhnaaG
import Derived.Laws.Externs
import Derived.Deep.DeepCutAuto
set_option linter.unusedVariables false
set_option linter.unusedSimpArgs false
namespace Go.Proofs.Ytnjmcppljbkhnaa
open Go.RowKit

/-- four words of a text, the lowest first. -/
def sN (s : ByteArray) : Nat := lw s 0 + lw s 4 * 4294967296 + lw s 8 * 18446744073709551616 + lw s 12 * 79228162514264337593543950336
/-- the bytes of a number. -/
def bytesN (v : Nat) : Nat → Nat := fun i => v / 256 ^ i % 256
theorem add64_run (x y c : Nat) (hc : c ≤ 1) (w : World) :
    (callFunc 106 #[.int .u64 x, .int .u64 y, .int .u64 c]).run Try.prog w =
      .ok (.value (.tuple #[.int .u64 (((x + y + c) % 18446744073709551616 : Nat) : Int), .int .u64 (((x + y + c) / 18446744073709551616 : Nat) : Int)])) w := by
  rw [run_callFunc_extern Try.func106 (by kernel_rfl) (by kernel_rfl) (by kernel_rfl) (e := add64Entry) (by kernel_rfl), run_add64 x y c (by omega) (by omega) (by omega) (by omega)]
  simp only [Result.andThen]
  congr 5 <;> omega
theorem info86 (f : Nat → Nat) : (Try.prog.info? 86).map (·.size) = some (row8 16 f).size := by rw [row8_size]; kernel_rfl
theorem zero16b : row8 16 (fun _ => 0) = Array.replicate 16 (.int .u8 0) := by
  simp [row8, List.range, List.range.loop, Array.replicate]
def KS (w : World) (f : Nat → Nat) (wr : World) : Prop := Below w.heap.size w wr ∧ w.heap.size + 2 ≤ wr.heap.size ∧ Blk wr w.heap.size 128 (row64 f) ∧ Blk wr (w.heap.size + 1) 86 (row8 16 fun _ => 0)
theorem KS.below {w wr w' : World} {f : Nat → Nat} (h : KS w f wr) (b : Below wr.heap.size wr w') : KS w f w' := by
  obtain ⟨h1, h2, h3, h4⟩ := h
  have := b.size
  exact ⟨below_step h1 (Nat.le_refl _) b, by omega, h3.below b (by omega), h4.below b (by omega)⟩

theorem KS.setRow {w wr : World} {f : Nat → Nat} (h : KS w f wr) (f' : Nat → Nat) : KS w f' (wr.setRow w.heap.size (row64 f')) := by
  obtain ⟨h1, h2, h3, h4⟩ := h
  refine ⟨below_setRow h1 (Nat.le_refl _), ?_, setRow_heap _ _ _ _ _ _ h3, ?_⟩
  · simpa using h2
  · exact (setRow_other _ _ _ _ (by omega)).trans h4
theorem KS.drewN {w wr : World} {f : Nat → Nat} (h : KS w f wr) (n : Nat) : KS w f (wr.drewN n) := ⟨below_drewN h.1 n, h.2.1, h.2.2.1, h.2.2.2⟩
def KS2 (w : World) (g : Nat) (f f' : Nat → Nat) (wr : World) : Prop := KS w f wr ∧ w.heap.size + 2 ≤ g ∧ g < wr.heap.size ∧ Blk wr g 128 (row64 f')
theorem KS.copy {w wr : World} {f f' : Nat → Nat} {old : Array Value} {g : Nat} (h : KS w f wr) (hg : wr.heap.size = g) (hn : Blk (wr.alloc (.cells old 128)) g 128 old) : KS2 w g f f' ((wr.alloc (.cells old 128)).setRow g (row64 f')) := by
  subst hg
  have h2 := h.2.1
  refine ⟨?_, h2, by simp, setRow_heap _ _ _ _ _ _ hn⟩
  have hb : Below wr.heap.size wr ((wr.alloc (.cells old 128)).setRow wr.heap.size (row64 f')) := below_setRow ((Below.refl _ _).alloc (Nat.le_refl _) _) (Nat.le_refl _)
  exact h.below hb
theorem KS2.store {w wr : World} {f f' : Nat → Nat} {g : Nat} (h : KS2 w g f f' wr) (n i v : Nat) : KS2 w g f (upd f' i v) ((wr.drewN n).setCell ⟨g, i, none⟩ (.int .u64 (v : Nat))) := by
  obtain ⟨⟨h1, h2, h3, h4⟩, h5, h6, h7⟩ := h
  have ho := only_set (only_drewN (only_refl wr g) n) i (.int .u64 (v : Nat))
  refine ⟨⟨(below_drewN h1 n).setCell (by show w.heap.size ≤ g; omega) _, by simpa [World.setCell] using h2, h3.only ho (by omega), h4.only ho (by omega)⟩, h5, by simpa [World.setCell] using h6, ?_⟩
  rw [← row64_set]; exact Blk.set (w := wr.drewN n) h7 i _
theorem KS2.drew {w wr : World} {f f' : Nat → Nat} {g : Nat} (h : KS2 w g f f' wr) : KS2 w g f f' wr.drew := by
  obtain ⟨⟨h1, h2, h3, h4⟩, h5, h6, h7⟩ := h
  exact ⟨⟨⟨h1.os, h1.tape, h1.output, h1.size, h1.block⟩, h2, h3, h4⟩, h5, h6, h7⟩
theorem plus5_lt (f : Nat → Nat) (H : Tight f) (k j : Nat) (hk : k ≤ 4) (hj : j < 5) : plus5 f k j ≤ 67108869 := by
  obtain ⟨h0, h1, h2, h3, h4⟩ := H
  have hk' : k = 0 ∨ k = 1 ∨ k = 2 ∨ k = 3 ∨ k = 4 := by omega
  have hj' : j = 0 ∨ j = 1 ∨ j = 2 ∨ j = 3 ∨ j = 4 := by omega
  rcases hk' with rfl | rfl | rfl | rfl | rfl <;> rcases hj' with rfl | rfl | rfl | rfl | rfl <;> simp [plus5, upd] <;> omega
theorem and26 (x : Nat) (h : x < 18446744073709551616) : bits BinOp.and IntKind.u64 (x : Int) 67108863 = ((x % 67108864 : Nat) : Int) := low26 x h
theorem halves_lo (R : Nat → Nat) (H : Tight R) : bits BinOp.or IntKind.u64 (bits BinOp.or IntKind.u64 (R 0 : Int) (IntKind.u64.wrap ((R 1 : Int) * 67108864))) (IntKind.u64.wrap ((R 2 : Int) * 4503599627370496)) = ((val5 R % 18446744073709551616 : Nat) : Int) := by
  rw [wrap64, wrap64, ← (halves R H).1]
  obtain ⟨h0, h1, h2, h3, h4⟩ := H
  have e1 : (R 1 : Int) * 67108864 % 18446744073709551616 = ((R 1 * 67108864 % 18446744073709551616 : Nat) : Int) := by simp
  have e2 : (R 2 : Int) * 4503599627370496 % 18446744073709551616 = ((R 2 * 4503599627370496 % 18446744073709551616 : Nat) : Int) := by simp
  have l0 : R 0 < 18446744073709551616 := by omega
  have l1 : R 1 * 67108864 % 18446744073709551616 < 18446744073709551616 := Nat.mod_lt _ (by decide)
  have l2 : R 2 * 4503599627370496 % 18446744073709551616 < 18446744073709551616 := Nat.mod_lt _ (by decide)
  rw [e1, e2, u64_or_nat _ _ l0 l1, u64_or_nat _ _ (Nat.or_lt_two_pow (n := 64) l0 l1) l2]
theorem halves_hi (R : Nat → Nat) (H : Tight R) : bits BinOp.or IntKind.u64 (bits BinOp.or IntKind.u64 ((R 2 : Int) / 4096) (IntKind.u64.wrap ((R 3 : Int) * 16384))) (IntKind.u64.wrap ((R 4 : Int) * 1099511627776)) = ((val5 R / 18446744073709551616 % 18446744073709551616 : Nat) : Int) := by
  rw [wrap64, wrap64, ← (halves R H).2]
  obtain ⟨h0, h1, h2, h3, h4⟩ := H
  have e0 : (R 2 : Int) / 4096 = ((R 2 / 4096 : Nat) : Int) := by simp
  have e1 : (R 3 : Int) * 16384 % 18446744073709551616 = ((R 3 * 16384 % 18446744073709551616 : Nat) : Int) := by simp
  have e2 : (R 4 : Int) * 1099511627776 % 18446744073709551616 = ((R 4 * 1099511627776 % 18446744073709551616 : Nat) : Int) := by simp
  have l0 : R 2 / 4096 < 18446744073709551616 := by omega
  have l1 : R 3 * 16384 % 18446744073709551616 < 18446744073709551616 := Nat.mod_lt _ (by decide)
  have l2 : R 4 * 1099511627776 % 18446744073709551616 < 18446744073709551616 := Nat.mod_lt _ (by decide)
  rw [e0, e1, e2, u64_or_nat _ _ l0 l1, u64_or_nat _ _ (Nat.or_lt_two_pow (n := 64) l0 l1) l2]
theorem add64_run0 (x y : Nat) (w : World) :
    (callFunc 106 #[.int .u64 x, .int .u64 y, .int .u64 0]).run Try.prog w =
      .ok (.value (.tuple #[.int .u64 (((x + y) % 18446744073709551616 : Nat) : Int), .int .u64 (((x + y) / 18446744073709551616 : Nat) : Int)])) w := by
  have h := add64_run x y 0 (by omega) w
  rw [Nat.add_zero] at h
  exact h
theorem split128 (V : Nat) : V % 340282366920938463463374607431768211456 = V % 18446744073709551616 + (V / 18446744073709551616 % 18446744073709551616) * 18446744073709551616 := by
  rw [show (340282366920938463463374607431768211456 : Nat) = 18446744073709551616 * 18446744073709551616 by decide, Nat.mod_mul, Nat.mul_comm 18446744073709551616 (V / 18446744073709551616 % 18446744073709551616)]
theorem sN_two (add : ByteArray) : sN add = (lw add 0 + lw add 4 * 4294967296) + (lw add 8 + lw add 12 * 4294967296) * 18446744073709551616 := by unfold sN; omega
def outT (L H k : Nat) : Nat → Nat := fun j => if j < k then bytesN L j else if j < 8 then 0 else if j < 8 + k then bytesN H (j - 8) else 0
theorem outT_succ (L H k : Nat) (hk : k < 8) : row8 16 (upd (upd (outT L H k) k (bytesN L k)) (8 + k) (bytesN H k)) = row8 16 (outT L H (k + 1)) := by
  apply row8_congr
  intro i _
  unfold upd outT
  by_cases h1 : i = 8 + k
  · subst h1; rw [if_pos rfl, if_neg (by omega), if_neg (by omega), if_pos (by omega), show 8 + k - 8 = k by omega]
  · rw [if_neg h1]
    by_cases h2 : i = k
    · subst h2; rw [if_pos rfl, if_pos (by omega)]
    · rw [if_neg h2]
      have e1 : (i < k + 1) = (i < k) := propext ⟨fun h => by omega, fun h => by omega⟩
      have e2 : (i < 8 + (k + 1)) = (i < 8 + k) := propext ⟨fun h => by omega, fun h => by omega⟩
      simp only [e1, e2]
theorem bytesN_add (L H : Nat) (hL : L < 18446744073709551616) (j : Nat) (hj : j < 8) : bytesN (L + H * 18446744073709551616) j = bytesN L j := by
  have hj' : j = 0 ∨ j = 1 ∨ j = 2 ∨ j = 3 ∨ j = 4 ∨ j = 5 ∨ j = 6 ∨ j = 7 := by omega
  unfold bytesN
  rcases hj' with rfl | rfl | rfl | rfl | rfl | rfl | rfl | rfl <;> simp only [Nat.reducePow] <;> omega
theorem bytesN_hi (L H : Nat) (hL : L < 18446744073709551616) (j : Nat) : bytesN (L + H * 18446744073709551616) (8 + j) = bytesN H j := by
  unfold bytesN
  rw [Nat.pow_add, ← Nat.div_div_eq_div_mul, show (256 ^ 8 : Nat) = 18446744073709551616 by decide, Nat.add_mul_div_right _ _ (by decide), Nat.div_eq_of_lt hL, Nat.zero_add]
theorem outT_all (L H : Nat) (hL : L < 18446744073709551616) : row8 16 (outT L H 8) = row8 16 (bytesN (L + H * 18446744073709551616)) := by
  apply row8_congr
  intro i hi
  unfold outT
  by_cases h : i < 8
  · rw [if_pos h, bytesN_add L H hL i h]
  · rw [if_neg h, if_neg h, if_pos (by omega)]
    obtain ⟨j, rfl⟩ : ∃ j, i = 8 + j := ⟨i - 8, by omega⟩
    rw [bytesN_hi L H hL j, show 8 + j - 8 = j by omega]
theorem sum128 (V S lo hi X Y : Nat) (hV : V % 340282366920938463463374607431768211456 = lo + hi * 18446744073709551616) (hS : S = X + Y * 18446744073709551616) :
    (V + S) % 340282366920938463463374607431768211456 = (lo + X) % 18446744073709551616 + (hi + Y + (lo + X) / 18446744073709551616) % 18446744073709551616 * 18446744073709551616 := by
  rw [Nat.add_mod, hV, hS, Nat.add_mod_mod, split128]
  have e : lo + hi * 18446744073709551616 + (X + Y * 18446744073709551616) = (lo + X) + (hi + Y) * 18446744073709551616 := by omega
  rw [e, Nat.add_mul_mod_self_right, Nat.add_mul_div_right _ _ (by decide), Nat.add_comm ((lo + X) / 18446744073709551616)]
theorem below_drew {B : Nat} {a w : World} (h : Below B a w) : Below B a w.drew := ⟨h.os, h.tape, h.output, h.size, h.block⟩
theorem bytesN_int (L t : Nat) : ((bytesN L t : Nat) : Int) = (L : Int) / 2 ^ (8 * t) % 256 := by
  unfold bytesN
  rw [show (256 : Nat) ^ t = 2 ^ (8 * t) by rw [Nat.pow_mul]]
  simp
theorem two_words (x y : Nat) (hx : x < 4294967296) (hy : y < 4294967296) : bits BinOp.or IntKind.u64 (IntKind.u64.wrap (x : Int)) (IntKind.u64.wrap (IntKind.u64.wrap (y : Int) * 4294967296)) = ((x + y * 4294967296 : Nat) : Int) := by
  rw [wrap64, wrap64, wrap64]
  have e0 : (x : Int) % 18446744073709551616 = ((x : Nat) : Int) := by omega
  have e1 : (y : Int) % 18446744073709551616 * 4294967296 % 18446744073709551616 = ((y * 2 ^ 32 : Nat) : Int) := by omega
  rw [e0, e1, u64_or_nat _ _ (by omega) (by omega), or_add 32 _ _ (by omega)]
set_option maxRecDepth 100000 in
set_option maxHeartbeats 4000000 in
theorem closed89 (h : Nat → Nat) (add : ByteArray) (w : World) (H : Limbs h) (hw : W64 h) (hs : 16 ≤ add.size) (hm : add.size ≤ maxLen) :
    Calls Try.prog 89 #[.agg (row64 h), .string add] w fun e w' => e = .returned (.agg (row8 16 (bytesN ((val5 h % P130 + sN add) % 340282366920938463463374607431768211456)))) ∧ Below w.heap.size w w' := by
  have HW := Lib.hid hw
  clear hw
  have HH := Lib.hid H
  clear H
  have hst : KS w h ((w.alloc (.cells (row64 h) 128)).alloc (.cells (row8 16 fun _ => 0) 86)) := by
    refine ⟨((Below.refl _ _).alloc (Nat.le_refl _) _).alloc (by simp) _, by simp, ?_, ?_⟩
    · exact Blk.below (Blk.new w 128 _) ((Below.refl _ _).alloc (Nat.le_refl _) _) (by simp)
    · have := Blk.new (w.alloc (.cells (row64 h) 128)) 86 (row8 16 fun _ => 0)
      simpa using this
  rw [zero16b] at hst
  have HST := Lib.hid hst
  clear hst
  go_enter Try.func89, Try.ntmps89
  go_wp2_with (refine wpList_load_row rfl 128 _ rfl w.heap.size rfl 128 (row64 h) (0, 0) _ HST.out.2.2.1 Try.underlying128 rfl (info128 _) ?_)
  refine (carried105 h _ HW.out).mono ?_
  rintro e w1 ⟨rfl, b1⟩
  have HK1 := Lib.hid (HST.out.below b1)
  clear b1 HST
  have HW1 := Lib.hid (HW.out.car 5)
  go_wp2_with fail
  refine (carried105 (car h 5) _ HW1.out).mono ?_
  rintro e w2 ⟨rfl, b2⟩
  have HK2 := Lib.hid (HK1.out.below b2)
  clear b2 HK1
  obtain ⟨hT, hV⟩ := tight_of h HH.out
  have HV := Lib.hid hV
  have HT := Lib.hid hT
  clear hT hV HH HW1
  have HK3 := Lib.hid (HK2.out.setRow (car (car h 5) 5))
  generalize car (car h 5) 5 = f at *
  have hnew := Blk.new (w2.setRow w.heap.size (row64 f)) 128 (row64 fun _ => 0)
  have hsz : (w2.setRow w.heap.size (row64 f)).heap.size = w2.heap.size := by simp
  rw [row64_zero, hsz] at hnew
  have HN := Lib.hid hnew
  have HQ := Lib.hid (HK3.out.copy (f' := f) hsz hnew)
  clear hnew hsz
  have c0 := (HQ.out.2.2.2.cell 0).trans (row64_at _ 0 (by decide))
  have z0 := HQ.out.2.2.2.frozen 0
  have hf0 := HT.out.1
  have e0 : IntKind.u64.wrap ((f 0 : Int) + 5) = ((f 0 + 5 : Nat) : Int) := by rw [wrap64]; omega
  have e0' : ((f 0 : Int) + 5) % 18446744073709551616 = ((f 0 + 5 : Nat) : Int) := by omega
  go_wp2_with (first | (refine wpList_store_row rfl 128 _ _ rfl w.heap.size (row64 f) rfl rfl 128 _ HK2.out.2.2.1 (info128 _) (by rw [row64_size, row64_size]) (row64_all _) ?_) | (refine wpList_load_row rfl 128 _ rfl w.heap.size rfl 128 (row64 f) (0, 0) _ HK3.out.2.2.1 Try.underlying128 rfl (info128 _) ?_) | (refine wpList_store_row rfl 128 _ _ rfl w2.heap.size (row64 f) rfl rfl 128 _ HN.out (info128 _) (by rw [row64_size]; rfl) (row64_all _) ?_))
  have HQ1 := Lib.hid (show KS2 w w2.heap.size f (plus5 f 0) ((((w2.setRow w.heap.size (row64 f)).alloc (.cells #[.int .u64 0, .int .u64 0, .int .u64 0, .int .u64 0, .int .u64 0] 128)).setRow w2.heap.size (row64 f)).setCell ⟨w2.heap.size, 0, none⟩ (.int .u64 ((f 0 : Int) + 5))) from HQ.out.store 0 0 (f 0 + 5))
  clear c0 z0 e0 e0' hf0 HQ HN HK2 HK3
  generalize ((((w2.setRow w.heap.size (row64 f)).alloc (.cells #[.int .u64 0, .int .u64 0, .int .u64 0, .int .u64 0, .int .u64 0] 128)).setRow w2.heap.size (row64 f)).setCell ⟨w2.heap.size, 0, none⟩ (.int .u64 ((f 0 : Int) + 5))) = w3 at *
  generalize w2.heap.size = g at *
  go_loopw [22] (fun i wr => ∃ k : Nat, k ≤ 4 ∧ i = .int .i64 k ∧ KS2 w g f (plus5 f k) wr) (fun i _ => 4 - (intOf i).toNat)
  case atStart => exact ⟨0, by omega, rfl, HQ1.out⟩
  case round =>
    clear HQ1
    obtain ⟨k, hk4, rfl, hsb⟩ := hrel
    have HS := Lib.hid hsb
    clear hsb
    by_cases hlt : k < 4
    · have hdd : decide ((k : Int) < 4) = true := decide_eq_true (by omega)
      have HP := Lib.hid (show plus5 f (k + 1) = upd (upd (plus5 f k) (k + 1) (plus5 f k (k + 1) + plus5 f k k / 67108864)) k (plus5 f k k % 67108864) from rfl)
      have b1 := plus5_lt f HT.out k k hk4 (by omega)
      have b2 := plus5_lt f HT.out k (k + 1) hk4 (by omega)
      generalize plus5 f k = F at *
      have c0 := (HS.out.2.2.2.cell k).trans (row64_at _ k (by omega))
      have c1 := (HS.out.2.2.2.cell (k + 1)).trans (row64_at _ (k + 1) (by omega))
      have z1 := HS.out.2.2.2.frozen (k + 1)
      have HS1 := Lib.hid ((HS.out.store 0 (k + 1) (F (k + 1) + F k / 67108864)).drew)
      have c2 := (HS1.out.2.2.2.cell k).trans (row64_at _ k (by omega))
      have z2 := HS1.out.2.2.2.frozen k
      have e2 : upd F (k + 1) (F (k + 1) + F k / 67108864) k = F k := by simp [upd]
      rw [e2] at c2
      clear e2
      have ec : ((F (k + 1) + F k / 67108864 : Nat) : Int) = (F (k + 1) : Int) + (F k : Int) / 67108864 := by omega
      rw [ec] at c2 z2
      have c3 : (wr.setCell ⟨g, k + 1, none⟩ (.int .u64 ((F (k + 1) : Int) + (F k : Int) / 67108864))).cell? ⟨g, k, none⟩ = some (.int .u64 (F k : Nat)) := c2
      have z3 : (wr.setCell ⟨g, k + 1, none⟩ (.int .u64 ((F (k + 1) : Int) + (F k : Int) / 67108864))).frozen? ⟨g, k, none⟩ = false := z2
      have HE := Lib.hid ec
      clear ec c2 z2
      have e3 := and26 (F k) (by omega)
      have w1 : IntKind.i64.wrap ((k : Int) + 1) = (k : Int) + 1 := IntWalk.i64_in _ (by omega)
      have t1 : ((k : Int) + 1).toNat = k + 1 := by omega
      have p1 : 0 ≤ (k : Int) + 1 := by omega
      have q1 : (k : Int) + 1 < 5 := by omega
      have q0 : (k : Int) < 5 := by omega
      go_wp2_with fail
      go_still_tail 10, (by kernel_rfl)
      change wpList _ _ _ _ _ wr.drew
      go_wp2_with fail
      case roundEnd =>
        refine ⟨⟨k + 1, by omega, by go_num, ?_⟩, by simp [intOf]; omega⟩
        have h2 := (HS1.out.store 0 k (F k % 67108864))
        rw [HP.out]
        rw [HE.out, show ((F k % 67108864 : Nat) : Int) = (F k : Int) % 67108864 by omega] at h2
        exact h2
    · have hdd : decide ((k : Int) < 4) = false := decide_eq_false (by omega)
      have HS4 := Lib.hid (show KS2 w g f (plus5 f 4) wr from by
        obtain rfl : k = 4 := by omega
        exact HS.out)
      clear HS
      have c4 := (HS4.out.2.2.2.cell 4).trans (row64_at _ 4 (by omega))
      have z4 := HS4.out.2.2.2.frozen 4
      have b4 := plus5_lt f HT.out 4 4 (by omega) (by omega)
      go_upto_if 44 with (fail)
      go_cut [] (fun wx => KS w (reduce5 f) wx)
      case first =>
        have HRR := Lib.hid (show reduce5 f = if 0 < plus5 f 4 4 / 67108864 then upd (plus5 f 4) 4 (plus5 f 4 4 % 67108864) else f from rfl)
        generalize reduce5 f = R at *
        generalize plus5 f 4 = F at *
        have e4 := and26 (F 4) (by omega)
        by_cases hc : 0 < F 4 / 67108864
        · have hR := HRR.out
          rw [if_pos hc] at hR
          subst hR
          have hd : decide (0 < (F 4 : Int) / 67108864) = true := decide_eq_true (by omega)
          have HS5 := Lib.hid (HS4.out.store 0 4 (F 4 % 67108864))
          go_wp2_with (first | (refine wpList_load_row rfl 128 _ rfl g rfl 128 (row64 (upd F 4 (F 4 % 67108864))) (0, 0) _ HS5.out.2.2.2 Try.underlying128 rfl (info128 _) ?_) | (refine wpList_store_row rfl 128 _ _ rfl w.heap.size (row64 (upd F 4 (F 4 % 67108864))) rfl rfl 128 _ HS5.out.1.2.2.1 (info128 _) (by rw [row64_size, row64_size]) (row64_all _) ?_))
          go_meet
          exact HS5.out.1.setRow _
        · have hR := HRR.out
          rw [if_neg hc] at hR
          subst hR
          have hd : decide (0 < (F 4 : Int) / 67108864) = false := decide_eq_false (by omega)
          go_wp2_with fail
          go_meet
          exact HS4.out.1
      case rest =>
        clear c4 z4 b4 HS4
        obtain ⟨hT, hV⟩ := reduce5_val f HT.out
        have HV2 := Lib.hid (hV.trans HV.out)
        have HT2 := Lib.hid hT
        have HK := Lib.hid hcut
        clear hT hV HV HT hcut
        generalize reduce5 f = R at *
        have c0 := (HK.out.2.2.1.cell 0).trans (row64_at _ 0 (by omega))
        have c1 := (HK.out.2.2.1.cell 1).trans (row64_at _ 1 (by omega))
        have c2 := (HK.out.2.2.1.cell 2).trans (row64_at _ 2 (by omega))
        have c3 := (HK.out.2.2.1.cell 3).trans (row64_at _ 3 (by omega))
        have c4 := (HK.out.2.2.1.cell 4).trans (row64_at _ 4 (by omega))
        have hlo := halves_lo R HT2.out
        have hhi := halves_hi R HT2.out
        generalize hVV : val5 R = V at *
        have HVV := Lib.hid hVV
        clear hVV
        have l0 : V % 18446744073709551616 < 18446744073709551616 := Nat.mod_lt _ (by decide)
        have l1 : V / 18446744073709551616 % 18446744073709551616 < 18446744073709551616 := Nat.mod_lt _ (by decide)
        have HLH := Lib.hid (show V % 340282366920938463463374607431768211456 = V % 18446744073709551616 + (V / 18446744073709551616 % 18446744073709551616) * 18446744073709551616 from split128 V)
        generalize V % 18446744073709551616 = lo at *
        generalize V / 18446744073709551616 % 18446744073709551616 = hi at *
        go_wp2_with fail
        clear c0 c1 c2 c3 c4 hlo hhi
        have x4 : lw (add.extract 4 add.size) 0 = lw add 4 := lw_extract add 4 0 (by omega)
        have x8 : lw (add.extract 8 add.size) 0 = lw add 8 := lw_extract add 8 0 (by omega)
        have x12 : lw (add.extract 12 add.size) 0 = lw add 12 := lw_extract add 12 0 (by omega)
        have hX := two_words (lw add 0) (lw add 4) (lw_lt _ _) (lw_lt _ _)
        have hY := two_words (lw add 8) (lw add 12) (lw_lt _ _) (lw_lt _ _)
        have HSN := Lib.hid (show sN add = (lw add 0 + lw add 4 * 4294967296) + (lw add 8 + lw add 12 * 4294967296) * 18446744073709551616 from sN_two add)
        have lX : lw add 0 + lw add 4 * 4294967296 < 18446744073709551616 := by have := lw_lt add 0; have := lw_lt add 4; omega
        have lY : lw add 8 + lw add 12 * 4294967296 < 18446744073709551616 := by have := lw_lt add 8; have := lw_lt add 12; omega
        generalize lw add 0 + lw add 4 * 4294967296 = X at *
        generalize lw add 8 + lw add 12 * 4294967296 = Y at *
        go_quiet ((go_at_call 86; exact Calls.quiet_of (littleWord86 _ _ (by first | omega | (simp; omega)))))
        have HK1 := Lib.hid (show KS w R (wc.drewN nq) from HK.out.drewN nq)
        clear HK
        generalize wc.drewN nq = wd at *
        go_wp2_with fail
        go_quiet ((go_at_call 86; exact Calls.quiet_of (littleWord86 _ _ (by first | omega | (simp; omega)))))
        have HK2 := Lib.hid (show KS w R (wd.drewN nq) from HK1.out.drewN _)
        clear HK1 hX hY x4 x8 x12
        generalize wd.drewN nq = we at *
        have ha1 : ∀ w, (callFunc 106 #[.int .u64 (lo : Int), .int .u64 (X : Int), .int .u64 0]).run Try.prog w = .ok (.value (.tuple #[.int .u64 (((lo + X) % 18446744073709551616 : Nat) : Int), .int .u64 (((lo + X) / 18446744073709551616 : Nat) : Int)])) w := fun w => add64_run0 lo X w
        have ha2 : ∀ w, (callFunc 106 #[.int .u64 (hi : Int), .int .u64 (Y : Int), .int .u64 (((lo + X) / 18446744073709551616 : Nat) : Int)]).run Try.prog w = .ok (.value (.tuple #[.int .u64 (((hi + Y + (lo + X) / 18446744073709551616) % 18446744073709551616 : Nat) : Int), .int .u64 (((hi + Y + (lo + X) / 18446744073709551616) / 18446744073709551616 : Nat) : Int)])) w := fun w => add64_run hi Y _ (by omega) w
        generalize hL : (lo + X) % 18446744073709551616 = L at *
        generalize hC : (lo + X) / 18446744073709551616 = C at *
        generalize hH : (hi + Y + C) % 18446744073709551616 = Hh at *
        generalize hD : (hi + Y + C) / 18446744073709551616 = D at *
        have HL := Lib.hid hL
        have HC := Lib.hid hC
        have HHh := Lib.hid hH
        clear hL hC hH hD
        have hnew := Blk.new we 86 (row8 16 fun _ => 0)
        have hzz : row8 16 (fun _ => 0) = #[.int .u8 0, .int .u8 0, .int .u8 0, .int .u8 0, .int .u8 0, .int .u8 0, .int .u8 0, .int .u8 0, .int .u8 0, .int .u8 0, .int .u8 0, .int .u8 0, .int .u8 0, .int .u8 0, .int .u8 0, .int .u8 0] := by
          simp [row8, List.range, List.range.loop]
        have e0 : row8 16 (outT L Hh 0) = row8 16 (fun _ => 0) := row8_congr fun i _ => by simp [outT]; intros; omega
        rw [hzz] at hnew e0
        have HE0 := Lib.hid e0
        have HN := Lib.hid hnew
        clear hnew hzz e0
        have hgt := HK2.out.2.1
        obtain ⟨wo, hwo⟩ : ∃ wo : World, wo = we := ⟨_, rfl⟩
        subst hwo
        go_wp2_with fail
        go_loopw [103] (fun i wr => ∃ t : Nat, t ≤ 8 ∧ i = .int .i64 t ∧ Below wo.heap.size wo wr ∧ wo.heap.size < wr.heap.size ∧ Blk wr wo.heap.size 86 (row8 16 (outT L Hh t))) (fun i _ => 8 - (intOf i).toNat)
        case atStart =>
          refine ⟨0, by omega, rfl, (Below.refl _ _).alloc (Nat.le_refl _) _, by simp, ?_⟩
          rw [HE0.out]
          exact HN.out
        case round =>
          obtain ⟨t, ht, rfl, hb, hsz, hbl⟩ := hrel
          have HB := Lib.hid hb
          have HBL := Lib.hid hbl
          clear hb hbl HN HE0
          by_cases hlt8 : t < 8
          · have hdt : decide ((t : Int) < 8) = true := decide_eq_true (by omega)
            have z0 := HBL.out.frozen t
            have z1 := HBL.out.frozen (8 + t)
            have d0 := (HBL.out.cell t).trans (row8_at 16 _ t (by omega))
            have d1 := (HBL.out.cell (8 + t)).trans (row8_at 16 _ (8 + t) (by omega))
            have w1 : IntKind.i64.wrap (8 + (t : Int)) = 8 + (t : Int) := IntWalk.i64_in _ (by omega)
            have w2 : IntKind.i64.wrap (8 * (t : Int)) = 8 * (t : Int) := IntWalk.i64_in _ (by omega)
            have t1 : (8 + (t : Int)).toNat = 8 + t := by omega
            have t2 : (8 * (t : Int)).toNat = 8 * t := by omega
            have p1 : 0 ≤ 8 + (t : Int) := by omega
            have q1 : 8 + (t : Int) < 16 := by omega
            have p2 : 0 ≤ 8 * (t : Int) := by omega
            have q0 : (t : Int) < 16 := by omega
            have q2 : 8 * (t : Int) ≤ 64 := by omega
            go_wp2_with fail
            go_region
            go_wp2_with fail
            refine ⟨⟨t + 1, by omega, by go_num, ?_, ?_, ?_⟩, by simp [intOf]; omega⟩
            · exact below_drew (((HB.out).setCell (Nat.le_refl _) _).setCell (Nat.le_refl _) _)
            · simpa [World.setCell] using hsz
            · have h1 := (HBL.out.set t (.int .u8 ((bytesN L t : Nat) : Int))).set (8 + t) (.int .u8 ((bytesN Hh t : Nat) : Int))
              rw [row8_set, row8_set, outT_succ L Hh t hlt8, bytesN_int, bytesN_int] at h1
              exact h1
          · have hdt : decide ((t : Int) < 8) = false := decide_eq_false (by omega)
            have HBL2 := Lib.hid (show Blk wr wo.heap.size 86 (row8 16 (bytesN (L + Hh * 18446744073709551616))) from by
              rw [← outT_all L Hh (by rw [← HL.out]; exact Nat.mod_lt _ (by decide))]
              obtain rfl : t = 8 := by omega
              exact HBL.out)
            have H4 := Lib.hid (show Blk wr (w.heap.size + 1) 86 (row8 16 fun _ => 0) from HK2.out.2.2.2.below HB.out (by omega))
            have HRES := Lib.hid (show (val5 h % P130 + sN add) % 340282366920938463463374607431768211456 = L + Hh * 18446744073709551616 from by
              rw [← HV2.out, sum128 V (sN add) lo hi X Y HLH.out HSN.out, HL.out, HC.out, HHh.out])
            generalize L + Hh * 18446744073709551616 = O at *
            go_wp2_with (first | (refine wpList_load_row rfl 86 _ rfl wo.heap.size rfl 86 (row8 16 (bytesN O)) (0, 0) _ HBL2.out Try.underlying86 rfl (info86 _) ?_) | (refine wpList_store_row rfl 86 _ _ rfl (w.heap.size + 1) (row8 16 (bytesN O)) rfl rfl 86 _ H4.out (info86 _) (by rw [row8_size, row8_size]) (row8_all _ _) ?_))
            refine bodyPost_ret (v := .agg (row8 16 (bytesN O))) (results_cell_row (p := 4) Try.results89 _ _ (w.heap.size + 1) 86 _ (0, 0) _ rfl ?_ Try.underlying86 rfl (info86 _)) rfl ⟨by rw [HRES.out], ?_⟩
            · exact setRow_heap _ _ _ _ _ _ H4.out
            · exact below_setRow (below_step HK2.out.1 (Nat.le_refl _) HB.out) (by omega)
end Go.Proofs.Ytnjmcppljbkhnaa
