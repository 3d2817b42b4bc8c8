import Derived.Test.YtnjmcppljbkhnaaE
set_option maxRecDepth 10000
set_option linter.unusedSimpArgs false
set_option linter.unusedVariables false
namespace Go.Proofs.Ytnjmcppljbkhnaa
open Go.RowKit

/-- the number of five limbs. -/
def val5 (h : Nat → Nat) : Nat := h 0 + h 1 * 67108864 + h 2 * 4503599627370496 + h 3 * 302231454903657293676544 + h 4 * 20282409603651670423947251286016
/-- 2^130 - 5. -/
def P130 : Nat := 1361129467683753853853498429727072845819
theorem car_5 (d : Nat → Nat) (a b c e f : Nat) (ha : d 0 = a) (hb : d 1 = b) (hc : d 2 = c) (he : d 3 = e) (hf : d 4 = f) (A : a < 2 ^ 60) (B : b < 2 ^ 60) (C : c < 2 ^ 60) (E : e < 2 ^ 60) (F : f < 2 ^ 60) :
    val5 d = val5 (car d 5) + P130 * ((f + (e + (c + (b + a / 67108864) / 67108864) / 67108864) / 67108864) / 67108864) ∧
    car d 5 0 = a % 67108864 + 5 * ((f + (e + (c + (b + a / 67108864) / 67108864) / 67108864) / 67108864) / 67108864) ∧
    car d 5 1 = (b + a / 67108864) % 67108864 ∧ car d 5 2 = (c + (b + a / 67108864) / 67108864) % 67108864 ∧
    car d 5 3 = (e + (c + (b + a / 67108864) / 67108864) / 67108864) % 67108864 ∧
    car d 5 4 = (f + (e + (c + (b + a / 67108864) / 67108864) / 67108864) / 67108864) % 67108864 := by
  have m1 : (b + a / 67108864) % 18446744073709551616 = b + a / 67108864 := by omega
  have m2 : (c + (b + a / 67108864) / 67108864) % 18446744073709551616 = c + (b + a / 67108864) / 67108864 := by omega
  have m3 : (e + (c + (b + a / 67108864) / 67108864) / 67108864) % 18446744073709551616 = e + (c + (b + a / 67108864) / 67108864) / 67108864 := by omega
  have m4 : (f + (e + (c + (b + a / 67108864) / 67108864) / 67108864) / 67108864) % 18446744073709551616 = f + (e + (c + (b + a / 67108864) / 67108864) / 67108864) / 67108864 := by omega
  have e0 : car d 5 0 = a % 67108864 + 5 * ((f + (e + (c + (b + a / 67108864) / 67108864) / 67108864) / 67108864) / 67108864) := by
    simp [car, car1, upd, ha, hb, hc, he, hf, m1, m2, m3, m4]; omega
  have e1 : car d 5 1 = (b + a / 67108864) % 67108864 := by simp [car, car1, upd, ha, hb, hc, he, hf, m1, m2, m3, m4]
  have e2 : car d 5 2 = (c + (b + a / 67108864) / 67108864) % 67108864 := by simp [car, car1, upd, ha, hb, hc, he, hf, m1, m2, m3, m4]
  have e3 : car d 5 3 = (e + (c + (b + a / 67108864) / 67108864) / 67108864) % 67108864 := by simp [car, car1, upd, ha, hb, hc, he, hf, m1, m2, m3, m4]
  have e4 : car d 5 4 = (f + (e + (c + (b + a / 67108864) / 67108864) / 67108864) / 67108864) % 67108864 := by simp [car, car1, upd, ha, hb, hc, he, hf, m1, m2, m3, m4]
  refine ⟨?_, e0, e1, e2, e3, e4⟩
  unfold val5 P130
  rw [e0, e1, e2, e3, e4, ha, hb, hc, he, hf]
  clear e0 e1 e2 e3 e4 m1 m2 m3 m4 A B C E F
  generalize hq0 : a / 67108864 = q0
  generalize hq1 : (b + q0) / 67108864 = q1
  generalize hq2 : (c + q1) / 67108864 = q2
  generalize hq3 : (e + q2) / 67108864 = q3
  generalize hq4 : (f + q3) / 67108864 = q4
  omega
/-- limbs as they stand behind two carries. -/
def Limbs (h : Nat → Nat) : Prop := h 0 < 67108874 ∧ h 1 < 67108864 ∧ h 2 < 67108864 ∧ h 3 < 67108864 ∧ h 4 < 67108864
theorem carcar (d : Nat → Nat) (A : ∀ i, i < 5 → d i < 2 ^ 59) : Limbs (car (car d 5) 5) ∧ ∃ q, val5 d = val5 (car (car d 5) 5) + P130 * q := by
  obtain ⟨v1, a0, a1, a2, a3, a4⟩ := car_5 d _ _ _ _ _ rfl rfl rfl rfl rfl (Nat.lt_trans (A 0 (by decide)) (by decide)) (Nat.lt_trans (A 1 (by decide)) (by decide)) (Nat.lt_trans (A 2 (by decide)) (by decide)) (Nat.lt_trans (A 3 (by decide)) (by decide)) (Nat.lt_trans (A 4 (by decide)) (by decide))
  have b0 := A 0 (by decide); have b1 := A 1 (by decide); have b2 := A 2 (by decide); have b3 := A 3 (by decide); have b4 := A 4 (by decide)
  obtain ⟨v2, c0, c1, c2, c3, c4⟩ := car_5 (car d 5) _ _ _ _ _ rfl rfl rfl rfl rfl (by omega) (by omega) (by omega) (by omega) (by omega)
  refine ⟨⟨?_, ?_, ?_, ?_, ?_⟩, _, by rw [v1, v2, Nat.add_assoc, ← Nat.mul_add]⟩
  · rw [c0]; omega
  · rw [c1]; omega
  · rw [c2]; omega
  · rw [c3]; omega
  · rw [c4]; omega

theorem pall_5 (h r : Nat → Nat) (hh : ∀ i, i < 5 → h i < 2 ^ 28) (hr : ∀ i, i < 5 → r i < 2 ^ 26) :
    pall h r 5 0 = h 0 * r 0 + 5 * (h 1 * r 4) + 5 * (h 2 * r 3) + 5 * (h 3 * r 2) + 5 * (h 4 * r 1) ∧
    pall h r 5 1 = h 0 * r 1 + h 1 * r 0 + 5 * (h 2 * r 4) + 5 * (h 3 * r 3) + 5 * (h 4 * r 2) ∧
    pall h r 5 2 = h 0 * r 2 + h 1 * r 1 + h 2 * r 0 + 5 * (h 3 * r 4) + 5 * (h 4 * r 3) ∧
    pall h r 5 3 = h 0 * r 3 + h 1 * r 2 + h 2 * r 1 + h 3 * r 0 + 5 * (h 4 * r 4) ∧
    pall h r 5 4 = h 0 * r 4 + h 1 * r 3 + h 2 * r 2 + h 3 * r 1 + h 4 * r 0 := by
  have b : ∀ i k, i < 5 → k < 5 → h i * r k < 2 ^ 54 := fun i k hi hk => Nat.lt_of_le_of_lt (Nat.mul_le_mul (Nat.le_of_lt_succ (hh i hi)) (Nat.le_of_lt_succ (hr k hk))) (by decide)
  have b00 := b 0 0 (by decide) (by decide); have b01 := b 0 1 (by decide) (by decide); have b02 := b 0 2 (by decide) (by decide); have b03 := b 0 3 (by decide) (by decide); have b04 := b 0 4 (by decide) (by decide)
  have b10 := b 1 0 (by decide) (by decide); have b11 := b 1 1 (by decide) (by decide); have b12 := b 1 2 (by decide) (by decide); have b13 := b 1 3 (by decide) (by decide); have b14 := b 1 4 (by decide) (by decide)
  have b20 := b 2 0 (by decide) (by decide); have b21 := b 2 1 (by decide) (by decide); have b22 := b 2 2 (by decide) (by decide); have b23 := b 2 3 (by decide) (by decide); have b24 := b 2 4 (by decide) (by decide)
  have b30 := b 3 0 (by decide) (by decide); have b31 := b 3 1 (by decide) (by decide); have b32 := b 3 2 (by decide) (by decide); have b33 := b 3 3 (by decide) (by decide); have b34 := b 3 4 (by decide) (by decide)
  have b40 := b 4 0 (by decide) (by decide); have b41 := b 4 1 (by decide) (by decide); have b42 := b 4 2 (by decide) (by decide); have b43 := b 4 3 (by decide) (by decide); have b44 := b 4 4 (by decide) (by decide)
  clear b hh hr
  simp only [pall, prow, pstep, pterm, upd, Nat.reduceAdd, Nat.reduceMod, Nat.reduceLT, Nat.reduceEqDiff, if_true, if_false, reduceIte]
  generalize h 0 * r 0 = m00 at *; generalize h 0 * r 1 = m01 at *; generalize h 0 * r 2 = m02 at *; generalize h 0 * r 3 = m03 at *; generalize h 0 * r 4 = m04 at *
  generalize h 1 * r 0 = m10 at *; generalize h 1 * r 1 = m11 at *; generalize h 1 * r 2 = m12 at *; generalize h 1 * r 3 = m13 at *; generalize h 1 * r 4 = m14 at *
  generalize h 2 * r 0 = m20 at *; generalize h 2 * r 1 = m21 at *; generalize h 2 * r 2 = m22 at *; generalize h 2 * r 3 = m23 at *; generalize h 2 * r 4 = m24 at *
  generalize h 3 * r 0 = m30 at *; generalize h 3 * r 1 = m31 at *; generalize h 3 * r 2 = m32 at *; generalize h 3 * r 3 = m33 at *; generalize h 3 * r 4 = m34 at *
  generalize h 4 * r 0 = m40 at *; generalize h 4 * r 1 = m41 at *; generalize h 4 * r 2 = m42 at *; generalize h 4 * r 3 = m43 at *; generalize h 4 * r 4 = m44 at *
  refine ⟨?_, ?_, ?_, ?_, ?_⟩
  all_goals
    simp only [Nat.zero_add, Nat.zero_mod]
    repeat rw [Nat.mod_eq_of_lt (by omega)]
    try omega
theorem val5_mul (h r : Nat → Nat) : val5 h * val5 r =
    (h 0 * r 0 + 5 * (h 1 * r 4) + 5 * (h 2 * r 3) + 5 * (h 3 * r 2) + 5 * (h 4 * r 1))
    + (h 0 * r 1 + h 1 * r 0 + 5 * (h 2 * r 4) + 5 * (h 3 * r 3) + 5 * (h 4 * r 2)) * 67108864
    + (h 0 * r 2 + h 1 * r 1 + h 2 * r 0 + 5 * (h 3 * r 4) + 5 * (h 4 * r 3)) * 4503599627370496
    + (h 0 * r 3 + h 1 * r 2 + h 2 * r 1 + h 3 * r 0 + 5 * (h 4 * r 4)) * 302231454903657293676544
    + (h 0 * r 4 + h 1 * r 3 + h 2 * r 2 + h 3 * r 1 + h 4 * r 0) * 20282409603651670423947251286016
    + P130 * ((h 1 * r 4 + h 2 * r 3 + h 3 * r 2 + h 4 * r 1) + (h 2 * r 4 + h 3 * r 3 + h 4 * r 2) * 67108864 + (h 3 * r 4 + h 4 * r 3) * 4503599627370496 + h 4 * r 4 * 302231454903657293676544) := by
  unfold val5 P130
  grind
theorem prod_val (h r : Nat → Nat) (hh : ∀ i, i < 5 → h i < 2 ^ 28) (hr : ∀ i, i < 5 → r i < 2 ^ 26) : Limbs (prod h r) ∧ val5 (prod h r) % P130 = val5 h * val5 r % P130 := by
  obtain ⟨p0, p1, p2, p3, p4⟩ := pall_5 h r hh hr
  have hm := val5_mul h r
  have e : val5 h * val5 r = val5 (pall h r 5) + P130 * ((h 1 * r 4 + h 2 * r 3 + h 3 * r 2 + h 4 * r 1) + (h 2 * r 4 + h 3 * r 3 + h 4 * r 2) * 67108864 + (h 3 * r 4 + h 4 * r 3) * 4503599627370496 + h 4 * r 4 * 302231454903657293676544) := by
    rw [hm]; unfold val5; rw [p0, p1, p2, p3, p4]
  have b : ∀ i k, i < 5 → k < 5 → h i * r k < 2 ^ 54 := fun i k hi hk => Nat.lt_of_le_of_lt (Nat.mul_le_mul (Nat.le_of_lt_succ (hh i hi)) (Nat.le_of_lt_succ (hr k hk))) (by decide)
  have hA : ∀ i, i < 5 → pall h r 5 i < 2 ^ 59 := by
    intro i hi
    have b00 := b 0 0 (by decide) (by decide); have b01 := b 0 1 (by decide) (by decide); have b02 := b 0 2 (by decide) (by decide); have b03 := b 0 3 (by decide) (by decide); have b04 := b 0 4 (by decide) (by decide)
    have b10 := b 1 0 (by decide) (by decide); have b11 := b 1 1 (by decide) (by decide); have b12 := b 1 2 (by decide) (by decide); have b13 := b 1 3 (by decide) (by decide); have b14 := b 1 4 (by decide) (by decide)
    have b20 := b 2 0 (by decide) (by decide); have b21 := b 2 1 (by decide) (by decide); have b22 := b 2 2 (by decide) (by decide); have b23 := b 2 3 (by decide) (by decide); have b24 := b 2 4 (by decide) (by decide)
    have b30 := b 3 0 (by decide) (by decide); have b31 := b 3 1 (by decide) (by decide); have b32 := b 3 2 (by decide) (by decide); have b33 := b 3 3 (by decide) (by decide); have b34 := b 3 4 (by decide) (by decide)
    have b40 := b 4 0 (by decide) (by decide); have b41 := b 4 1 (by decide) (by decide); have b42 := b 4 2 (by decide) (by decide); have b43 := b 4 3 (by decide) (by decide); have b44 := b 4 4 (by decide) (by decide)
    match i, hi with
    | 0, _ => rw [p0]; omega
    | 1, _ => rw [p1]; omega
    | 2, _ => rw [p2]; omega
    | 3, _ => rw [p3]; omega
    | 4, _ => rw [p4]; omega
  obtain ⟨l, q, hq⟩ := carcar (pall h r 5) hA
  refine ⟨l, ?_⟩
  rw [e, hq]
  show val5 (prod h r) % P130 = (val5 (prod h r) + P130 * q + P130 * _) % P130
  rw [Nat.add_mul_mod_self_left, Nat.add_mul_mod_self_left]

/-- the limbs of a number below 2^130, whole. -/
def Tight (h : Nat → Nat) : Prop := h 0 < 67108864 ∧ h 1 < 67108864 ∧ h 2 < 67108864 ∧ h 3 < 67108864 ∧ h 4 < 67108864
theorem tight_of (h : Nat → Nat) (H : Limbs h) : Tight (car (car h 5) 5) ∧ val5 (car (car h 5) 5) % P130 = val5 h % P130 := by
  obtain ⟨h0, h1, h2, h3, h4⟩ := H
  obtain ⟨v1, a0, a1, a2, a3, a4⟩ := car_5 h _ _ _ _ _ rfl rfl rfl rfl rfl (by omega) (by omega) (by omega) (by omega) (by omega)
  have t0 : car h 5 0 < 67108864 := by rw [a0]; omega
  have t1 : car h 5 1 < 67108864 := by rw [a1]; omega
  have t2 : car h 5 2 < 67108864 := by rw [a2]; omega
  have t3 : car h 5 3 < 67108864 := by rw [a3]; omega
  have t4 : car h 5 4 < 67108864 := by rw [a4]; omega
  obtain ⟨v2, c0, c1, c2, c3, c4⟩ := car_5 (car h 5) _ _ _ _ _ rfl rfl rfl rfl rfl (by omega) (by omega) (by omega) (by omega) (by omega)
  refine ⟨⟨?_, ?_, ?_, ?_, ?_⟩, ?_⟩
  · rw [c0]; omega
  · rw [c1]; omega
  · rw [c2]; omega
  · rw [c3]; omega
  · rw [c4]; omega
  · rw [v1, v2, Nat.add_mul_mod_self_left, Nat.add_mul_mod_self_left]
/-- the carries of h + 5. -/
def plus5 (h : Nat → Nat) : Nat → (Nat → Nat)
  | 0 => upd h 0 (h 0 + 5)
  | k + 1 => upd (upd (plus5 h k) (k + 1) (plus5 h k (k + 1) + plus5 h k k / 67108864)) k (plus5 h k k % 67108864)
theorem plus5_4 (h : Nat → Nat) (H : Tight h) : (∀ i, i < 4 → plus5 h 4 i < 67108864) ∧ plus5 h 4 4 ≤ 67108864 ∧ val5 (plus5 h 4) = val5 h + 5 := by
  obtain ⟨h0, h1, h2, h3, h4⟩ := H
  have e0 : plus5 h 4 0 = (h 0 + 5) % 67108864 := by simp [plus5, upd]
  have e1 : plus5 h 4 1 = (h 1 + (h 0 + 5) / 67108864) % 67108864 := by simp [plus5, upd]
  have e2 : plus5 h 4 2 = (h 2 + (h 1 + (h 0 + 5) / 67108864) / 67108864) % 67108864 := by simp [plus5, upd]
  have e3 : plus5 h 4 3 = (h 3 + (h 2 + (h 1 + (h 0 + 5) / 67108864) / 67108864) / 67108864) % 67108864 := by simp [plus5, upd]
  have e4 : plus5 h 4 4 = h 4 + (h 3 + (h 2 + (h 1 + (h 0 + 5) / 67108864) / 67108864) / 67108864) / 67108864 := by simp [plus5, upd]
  refine ⟨?_, ?_, ?_⟩
  · intro i hi
    match i, hi with
    | 0, _ => rw [e0]; omega
    | 1, _ => rw [e1]; omega
    | 2, _ => rw [e2]; omega
    | 3, _ => rw [e3]; omega
  · rw [e4]; omega
  · unfold val5
    rw [e0, e1, e2, e3, e4]
    omega
/-- h less 2^130 - 5, if it is that great. -/
def reduce5 (h : Nat → Nat) : Nat → Nat := if 0 < plus5 h 4 4 / 67108864 then upd (plus5 h 4) 4 (plus5 h 4 4 % 67108864) else h
theorem reduce5_val (h : Nat → Nat) (H : Tight h) : Tight (reduce5 h) ∧ val5 (reduce5 h) = val5 h % P130 := by
  obtain ⟨p, q, v⟩ := plus5_4 h H
  have p0 := p 0 (by decide); have p1 := p 1 (by decide); have p2 := p 2 (by decide); have p3 := p 3 (by decide)
  clear p
  unfold reduce5
  generalize plus5 h 4 = g at *
  obtain ⟨h0, h1, h2, h3, h4⟩ := H
  have hlt : val5 h < P130 + P130 := by unfold val5 P130; omega
  have hp : P130 + 5 = 67108864 * 20282409603651670423947251286016 := by decide
  have hg : val5 g = g 0 + g 1 * 67108864 + g 2 * 4503599627370496 + g 3 * 302231454903657293676544 + g 4 * 20282409603651670423947251286016 := rfl
  generalize P130 = P at *
  by_cases hc : 0 < g 4 / 67108864
  · rw [if_pos hc]
    have e4 : g 4 = 67108864 := by omega
    have e5 : val5 (upd g 4 (g 4 % 67108864)) = g 0 + g 1 * 67108864 + g 2 * 4503599627370496 + g 3 * 302231454903657293676544 := by
      unfold val5 upd
      simp only [Nat.reduceEqDiff, if_true, if_false, reduceIte]
      rw [e4]
      omega
    refine ⟨⟨?_, ?_, ?_, ?_, ?_⟩, ?_⟩
    · simpa [upd] using p0
    · simpa [upd] using p1
    · simpa [upd] using p2
    · simpa [upd] using p3
    · simp [upd]; omega
    · rw [e5]
      rw [e4] at hg
      have e6 : val5 h = g 0 + g 1 * 67108864 + g 2 * 4503599627370496 + g 3 * 302231454903657293676544 + P := by omega
      rw [e6, Nat.add_mod_right, Nat.mod_eq_of_lt (by omega)]
  · rw [if_neg hc]
    have e4 : g 4 < 67108864 := by omega
    refine ⟨⟨h0, h1, h2, h3, h4⟩, ?_⟩
    rw [Nat.mod_eq_of_lt]
    omega
/-- the two halves of the number. -/
theorem halves (h : Nat → Nat) (H : Tight h) :
    (h 0 ||| h 1 * 67108864 % 18446744073709551616) ||| h 2 * 4503599627370496 % 18446744073709551616 = val5 h % 18446744073709551616 ∧
    (h 2 / 4096 ||| h 3 * 16384 % 18446744073709551616) ||| h 4 * 1099511627776 % 18446744073709551616 = val5 h / 18446744073709551616 % 18446744073709551616 := by
  obtain ⟨h0, h1, h2, h3, h4⟩ := H
  have a1 : h 1 * 67108864 % 18446744073709551616 = h 1 * 2 ^ 26 := Nat.mod_eq_of_lt (by omega)
  have a2 : h 2 * 4503599627370496 % 18446744073709551616 = h 2 % 4096 * 2 ^ 52 := Nat.mul_mod_mul_right 4503599627370496 (h 2) 4096
  have a3 : h 3 * 16384 % 18446744073709551616 = h 3 * 2 ^ 14 := Nat.mod_eq_of_lt (by omega)
  have a4 : h 4 * 1099511627776 % 18446744073709551616 = h 4 % 16777216 * 2 ^ 40 := Nat.mul_mod_mul_right 1099511627776 (h 4) 16777216
  rw [a1, a2, a3, a4, or_add 26 _ _ (by omega), or_add 52 _ _ (by omega), or_add 14 _ _ (by omega), or_add 40 _ _ (by omega)]
  unfold val5
  constructor
  · omega
  · omega
/-- a number of 17 bytes, by its limbs. -/
theorem limbs_of_bytes (b0 b1 b2 b3 b4 b5 b6 b7 b8 b9 b10 b11 b12 b13 b14 b15 b16 : Nat)
    (h0 : b0 < 256) (h1 : b1 < 256) (h2 : b2 < 256) (h3 : b3 < 256) (h4 : b4 < 256) (h5 : b5 < 256) (h6 : b6 < 256) (h7 : b7 < 256) (h8 : b8 < 256) (h9 : b9 < 256) (h10 : b10 < 256) (h11 : b11 < 256) (h12 : b12 < 256) (h13 : b13 < 256) (h14 : b14 < 256) (h15 : b15 < 256) :
    (b0 + 256 * b1 + 65536 * b2 + 16777216 * b3) % 67108864
    + (b3 + 256 * b4 + 65536 * b5 + 16777216 * b6) / 4 % 67108864 * 67108864
    + (b6 + 256 * b7 + 65536 * b8 + 16777216 * b9) / 16 % 67108864 * 4503599627370496
    + (b9 + 256 * b10 + 65536 * b11 + 16777216 * b12) / 64 % 67108864 * 302231454903657293676544
    + ((b12 + 256 * b13 + 65536 * b14 + 16777216 * b15) / 256 + b16 * 16777216) * 20282409603651670423947251286016
    = b0 + 256 * (b1 + 256 * (b2 + 256 * (b3 + 256 * (b4 + 256 * (b5 + 256 * (b6 + 256 * (b7 + 256 * (b8 + 256 * (b9 + 256 * (b10 + 256 * (b11 + 256 * (b12 + 256 * (b13 + 256 * (b14 + 256 * (b15 + 256 * b16))))))))))))))) := by
  have e0 : (b0 + 256 * b1 + 65536 * b2 + 16777216 * b3) % 67108864 = b0 + 256 * b1 + 65536 * b2 + 16777216 * (b3 % 4) := by omega
  have e1 : (b3 + 256 * b4 + 65536 * b5 + 16777216 * b6) / 4 % 67108864 = b3 / 4 + 64 * b4 + 16384 * b5 + 4194304 * (b6 % 16) := by omega
  have e2 : (b6 + 256 * b7 + 65536 * b8 + 16777216 * b9) / 16 % 67108864 = b6 / 16 + 16 * b7 + 4096 * b8 + 1048576 * (b9 % 64) := by omega
  have e3 : (b9 + 256 * b10 + 65536 * b11 + 16777216 * b12) / 64 % 67108864 = b9 / 64 + 4 * b10 + 1024 * b11 + 262144 * b12 := by omega
  have e4 : (b12 + 256 * b13 + 65536 * b14 + 16777216 * b15) / 256 = b13 + 256 * b14 + 65536 * b15 := by omega
  rw [e0, e1, e2, e3, e4]
  have f3 : b3 = b3 % 4 + 4 * (b3 / 4) := by omega
  have f6 : b6 = b6 % 16 + 16 * (b6 / 16) := by omega
  have f9 : b9 = b9 % 64 + 64 * (b9 / 64) := by omega
  clear e0 e1 e2 e3 e4
  generalize b3 % 4 = x3 at *; generalize b3 / 4 = y3 at *
  generalize b6 % 16 = x6 at *; generalize b6 / 16 = y6 at *
  generalize b9 % 64 = x9 at *; generalize b9 / 64 = y9 at *
  subst f3 f6 f9
  omega
end Go.Proofs.Ytnjmcppljbkhnaa
