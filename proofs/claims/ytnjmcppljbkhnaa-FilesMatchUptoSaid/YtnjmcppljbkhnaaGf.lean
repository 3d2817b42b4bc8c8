set_option linter.unusedVariables false
set_option linter.unusedSimpArgs false
namespace Go.Proofs.Ytnjmcppljbkhnaa

/-- a byte times x in the field. -/
def xt (a : Nat) : Nat := (2 * a) ^^^ ((a / 128 % 2) * 283)
/-- the product, bit by bit. -/
def tmN : Nat → Nat → Nat → Nat
  | 0, _, _ => 0
  | n + 1, a, b => ((b % 2) * a) ^^^ tmN n (xt a) (b / 2)
def tm (a b : Nat) : Nat := tmN 8 a b

theorem xor_lt {a b : Nat} (ha : a < 256) (hb : b < 256) : a ^^^ b < 256 := Nat.xor_lt_two_pow (n := 8) ha hb
theorem xt_lt {a : Nat} (h : a < 256) : xt a < 256 := by
  have : ∀ a, a < 256 → xt a < 256 := by decide +kernel
  exact this a h
theorem xor_two_mul (a b : Nat) : 2 * (a ^^^ b) = (2 * a) ^^^ (2 * b) := by
  have := Nat.shiftLeft_xor_distrib (a := a) (b := b) (i := 1)
  rw [Nat.mul_comm 2, Nat.mul_comm 2 a, Nat.mul_comm 2 b]
  simpa [Nat.shiftLeft_eq] using this
theorem xor_div_two (a b : Nat) : (a ^^^ b) / 2 = (a / 2) ^^^ (b / 2) := by
  have := Nat.shiftRight_xor_distrib (a := a) (b := b) (i := 1)
  simpa only [Nat.shiftRight_eq_div_pow] using this
theorem xor_div_128 (a b : Nat) : (a ^^^ b) / 128 = (a / 128) ^^^ (b / 128) := by
  have := Nat.shiftRight_xor_distrib (a := a) (b := b) (i := 7)
  simpa only [Nat.shiftRight_eq_div_pow] using this
theorem xor_mod_two' (a b : Nat) : (a ^^^ b) % 2 = (a % 2) ^^^ (b % 2) := by
  have := Nat.xor_mod_two_pow (a := a) (b := b) (n := 1)
  simpa using this
theorem bit_xor (x y m : Nat) (hx : x < 2) (hy : y < 2) : (x ^^^ y) * m = (x * m) ^^^ (y * m) := by
  have hx' : x = 0 ∨ x = 1 := by omega
  have hy' : y = 0 ∨ y = 1 := by omega
  rcases hx' with rfl | rfl <;> rcases hy' with rfl | rfl <;> simp
theorem xor4 (a b c d : Nat) : (a ^^^ b) ^^^ (c ^^^ d) = (a ^^^ c) ^^^ (b ^^^ d) := by
  rw [Nat.xor_assoc, ← Nat.xor_assoc b c d, Nat.xor_comm b c, Nat.xor_assoc c b d, ← Nat.xor_assoc]
theorem xt_xor (a b : Nat) : xt (a ^^^ b) = xt a ^^^ xt b := by
  unfold xt
  rw [xor_two_mul, xor_div_128, xor_mod_two', bit_xor _ _ _ (Nat.mod_lt _ (by decide)) (Nat.mod_lt _ (by decide)), xor4]
theorem tmN_xor_left (n a b c : Nat) : tmN n (a ^^^ b) c = tmN n a c ^^^ tmN n b c := by
  induction n generalizing a b c with
  | zero => simp [tmN]
  | succ n ih =>
    have h2 : c % 2 = 0 ∨ c % 2 = 1 := by omega
    simp only [tmN, xt_xor, ih]
    rcases h2 with h | h <;> simp only [h, Nat.zero_mul, Nat.one_mul, Nat.zero_xor]
    rw [xor4]
theorem tmN_xor_right (n a b c : Nat) : tmN n a (b ^^^ c) = tmN n a b ^^^ tmN n a c := by
  induction n generalizing a b c with
  | zero => simp [tmN]
  | succ n ih =>
    simp only [tmN, xor_div_two, ih]
    rw [xor_mod_two', bit_xor _ _ _ (Nat.mod_lt _ (by decide)) (Nat.mod_lt _ (by decide)), xor4]
theorem tmN_lt (n a b : Nat) (ha : a < 256) : tmN n a b < 256 := by
  induction n generalizing a b with
  | zero => simp [tmN]
  | succ n ih =>
    have h2 : b % 2 = 0 ∨ b % 2 = 1 := by omega
    simp only [tmN]
    refine xor_lt ?_ (ih _ _ (xt_lt ha))
    rcases h2 with h | h <;> rw [h] <;> omega
theorem tm_xor_left (a b c : Nat) : tm (a ^^^ b) c = tm a c ^^^ tm b c := tmN_xor_left 8 a b c
theorem tm_xor_right (a b c : Nat) : tm a (b ^^^ c) = tm a b ^^^ tm a c := tmN_xor_right 8 a b c
theorem tm_lt {a b : Nat} (ha : a < 256) : tm a b < 256 := tmN_lt 8 a b ha
/-- additive functions on bytes that agree at the powers of two agree. -/
theorem add_ext (f g : Nat → Nat) (hf : ∀ a b, f (a ^^^ b) = f a ^^^ f b) (hg : ∀ a b, g (a ^^^ b) = g a ^^^ g b) (h : ∀ i, i < 8 → f (2 ^ i) = g (2 ^ i)) (x : Nat) (hx : x < 256) : f x = g x := by
  have f0 : f 0 = 0 := by have := hf 0 0; simpa using this
  have g0 : g 0 = 0 := by have := hg 0 0; simpa using this
  have key : ∀ n, n ≤ 8 → ∀ x, x < 2 ^ n → f x = g x := by
    intro n
    induction n with
    | zero => intro _ x hx; have : x = 0 := by simpa using hx
              subst this; rw [f0, g0]
    | succ n ih =>
      intro hn x hx
      by_cases hb : x < 2 ^ n
      · exact ih (by omega) x hb
      · have hx2 : x < 2 ^ n + 2 ^ n := by rw [Nat.pow_succ] at hx; omega
        have e : x = 2 ^ n ^^^ (x - 2 ^ n) := by
          have hlt : x - 2 ^ n < 2 ^ n := by omega
          have h1 := Nat.two_pow_add_eq_or_of_lt hlt 1
          have h2 : 2 ^ n ^^^ (x - 2 ^ n) = 2 ^ n ||| (x - 2 ^ n) := by
            apply Nat.eq_of_testBit_eq
            intro i
            rw [Nat.testBit_xor, Nat.testBit_or, Nat.testBit_two_pow]
            by_cases hi : n = i
            · subst hi
              rw [Nat.testBit_lt_two_pow hlt]
              simp
            · simp [hi]
          rw [h2]
          rw [Nat.mul_one] at h1
          omega
        rw [e, hf, hg, h n (by omega), ih (by omega) _ (by omega)]
  exact key 8 (Nat.le_refl _) x hx
theorem tm_comm (a b : Nat) (ha : a < 256) (hb : b < 256) : tm a b = tm b a := by
  have hd : ∀ i, i < 8 → ∀ j, j < 8 → tm (2 ^ i) (2 ^ j) = tm (2 ^ j) (2 ^ i) := by decide +kernel
  refine add_ext (fun x => tm x b) (fun x => tm b x) (fun x y => tm_xor_left x y b) (fun x y => tm_xor_right b x y) (fun i hi => ?_) a ha
  exact add_ext (fun y => tm (2 ^ i) y) (fun y => tm y (2 ^ i)) (fun x y => tm_xor_right _ x y) (fun x y => tm_xor_left x y _) (fun j hj => hd i hi j hj) b hb
theorem tm_assoc (a b c : Nat) (ha : a < 256) (hb : b < 256) (hc : c < 256) : tm (tm a b) c = tm a (tm b c) := by
  have hd : ∀ i, i < 8 → ∀ j, j < 8 → ∀ k, k < 8 → tm (tm (2 ^ i) (2 ^ j)) (2 ^ k) = tm (2 ^ i) (tm (2 ^ j) (2 ^ k)) := by decide +kernel
  refine add_ext (fun x => tm (tm x b) c) (fun x => tm x (tm b c)) (fun x y => by simp only [tm_xor_left]) (fun x y => by simp only [tm_xor_left]) (fun i hi => ?_) a ha
  refine add_ext (fun y => tm (tm (2 ^ i) y) c) (fun y => tm (2 ^ i) (tm y c)) (fun x y => by simp only [tm_xor_left, tm_xor_right]) (fun x y => by simp only [tm_xor_left, tm_xor_right]) (fun j hj => ?_) b hb
  exact add_ext (fun z => tm (tm (2 ^ i) (2 ^ j)) z) (fun z => tm (2 ^ i) (tm (2 ^ j) z)) (fun x y => by simp only [tm_xor_right]) (fun x y => by simp only [tm_xor_right]) (fun k hk => hd i hi j hj k hk) c hc
theorem tm_one (a : Nat) (ha : a < 256) : tm a 1 = a := by
  refine add_ext (fun x => tm x 1) (fun x => x) (fun x y => tm_xor_left x y 1) (fun _ _ => rfl) ?_ a ha
  decide +kernel
theorem one_tm (a : Nat) (ha : a < 256) : tm 1 a = a := by rw [tm_comm 1 a (by decide) ha, tm_one a ha]
theorem tm_zero (a : Nat) : tm a 0 = 0 := by have := tm_xor_right a 0 0; simpa using this
theorem zero_tm (a : Nat) : tm 0 a = 0 := by have := tm_xor_left 0 0 a; simpa using this

/-- the power 254, as the program makes it. -/
def invN : Nat → Nat → Nat → Nat → Nat
  | 0, _, out, _ => out
  | f + 1, n, out, a => if 0 < n then invN f (n / 2) (if n % 2 = 1 then tm out a else out) (tm a a) else out
def inv (a : Nat) : Nat := invN 8 254 1 a
theorem inv_lt : ∀ a, a < 256 → inv a < 256 := by decide +kernel
theorem tm_inv : ∀ a, a < 256 → 0 < a → tm a (inv a) = 1 := by decide +kernel
theorem inv_unique (a b : Nat) (ha : a < 256) (hb : b < 256) (h0 : 0 < a) (h : tm a b = 1) : b = inv a := by
  have hi := inv_lt a ha
  calc b = tm 1 b := (one_tm b hb).symm
    _ = tm (tm a (inv a)) b := by rw [tm_inv a ha h0]
    _ = tm (tm (inv a) a) b := by rw [tm_comm a _ ha hi]
    _ = tm (inv a) (tm a b) := tm_assoc _ _ _ hi ha hb
    _ = inv a := by rw [h, tm_one _ hi]
/-- the weight of share i, out of the first k factors. -/
def wK (xs : Nat → Nat) (i at' : Nat) : Nat → Nat
  | 0 => 1
  | k + 1 => if k = i then wK xs i at' k else tm (wK xs i at' k) (tm (at' ^^^ xs k) (inv (xs i ^^^ xs k)))
/-- the value, out of the first m shares. -/
def vK (xs ys : Nat → Nat) (n at' : Nat) : Nat → Nat
  | 0 => 0
  | m + 1 => vK xs ys n at' m ^^^ tm (wK xs m at' n) (ys m)
/-- the term of share i as the document reckons it. -/
def tK (xs ys : Nat → Nat) (i at' : Nat) : Nat → Nat
  | 0 => ys i
  | k + 1 => if k = i then tK xs ys i at' k else tm (tK xs ys i at' k) (tm (at' ^^^ xs k) (inv (xs i ^^^ xs k)))
theorem wK_lt (xs : Nat → Nat) (i at' k : Nat) (hx : ∀ i, xs i < 256) (ha : at' < 256) : wK xs i at' k < 256 := by
  induction k with
  | zero => simp [wK]
  | succ k ih => simp only [wK]; split; exact ih; exact tm_lt ih
theorem tK_eq (xs ys : Nat → Nat) (i at' k : Nat) (hx : ∀ i, xs i < 256) (hy : ∀ i, ys i < 256) (ha : at' < 256) : tK xs ys i at' k = tm (wK xs i at' k) (ys i) := by
  induction k with
  | zero => simp only [tK, wK]; rw [one_tm _ (hy i)]
  | succ k ih =>
    simp only [tK, wK]
    split
    · exact ih
    · have h1 : at' ^^^ xs k < 256 := xor_lt ha (hx k)
      have h2 : inv (xs i ^^^ xs k) < 256 := inv_lt _ (xor_lt (hx i) (hx k))
      have h3 := wK_lt xs i at' k hx ha
      have h4 := tm_lt (b := inv (xs i ^^^ xs k)) h1
      rw [ih, tm_assoc _ _ _ h3 (hy i) h4, tm_comm (ys i) _ (hy i) h4, ← tm_assoc _ _ _ h3 h4 (hy i)]
theorem vK_lt (xs ys : Nat → Nat) (n at' m : Nat) (hx : ∀ i, xs i < 256) (ha : at' < 256) : vK xs ys n at' m < 256 := by
  induction m with
  | zero => simp [vK]
  | succ m ih => exact xor_lt ih (tm_lt (wK_lt xs m at' n hx ha))

/-- a polynomial at a place, its lowest coefficient first. -/
def pE : List Nat → Nat → Nat
  | [], _ => 0
  | c :: l, x => c ^^^ tm x (pE l x)
def Bytes (l : List Nat) : Prop := ∀ c, c ∈ l → c < 256
theorem pE_lt (l : List Nat) (x : Nat) (hl : Bytes l) (hx : x < 256) : pE l x < 256 := by
  induction l with
  | nil => simp [pE]
  | cons c l ih => exact xor_lt (hl c (by simp)) (tm_lt hx)
/-- f is a polynomial of at most n coefficients. -/
def Pol (n : Nat) (f : Nat → Nat) : Prop := ∃ l : List Nat, l.length = n ∧ Bytes l ∧ ∀ x, x < 256 → f x = pE l x
theorem pE_xor : ∀ (l m : List Nat) (x : Nat), l.length = m.length → pE (l.zipWith (· ^^^ ·) m) x = pE l x ^^^ pE m x
  | [], [], x, _ => by simp [pE]
  | a :: l, b :: m, x, h => by
    simp only [List.zipWith_cons_cons, pE]
    rw [pE_xor l m x (by simpa using h), tm_xor_right, xor4]
theorem Bytes.zip : ∀ (l m : List Nat), Bytes l → Bytes m → Bytes (l.zipWith (· ^^^ ·) m)
  | [], _, _, _ => by intro c hc; simp at hc
  | _ :: _, [], _, _ => by intro c hc; simp at hc
  | a :: l, b :: m, hl, hm => by
    intro c hc
    simp only [List.zipWith_cons_cons, List.mem_cons] at hc
    rcases hc with rfl | hc
    · exact xor_lt (hl a (by simp)) (hm b (by simp))
    · exact Bytes.zip l m (fun c h => hl c (by simp [h])) (fun c h => hm c (by simp [h])) c hc
theorem Pol.xor {n : Nat} {f g : Nat → Nat} (hf : Pol n f) (hg : Pol n g) : Pol n (fun x => f x ^^^ g x) := by
  obtain ⟨l, hl, bl, el⟩ := hf
  obtain ⟨m, hm, bm, em⟩ := hg
  exact ⟨_, by simp [hl, hm], Bytes.zip l m bl bm, fun x hx => by show f x ^^^ g x = _; rw [pE_xor l m x (by rw [hl, hm]), el x hx, em x hx]⟩
theorem pE_mul (l : List Nat) (c x : Nat) (hl : Bytes l) (hc : c < 256) (hx : x < 256) : pE (l.map (fun a => tm a c)) x = tm (pE l x) c := by
  induction l with
  | nil => simp [pE, zero_tm]
  | cons a l ih =>
    have hl' : Bytes l := fun c h => hl c (by simp [h])
    simp only [List.map_cons, pE]
    rw [ih hl', tm_xor_left, tm_assoc _ _ _ hx (pE_lt l x hl' hx) hc]
theorem Pol.mul {n : Nat} {f : Nat → Nat} (hf : Pol n f) (c : Nat) (hc : c < 256) : Pol n (fun x => tm (f x) c) := by
  obtain ⟨l, hl, bl, el⟩ := hf
  refine ⟨l.map (fun a => tm a c), by simp [hl], ?_, fun x hx => by show tm (f x) c = _; rw [pE_mul l c x bl hc hx, el x hx]⟩
  intro a ha
  simp only [List.mem_map] at ha
  obtain ⟨b, hb, rfl⟩ := ha
  exact tm_lt (bl b hb)
theorem pE_pad (l : List Nat) (x : Nat) : pE (l ++ [0]) x = pE l x := by
  induction l with
  | nil => simp [pE, tm_zero]
  | cons a l ih => simp only [List.cons_append, pE, ih]
theorem Pol.up {n : Nat} {f : Nat → Nat} (hf : Pol n f) : Pol (n + 1) f := by
  obtain ⟨l, hl, bl, el⟩ := hf
  refine ⟨l ++ [0], by simp [hl], ?_, fun x hx => by rw [pE_pad, el x hx]⟩
  intro a ha
  rcases List.mem_append.1 ha with h | h
  · exact bl a h
  · simp at h; omega
theorem Pol.up_le {n m : Nat} {f : Nat → Nat} (hf : Pol n f) (h : n ≤ m) : Pol m f := by
  obtain ⟨k, rfl⟩ := Nat.exists_eq_add_of_le h
  clear h
  induction k with
  | zero => exact hf
  | succ k ih => exact ih.up
theorem Pol.lin {n : Nat} {f : Nat → Nat} (hf : Pol n f) (c : Nat) (hc : c < 256) : Pol (n + 1) (fun x => tm (f x) (x ^^^ c)) := by
  have h1 : Pol (n + 1) (fun x => tm (f x) x) := by
    obtain ⟨l, hl, bl, el⟩ := hf
    refine ⟨0 :: l, by simp [hl], ?_, fun x hx => ?_⟩
    · intro a ha
      rcases List.mem_cons.1 ha with rfl | h
      · decide
      · exact bl a h
    · simp only [pE, Nat.zero_xor]
      rw [el x hx, tm_comm _ _ (pE_lt l x bl hx) hx]
  have h2 := h1.xor (hf.mul c hc).up
  obtain ⟨l, hl, bl, el⟩ := h2
  exact ⟨l, hl, bl, fun x hx => by rw [← el x hx]; exact tm_xor_right _ _ _⟩
theorem Pol.one : Pol 1 (fun _ => 1) := ⟨[1], rfl, by intro a ha; simp at ha; omega, fun x _ => by simp [pE, tm_zero]⟩
theorem Pol.zero (n : Nat) : Pol n (fun _ => 0) := by
  refine ⟨List.replicate n 0, by simp, ?_, fun x _ => ?_⟩
  · intro a ha; simp at ha; omega
  · induction n with
    | zero => rfl
    | succ n ih => simp only [List.replicate_succ, pE, ← ih, tm_zero, Nat.zero_xor]
theorem Pol.congr {n : Nat} {f g : Nat → Nat} (hf : Pol n f) (h : ∀ x, x < 256 → g x = f x) : Pol n g := by
  obtain ⟨l, hl, bl, el⟩ := hf
  exact ⟨l, hl, bl, fun x hx => by rw [h x hx, el x hx]⟩
/-- synthetic division. -/
def quo : List Nat → Nat → List Nat
  | [], _ => []
  | _ :: l, a => match l with
    | [] => []
    | _ :: _ => pE l a :: quo l a
theorem quo_spec : ∀ (l : List Nat) (a : Nat), Bytes l → a < 256 → (quo l a).length = l.length - 1 ∧ Bytes (quo l a) ∧ ∀ x, x < 256 → pE l x = tm (x ^^^ a) (pE (quo l a) x) ^^^ pE l a
  | [], a, _, _ => ⟨rfl, by intro c hc; simp [quo] at hc, fun x _ => by simp [quo, pE, tm_zero]⟩
  | [c], a, _, _ => ⟨rfl, by intro c hc; simp [quo] at hc, fun x _ => by simp [quo, pE, tm_zero]⟩
  | c :: d :: l, a, hb, ha => by
    have hb' : Bytes (d :: l) := fun c h => hb c (by simp [h])
    obtain ⟨h1, h2, h3⟩ := quo_spec (d :: l) a hb' ha
    have hq : quo (c :: d :: l) a = pE (d :: l) a :: quo (d :: l) a := rfl
    refine ⟨?_, ?_, fun x hx => ?_⟩
    · rw [hq]; simp [h1]
    · rw [hq]
      intro e he
      rcases List.mem_cons.1 he with rfl | he
      · exact pE_lt _ _ hb' ha
      · exact h2 e he
    · rw [hq]
      have e1 : pE (c :: d :: l) x = c ^^^ tm x (pE (d :: l) x) := rfl
      have e2 : pE (c :: d :: l) a = c ^^^ tm a (pE (d :: l) a) := rfl
      have e3 : pE (pE (d :: l) a :: quo (d :: l) a) x = pE (d :: l) a ^^^ tm x (pE (quo (d :: l) a) x) := rfl
      rw [e1, e2, e3]
      have h3' := h3 x hx
      have hA := pE_lt (d :: l) a hb' ha
      have hQ := pE_lt (quo (d :: l) a) x h2 hx
      generalize pE (d :: l) x = P at *
      generalize pE (d :: l) a = A at *
      generalize pE (quo (d :: l) a) x = Q at *
      subst h3'
      have hxa : x ^^^ a < 256 := xor_lt hx ha
      have e4 : tm (x ^^^ a) (tm x Q) = tm x (tm (x ^^^ a) Q) := by
        rw [← tm_assoc _ _ _ hxa hx hQ, tm_comm (x ^^^ a) x hxa hx, tm_assoc _ _ _ hx hxa hQ]
      rw [tm_xor_right (x ^^^ a) A, e4, tm_xor_right x, tm_xor_left x a A]
      generalize tm x (tm (x ^^^ a) Q) = U
      generalize tm x A = V
      generalize tm a A = W
      apply Nat.eq_of_testBit_eq
      intro i
      simp only [Nat.testBit_xor]
      cases c.testBit i <;> cases U.testBit i <;> cases V.testBit i <;> cases W.testBit i <;> rfl
theorem tm_no_zero (a b : Nat) (ha : a < 256) (hb : b < 256) (h0 : 0 < a) (h : tm a b = 0) : b = 0 := by
  have hi := inv_lt a ha
  calc b = tm 1 b := (one_tm b hb).symm
    _ = tm (tm a (inv a)) b := by rw [tm_inv a ha h0]
    _ = tm (tm (inv a) a) b := by rw [tm_comm a _ ha hi]
    _ = tm (inv a) (tm a b) := tm_assoc _ _ _ hi ha hb
    _ = 0 := by rw [h, tm_zero]
theorem xor_zero_eq {a b : Nat} (h : a ^^^ b = 0) : a = b := by
  have : (a ^^^ b) ^^^ b = a := by rw [Nat.xor_assoc, Nat.xor_self, Nat.xor_zero]
  rw [h, Nat.zero_xor] at this
  exact this.symm
theorem xor_pos {a b : Nat} (h : a ≠ b) : 0 < a ^^^ b := by
  rcases Nat.eq_zero_or_pos (a ^^^ b) with h0 | h0
  · exact absurd (xor_zero_eq h0) h
  · exact h0
theorem roots : ∀ (n : Nat) (l : List Nat) (xs : Nat → Nat), l.length = n → Bytes l → (∀ i, xs i < 256) → (∀ i j, i < n → j < n → xs i = xs j → i = j) → (∀ i, i < n → pE l (xs i) = 0) → ∀ x, x < 256 → pE l x = 0
  | 0, l, xs, hl, _, _, _, _, x, _ => by
    have : l = [] := List.length_eq_zero_iff.1 hl
    subst this; rfl
  | n + 1, l, xs, hl, hb, hx, hd, hz, x, hx' => by
    obtain ⟨h1, h2, h3⟩ := quo_spec l (xs n) hb (hx n)
    have hzn := hz n (by omega)
    have hq := roots n (quo l (xs n)) xs (by omega) h2 hx (fun i j hi hj => hd i j (by omega) (by omega)) (fun i hi => by
      have := h3 (xs i) (hx i)
      rw [hz i (by omega), hzn, Nat.xor_zero] at this
      refine tm_no_zero _ _ (xor_lt (hx i) (hx n)) (pE_lt _ _ h2 (hx i)) (xor_pos fun e => ?_) this.symm
      have := hd i n (by omega) (by omega) e
      omega)
    rw [h3 x hx', hq x hx', tm_zero, hzn, Nat.xor_zero]
theorem wK_pol (xs : Nat → Nat) (i k : Nat) (hx : ∀ i, xs i < 256) : Pol (k + (if i < k then 0 else 1)) (fun at' => wK xs i at' k) := by
  induction k with
  | zero => exact Pol.one
  | succ k ih =>
    by_cases h : k = i
    · subst h
      have e : ∀ x, wK xs k x (k + 1) = wK xs k x k := fun x => by simp [wK]
      refine (ih.up_le ?_).congr (fun x _ => e x)
      simp
    · have hI : inv (xs i ^^^ xs k) < 256 := inv_lt _ (xor_lt (hx i) (hx k))
      have e : ∀ x, x < 256 → wK xs i x (k + 1) = tm (tm (wK xs i x k) (x ^^^ xs k)) (inv (xs i ^^^ xs k)) := fun x hx' => by
        have e0 : wK xs i x (k + 1) = tm (wK xs i x k) (tm (x ^^^ xs k) (inv (xs i ^^^ xs k))) := by simp [wK, h]
        rw [e0, tm_assoc _ _ _ (wK_lt xs i x k hx hx') (xor_lt hx' (hx k)) hI]
      refine (((ih.lin (xs k) (hx k)).mul _ hI).up_le ?_).congr e
      by_cases h2 : i < k
      · simp [h2, show i < k + 1 by omega]
      · simp [h2, show ¬ i < k + 1 by omega]
theorem wK_one (xs : Nat → Nat) (i k n : Nat) (hx : ∀ i, xs i < 256) (hd : ∀ i j, i < n → j < n → xs i = xs j → i = j) (hi : i < n) (hk : k ≤ n) : wK xs i (xs i) k = 1 := by
  induction k with
  | zero => rfl
  | succ k ih =>
    simp only [wK]
    split
    · exact ih (by omega)
    · rename_i h
      rw [ih (by omega), tm_inv _ (xor_lt (hx i) (hx k)) (xor_pos fun e => h (hd i k hi (by omega) e).symm), one_tm 1 (by decide)]
theorem wK_none (xs : Nat → Nat) (i j k : Nat) (hne : j ≠ i) (hj : j < k) : wK xs i (xs j) k = 0 := by
  induction k with
  | zero => omega
  | succ k ih =>
    simp only [wK]
    by_cases h : j = k
    · subst h
      rw [if_neg hne, Nat.xor_self, zero_tm, tm_zero]
    · have := ih (by omega)
      split
      · exact this
      · rw [this, zero_tm]
theorem vK_at (xs ys : Nat → Nat) (n j m : Nat) (hx : ∀ i, xs i < 256) (hy : ∀ i, ys i < 256) (hd : ∀ i j, i < n → j < n → xs i = xs j → i = j) (hj : j < n) (hm : m ≤ n) : vK xs ys n (xs j) m = if j < m then ys j else 0 := by
  induction m with
  | zero => rfl
  | succ m ih =>
    simp only [vK]
    rw [ih (by omega)]
    by_cases h : j = m
    · subst h
      rw [wK_one xs j n n hx hd hj (Nat.le_refl _), one_tm _ (hy j)]
      simp
    · rw [wK_none xs m j n h hj, zero_tm, Nat.xor_zero]
      by_cases h2 : j < m
      · simp [h2, show j < m + 1 by omega]
      · simp [h2, show ¬ j < m + 1 by omega]
theorem vK_pol (xs ys : Nat → Nat) (n m : Nat) (hx : ∀ i, xs i < 256) (hy : ∀ i, ys i < 256) (hm : m ≤ n) : Pol n (fun at' => vK xs ys n at' m) := by
  induction m with
  | zero => exact Pol.zero n
  | succ m ih =>
    refine (ih (by omega)).xor (Pol.mul ?_ _ (hy m))
    have := wK_pol xs m n hx
    rw [if_pos (by omega)] at this
    exact this
/-- what is put through the points of a polynomial is the polynomial. -/
theorem lagrange (xs ys : Nat → Nat) (n : Nat) (l : List Nat) (hx : ∀ i, xs i < 256) (hy : ∀ i, ys i < 256) (hd : ∀ i j, i < n → j < n → xs i = xs j → i = j) (hl : l.length = n) (hb : Bytes l) (hv : ∀ i, i < n → ys i = pE l (xs i)) (x : Nat) (hx' : x < 256) : vK xs ys n x n = pE l x := by
  obtain ⟨m, hm, bm, em⟩ := vK_pol xs ys n n hx hy (Nat.le_refl _)
  have hz := roots n (m.zipWith (· ^^^ ·) l) xs (by simp [hm, hl]) (Bytes.zip m l bm hb) hx hd (fun i hi => by
    rw [pE_xor m l _ (by rw [hm, hl]), ← em _ (hx i), ← hv i hi]
    show vK xs ys n (xs i) n ^^^ ys i = 0
    rw [vK_at xs ys n i n hx hy hd hi (Nat.le_refl _), if_pos hi, Nat.xor_self]) x hx'
  rw [pE_xor m l _ (by rw [hm, hl]), ← em _ hx'] at hz
  exact xor_zero_eq hz
end Go.Proofs.Ytnjmcppljbkhnaa
