import Derived.Test.YtobiacdeoeogaaaGreatDoorY
set_option linter.unusedVariables false
set_option linter.unusedSimpArgs false
namespace Go.Proofs.YtobiacdeoeogaaaGreatDoor
/-- how many bytes from two places on are the same, up to a limit. -/
def ml (b : List UInt8) (i j : Nat) : Nat → Nat
  | 0 => 0
  | k + 1 => if b.getD i 0 = b.getD j 0 then ml b (i + 1) (j + 1) k + 1 else 0
theorem ml_le (b : List UInt8) : ∀ (k i j : Nat), ml b i j k ≤ k
  | 0, _, _ => Nat.le_refl _
  | k + 1, i, j => by
    unfold ml
    split
    · have := ml_le b k (i + 1) (j + 1); omega
    · omega
theorem ml_eq (b : List UInt8) : ∀ (k i j n : Nat), n < ml b i j k → b.getD (i + n) 0 = b.getD (j + n) 0
  | 0, _, _, n, h => absurd h (Nat.not_lt_zero _)
  | k + 1, i, j, n, h => by
    unfold ml at h
    split at h
    · rename_i he
      cases n with
      | zero => exact he
      | succ n =>
        have := ml_eq b k (i + 1) (j + 1) n (by omega)
        rw [show i + (n + 1) = i + 1 + n by omega, show j + (n + 1) = j + 1 + n by omega]
        exact this
    · exact absurd h (Nat.not_lt_zero _)
theorem ml_ge (b : List UInt8) : ∀ (k i j m : Nat), m ≤ k → (∀ n, n < m → b.getD (i + n) 0 = b.getD (j + n) 0) → m ≤ ml b i j k
  | 0, _, _, m, h, _ => h
  | k + 1, i, j, m, h, he => by
    cases m with
    | zero => omega
    | succ m =>
      unfold ml
      have h0 := he 0 (by omega)
      rw [Nat.add_zero, Nat.add_zero] at h0
      rw [if_pos h0]
      have := ml_ge b k (i + 1) (j + 1) m (by omega) (fun n hn => by
        have := he (n + 1) (by omega)
        rw [show i + 1 + n = i + (n + 1) by omega, show j + 1 + n = j + (n + 1) by omega]
        exact this)
      omega
/-- the count is where the bytes part, or the limit. -/
theorem ml_at (b : List UInt8) (i j k n : Nat) (hn : n ≤ k) (he : ∀ m, m < n → b.getD (i + m) 0 = b.getD (j + m) 0) (hs : n = k ∨ b.getD (i + n) 0 ≠ b.getD (j + n) 0) : ml b i j k = n := by
  have h1 := ml_ge b k i j n hn he
  rcases Nat.lt_or_ge n (ml b i j k) with h2 | h2
  · exfalso
    rcases hs with hs | hs
    · have := ml_le b k i j; omega
    · exact hs (ml_eq b k i j n h2)
  · omega
/-- the longest copy among some earlier places, the first of them that is longest. -/
def bestOf (b : List UInt8) (at' lim : Nat) (cs : List Nat) (r : Nat × Nat) : Nat × Nat :=
  cs.foldl (fun r j => if r.1 < ml b j at' lim then (ml b j at' lim, at' - j) else r) r
def limOf (b : List UInt8) (at' : Nat) : Nat := min 131 (b.length - at')
/-- the earlier places at which the same four bytes stand, rising. -/
def cands (b : List UInt8) (at' : Nat) : List Nat := (List.range at').filter (fun j => decide ((b.drop j).take 4 = (b.drop at').take 4))
def best (b : List UInt8) (at' : Nat) : Nat × Nat := if limOf b at' < 4 then (0, 0) else bestOf b at' (limOf b at') (cands b at').reverse (0, 0)
/-- runs of bytes that are written as they are. -/
def lits (l : List UInt8) : List UInt8 :=
  if h : l = [] then [] else UInt8.ofNat (min 128 l.length - 1) :: (l.take 128 ++ lits (l.drop 128))
termination_by l.length
decreasing_by
  have : l.length ≠ 0 := fun e => h (List.length_eq_zero_iff.1 e)
  simp only [List.length_drop]; omega
def copyB (n d : Nat) : List UInt8 := [UInt8.ofNat (n + 124), UInt8.ofNat ((d - 1) / 256), UInt8.ofNat ((d - 1) % 256)]
/-- what is written from a place on, the run having begun at another. -/
def sqE (b : List UInt8) : Nat → Nat → Nat → List UInt8
  | 0, _, run => lits (b.drop run)
  | f + 1, at', run => if at' < b.length then
      (if (best b at').1 = 0 then sqE b f (at' + 1) run else lits ((b.drop run).take (at' - run)) ++ (copyB (best b at').1 (best b at').2 ++ sqE b f (at' + (best b at').1) (at' + (best b at').1)))
    else lits (b.drop run)
def sqB (b : List UInt8) : List UInt8 := sqE b b.length 0 0
/-- bytes that are copied from before. -/
def rep (o : List UInt8) (back : Nat) : Nat → List UInt8
  | 0 => o
  | n + 1 => rep (o ++ [o.getD (o.length - back) 0]) back n
/-- behind the bytes o a squeezed text s makes o'. -/
inductive Dec : List UInt8 → List UInt8 → List UInt8 → Prop where
  | nil (o : List UInt8) : Dec o [] o
  | lit (o : List UInt8) (c : UInt8) (l s o' : List UInt8) (hc : c.toNat < 128) (hl : l.length = c.toNat + 1) (h : Dec (o ++ l) s o') : Dec o (c :: (l ++ s)) o'
  | copy (o : List UInt8) (c x y : UInt8) (s o' : List UInt8) (hc : 128 ≤ c.toNat) (hb : x.toNat * 256 + y.toNat + 1 ≤ o.length) (h : Dec (rep o (x.toNat * 256 + y.toNat + 1) (c.toNat - 124)) s o') : Dec o (c :: x :: y :: s) o'
theorem Dec.app {o s o1 t o2 : List UInt8} (h : Dec o s o1) (k : Dec o1 t o2) : Dec o (s ++ t) o2 := by
  induction h with
  | nil o => exact k
  | lit o c l s o' hc hl h ih =>
    have := Dec.lit o c l (s ++ t) o2 hc hl (ih k)
    simpa [List.append_assoc] using this
  | copy o c x y s o' hc hb h ih => exact Dec.copy o c x y (s ++ t) o2 hc hb (ih k)
theorem rep_length (back : Nat) : ∀ (n : Nat) (o : List UInt8), (rep o back n).length = o.length + n
  | 0, o => rfl
  | n + 1, o => by
    unfold rep
    rw [rep_length back n, List.length_append]
    simp; omega
theorem Dec.len {o s o' : List UInt8} (h : Dec o s o') : o.length ≤ o'.length := by
  induction h with
  | nil o => exact Nat.le_refl _
  | lit o c l s o' hc hl h ih => rw [List.length_append] at ih; omega
  | copy o c x y s o' hc hb h ih => rw [rep_length] at ih; omega
/-- decoding ends in one way. -/
theorem Dec.det {o s o1 o2 : List UInt8} (h : Dec o s o1) (k : Dec o s o2) : o1 = o2 := by
  induction h generalizing o2 with
  | nil o => cases k; rfl
  | lit o c l s o' hc hl h ih =>
    generalize hs : c :: (l ++ s) = s0 at k
    cases k with
    | nil => cases hs
    | lit _ c2 l2 s2 _ hc2 hl2 h2 =>
      injection hs with e1 e2
      subst e1
      obtain ⟨e3, e4⟩ := List.append_inj e2 (by omega)
      subst e3; subst e4
      exact ih h2
    | copy _ c2 x y s2 _ hc2 hb2 h2 =>
      injection hs with e1 e2
      subst e1
      omega
  | copy o c x y s o' hc hb h ih =>
    generalize hs : c :: x :: y :: s = s0 at k
    cases k with
    | nil => cases hs
    | lit _ c2 l2 s2 _ hc2 hl2 h2 =>
      injection hs with e1 e2
      subst e1
      omega
    | copy _ c2 x2 y2 s2 _ hc2 hb2 h2 =>
      injection hs with e1 e2
      injection e2 with e3 e4
      injection e4 with e5 e6
      subst e1; subst e3; subst e5; subst e6
      exact ih h2
theorem lits_nil : lits [] = [] := by rw [lits]; simp
theorem lits_cons {l : List UInt8} (h : l ≠ []) : lits l = UInt8.ofNat (min 128 l.length - 1) :: (l.take 128 ++ lits (l.drop 128)) := by
  rw [lits, dif_neg h]
theorem dec_lits : ∀ (k : Nat) (l o : List UInt8), l.length ≤ k → Dec o (lits l) (o ++ l)
  | k, [], o, _ => by rw [lits_nil, List.append_nil]; exact Dec.nil o
  | 0, a :: l, o, h => absurd h (by simp)
  | k + 1, a :: l, o, h => by
    have hne : a :: l ≠ [] := by simp
    rw [lits_cons hne]
    have hm : 1 ≤ min 128 (a :: l).length ∧ min 128 (a :: l).length ≤ 128 := by
      have : (a :: l).length = l.length + 1 := rfl
      omega
    have hv : (UInt8.ofNat (min 128 (a :: l).length - 1)).toNat = min 128 (a :: l).length - 1 := by rw [UInt8.toNat_ofNat']; omega
    refine Dec.lit o _ _ _ _ (by rw [hv]; omega) (by rw [hv, List.length_take]; omega) ?_
    have ih := dec_lits k ((a :: l).drop 128) (o ++ (a :: l).take 128) (by
      have h1 : (a :: l).length = l.length + 1 := rfl
      rw [List.length_drop]; omega)
    rw [List.append_assoc, List.take_append_drop] at ih
    exact ih
theorem getD_take {l : List UInt8} {n i : Nat} (h : i < n) : (l.take n).getD i 0 = l.getD i 0 := by
  simp [List.getD, List.getElem?_take, h]
theorem take_next {b : List UInt8} {n : Nat} (h : n < b.length) : b.take (n + 1) = b.take n ++ [b.getD n 0] := by
  rw [List.take_succ_eq_append_getElem h]
  simp [List.getD, List.getElem?_eq_getElem h]
theorem rep_take (b : List UInt8) (back : Nat) (hb : 1 ≤ back) : ∀ (n at' : Nat), back ≤ at' → at' + n ≤ b.length → (∀ k, k < n → b.getD (at' - back + k) 0 = b.getD (at' + k) 0) → rep (b.take at') back n = b.take (at' + n)
  | 0, _, _, _, _ => rfl
  | n + 1, at', h1, h2, he => by
    have h0 := he 0 (by omega)
    rw [Nat.add_zero, Nat.add_zero] at h0
    have hl : (b.take at').length = at' := by rw [List.length_take]; omega
    unfold rep
    rw [hl, getD_take (by omega), h0, ← take_next (by omega)]
    have ih := rep_take b back hb n (at' + 1) (by omega) (by omega) (fun k hk => by
      have := he (k + 1) (by omega)
      rw [show at' + 1 - back + k = at' - back + (k + 1) by omega, show at' + 1 + k = at' + (k + 1) by omega]
      exact this)
    rw [ih, show at' + 1 + n = at' + (n + 1) by omega]
theorem bestOf_or (b : List UInt8) (at' lim : Nat) : ∀ (cs : List Nat) (r : Nat × Nat), bestOf b at' lim cs r = r ∨ ∃ j, j ∈ cs ∧ bestOf b at' lim cs r = (ml b j at' lim, at' - j)
  | [], r => Or.inl rfl
  | j :: cs, r => by
    have h := bestOf_or b at' lim cs (if r.1 < ml b j at' lim then (ml b j at' lim, at' - j) else r)
    have e : bestOf b at' lim (j :: cs) r = bestOf b at' lim cs (if r.1 < ml b j at' lim then (ml b j at' lim, at' - j) else r) := rfl
    rw [e]
    rcases h with h | ⟨i, hi, h⟩
    · rw [h]
      split
      · exact Or.inr ⟨j, by simp, rfl⟩
      · exact Or.inl rfl
    · exact Or.inr ⟨i, by simp [hi], h⟩
theorem four_eq {b : List UInt8} {i j : Nat} (hi : i + 4 ≤ b.length) (hj : j + 4 ≤ b.length) : (b.drop i).take 4 = (b.drop j).take 4 ↔ ∀ n, n < 4 → b.getD (i + n) 0 = b.getD (j + n) 0 := by
  constructor
  · intro h n hn
    have := congrArg (·.getD n 0) h
    simp only [List.getD, List.getElem?_take, if_pos hn, List.getElem?_drop] at this
    exact this
  · intro h
    apply List.ext_getElem?
    intro n
    by_cases hn : n < 4
    · have := h n hn
      simp only [List.getElem?_take, if_pos hn, List.getElem?_drop]
      simp only [List.getD] at this
      rw [List.getElem?_eq_getElem (by omega : i + n < b.length), List.getElem?_eq_getElem (by omega : j + n < b.length)] at this ⊢
      simpa using this
    · simp only [List.getElem?_take, if_neg hn]
/-- what the longest copy is, if there is one. -/
theorem best_or (b : List UInt8) (at' : Nat) (h : at' < b.length) : best b at' = (0, 0) ∨ ∃ n d, best b at' = (n, d) ∧ 4 ≤ n ∧ n ≤ 131 ∧ at' + n ≤ b.length ∧ 1 ≤ d ∧ d ≤ at' ∧ ∀ k, k < n → b.getD (at' - d + k) 0 = b.getD (at' + k) 0 := by
  unfold best
  split
  · exact Or.inl rfl
  · rename_i hl
    have hlim : limOf b at' ≤ 131 ∧ at' + limOf b at' ≤ b.length := by unfold limOf; omega
    rcases bestOf_or b at' (limOf b at') (cands b at').reverse (0, 0) with h0 | ⟨j, hj, h0⟩
    · exact Or.inl h0
    · right
      have hj2 : j < at' ∧ (b.drop j).take 4 = (b.drop at').take 4 := by
        have := List.mem_reverse.1 hj
        unfold cands at this
        have h3 := List.mem_filter.1 this
        exact ⟨List.mem_range.1 h3.1, of_decide_eq_true h3.2⟩
      have h4 := (four_eq (by omega) (by omega)).1 hj2.2
      have hm := ml_le b (limOf b at') j at'
      refine ⟨_, _, h0, ml_ge b _ j at' 4 (by omega) h4, by omega, by omega, by omega, by omega, fun k hk => ?_⟩
      have := ml_eq b _ j at' k hk
      rw [show at' - (at' - j) + k = j + k by omega]
      exact this
theorem dec_sqE (b : List UInt8) (hb : b.length ≤ 16384) : ∀ (f at' run : Nat), run ≤ at' → at' ≤ b.length → b.length ≤ at' + f → Dec (b.take run) (sqE b f at' run) b
  | 0, at', run, h1, h2, h3 => by
    unfold sqE
    have := dec_lits _ (b.drop run) (b.take run) (Nat.le_refl _)
    rwa [List.take_append_drop] at this
  | f + 1, at', run, h1, h2, h3 => by
    unfold sqE
    split
    · rename_i hlt
      rcases best_or b at' hlt with h0 | ⟨n, d, h0, n4, n131, hn, d1, dat, he⟩
      · rw [h0, if_pos rfl]
        exact dec_sqE b hb f (at' + 1) run (by omega) (by omega) (by omega)
      · rw [h0, if_neg (by show ¬ n = 0; omega)]
        have e1 : b.take run ++ (b.drop run).take (at' - run) = b.take at' := by
          have := List.take_add (l := b) (i := run) (j := at' - run)
          rw [show run + (at' - run) = at' by omega] at this
          exact this.symm
        have k1 := dec_lits _ ((b.drop run).take (at' - run)) (b.take run) (Nat.le_refl _)
        rw [e1] at k1
        have k3 := dec_sqE b hb f (at' + n) (at' + n) (Nat.le_refl _) hn (by omega)
        have v1 : (UInt8.ofNat (n + 124)).toNat = n + 124 := by rw [UInt8.toNat_ofNat']; omega
        have v2 : (UInt8.ofNat ((d - 1) / 256)).toNat = (d - 1) / 256 := by rw [UInt8.toNat_ofNat']; omega
        have v3 : (UInt8.ofNat ((d - 1) % 256)).toNat = (d - 1) % 256 := by rw [UInt8.toNat_ofNat']; omega
        have hd : (d - 1) / 256 * 256 + (d - 1) % 256 + 1 = d := by omega
        have hlen : (b.take at').length = at' := by rw [List.length_take]; omega
        refine Dec.app k1 ?_
        refine Dec.copy _ _ _ _ _ _ (by rw [v1]; omega) (by rw [v2, v3, hd, hlen]; exact dat) ?_
        rw [v1, v2, v3, hd, show n + 124 - 124 = n by omega, rep_take b d d1 n at' dat hn he]
        exact k3
    · have := dec_lits _ (b.drop run) (b.take run) (Nat.le_refl _)
      rwa [List.take_append_drop] at this
/-- a squeezed block is expanded to what it was. -/
theorem dec_sqB (b : List UInt8) (hb : b.length ≤ 16384) : Dec [] (sqB b) b := dec_sqE b hb b.length 0 0 (Nat.le_refl _) (Nat.zero_le _) (by omega)
/-- all places, the nearest first. -/
theorem bestOf_all (b : List UInt8) (at' lim : Nat) (p : Nat → Bool) (hp : ∀ j, p j = decide (4 ≤ ml b j at' lim)) : ∀ (cs : List Nat) (r q : Nat × Nat), ((r.1 < 4 ∧ q = (0, 0)) ∨ (4 ≤ r.1 ∧ q = r)) →
    (((bestOf b at' lim cs r).1 < 4 ∧ bestOf b at' lim (cs.filter p) q = (0, 0)) ∨ (4 ≤ (bestOf b at' lim cs r).1 ∧ bestOf b at' lim (cs.filter p) q = bestOf b at' lim cs r))
  | [], r, q, h => h
  | j :: cs, r, q, h => by
    have e : bestOf b at' lim (j :: cs) r = bestOf b at' lim cs (if r.1 < ml b j at' lim then (ml b j at' lim, at' - j) else r) := rfl
    rw [e]
    by_cases h4 : 4 ≤ ml b j at' lim
    · have hpj : p j = true := by rw [hp]; exact decide_eq_true h4
      rw [List.filter_cons_of_pos hpj]
      have e2 : bestOf b at' lim (j :: cs.filter p) q = bestOf b at' lim (cs.filter p) (if q.1 < ml b j at' lim then (ml b j at' lim, at' - j) else q) := rfl
      rw [e2]
      apply bestOf_all b at' lim p hp cs
      rcases h with ⟨h1, rfl⟩ | ⟨h1, rfl⟩
      · rw [if_pos (by omega), if_pos (by show 0 < _; omega)]
        exact Or.inr ⟨h4, rfl⟩
      · right
        split
        · exact ⟨h4, rfl⟩
        · exact ⟨h1, rfl⟩
    · have hpj : p j = false := by rw [hp]; exact decide_eq_false h4
      rw [List.filter_cons_of_neg (by rw [hpj]; simp)]
      apply bestOf_all b at' lim p hp cs
      rcases h with ⟨h1, rfl⟩ | ⟨h1, rfl⟩
      · left
        split
        · exact ⟨by show ml b j at' lim < 4; omega, rfl⟩
        · exact ⟨h1, rfl⟩
      · right
        rw [if_neg (by omega)]
        exact ⟨h1, rfl⟩
/-- the longest copy of the document: over all earlier places. -/
theorem best_all (b : List UInt8) (at' : Nat) (h : at' < b.length) : ((bestOf b at' (limOf b at') (List.range at').reverse (0, 0)).1 < 4 ∧ best b at' = (0, 0)) ∨ (4 ≤ (bestOf b at' (limOf b at') (List.range at').reverse (0, 0)).1 ∧ best b at' = bestOf b at' (limOf b at') (List.range at').reverse (0, 0)) := by
  by_cases hl : limOf b at' < 4
  · left
    refine ⟨?_, by unfold best; rw [if_pos hl]⟩
    rcases bestOf_or b at' (limOf b at') (List.range at').reverse (0, 0) with h0 | ⟨j, hj, h0⟩
    · rw [h0]; show 0 < 4; omega
    · rw [h0]; show ml b j at' (limOf b at') < 4
      have := ml_le b (limOf b at') j at'; omega
  · have hlim : at' + limOf b at' ≤ b.length := by unfold limOf; omega
    have hc : (cands b at').reverse = (List.range at').reverse.filter (fun j => decide (4 ≤ ml b j at' (limOf b at'))) := by
      unfold cands
      rw [List.filter_reverse]
      congr 1
      apply List.filter_congr
      intro j hj
      have hj' := List.mem_range.1 hj
      have h4 := four_eq (b := b) (i := j) (j := at') (by omega) (by omega)
      by_cases h5 : 4 ≤ ml b j at' (limOf b at')
      · rw [decide_eq_true h5, decide_eq_true (h4.2 (fun n hn => ml_eq b (limOf b at') j at' n (by omega)))]
      · rw [decide_eq_false h5, decide_eq_false]
        intro h6
        exact h5 (ml_ge b (limOf b at') j at' 4 (by omega) (h4.1 h6))
    have h0 := bestOf_all b at' (limOf b at') (fun j => decide (4 ≤ ml b j at' (limOf b at'))) (fun _ => rfl) (List.range at').reverse (0, 0) (0, 0) (Or.inl ⟨by show 0 < 4; omega, rfl⟩)
    unfold best
    rw [if_neg hl, hc]
    exact h0
end Go.Proofs.YtobiacdeoeogaaaGreatDoor
