/-
  Plain law of a stable sort: the order by key and place, sorted blocks, and the passes that merge them. No program in sight.
-/
import Derived.Test.YtdfloglicjocbaaNa
set_option linter.unusedSimpArgs false
set_option linter.unusedVariables false
namespace Go.Proofs.Ytdfloglicjocbaa
open Go.Sort
variable {α : Type} [Inhabited α] {lt : α → α → Bool} {idx : α → Nat}

/-- less, or equal and ahead. -/
def lexL (lt : α → α → Bool) (idx : α → Nat) (x y : α) : Bool := lt x y || (!lt y x && decide (idx x < idx y))
omit [Inhabited α] in
theorem lex_no (x y : α) : lexL lt idx x y = false ↔ lt x y = false ∧ (lt y x = true ∨ idx y ≤ idx x) := by
  unfold lexL
  cases h1 : lt x y <;> cases h2 : lt y x <;> simp
omit [Inhabited α] in
theorem lex_yes (x y : α) : lexL lt idx x y = true ↔ lt x y = true ∨ (lt y x = false ∧ idx x < idx y) := by
  unfold lexL
  cases h1 : lt x y <;> cases h2 : lt y x <;> simp
omit [Inhabited α] in
theorem lex_eq (x y : α) (h : idx y < idx x) : lexL lt idx x y = lt x y := by
  unfold lexL
  rw [decide_eq_false (by omega)]; simp
omit [Inhabited α] in
theorem lex_swo (hS : SWO lt) : SWO (lexL lt idx) where
  irrefl x := by rw [lex_no]; exact ⟨hS.irrefl _, Or.inr (Nat.le_refl _)⟩
  trans x y z h1 h2 := by
    rw [lex_yes] at *
    cases hxz : lt x z with
    | true => exact Or.inl rfl
    | false =>
      right
      have a1 : lt x y = false ∨ lt x y = true := by cases lt x y <;> simp
      rcases h1 with h1 | ⟨h1, i1⟩
      · rcases h2 with h2 | ⟨h2, i2⟩
        · have := hS.trans _ _ _ h1 h2; rw [hxz] at this; cases this
        · have := hS.ntrans _ _ _ hxz h2; rw [h1] at this; cases this
      · rcases h2 with h2 | ⟨h2, i2⟩
        · have := hS.ntrans _ _ _ h1 hxz; rw [h2] at this; cases this
        · exact ⟨hS.ntrans _ _ _ h2 h1, by omega⟩
  ntrans x y z h1 h2 := by
    rw [lex_no] at *
    obtain ⟨h1, i1⟩ := h1
    obtain ⟨h2, i2⟩ := h2
    refine ⟨hS.ntrans _ _ _ h1 h2, ?_⟩
    cases hzx : lt z x with
    | true => exact Or.inl rfl
    | false =>
      right
      rcases i1 with i1 | i1
      · have := hS.ntrans _ _ _ h2 hzx; rw [i1] at this; cases this
      · rcases i2 with i2 | i2
        · have := hS.ntrans _ _ _ hzx h1; rw [i2] at this; cases this
        · omega
omit [Inhabited α] in
theorem lex_total (hi : ∀ x y, idx x = idx y → x = y) (x y : α) (h1 : lexL lt idx x y = false) (h2 : lexL lt idx y x = false) : x = y := by
  rw [lex_no] at *
  refine hi _ _ ?_
  obtain ⟨a1, b1⟩ := h1
  obtain ⟨a2, b2⟩ := h2
  rcases b1 with b1 | b1
  · rw [a2] at b1; cases b1
  · rcases b2 with b2 | b2
    · rw [a1] at b2; cases b2
    · omega

/-! ### the insertion sort of a part that stands in the order of its places -/
theorem insInner_permIn (f : α → α → Bool) (a j hi : Nat) (d : Array α) (haj : a ≤ j) (hj : j < hi) (hd : hi ≤ d.size) : PermIn a hi d (insInner f a j d) := by
  induction j generalizing d with
  | zero => exact permIn_refl _ _ _
  | succ j ih =>
    rw [insInner]
    split
    · rename_i h
      simp only [gt_iff_lt, Bool.and_eq_true, decide_eq_true_eq] at h
      exact permIn_trans _ _ _ _ _ (swp_permIn _ _ _ _ _ (by omega) (by omega) (by omega) (by omega) hd) (ih _ (by omega) (by omega) (by rw [size_swp]; exact hd))
    · exact permIn_refl _ _ _
theorem insInner_lex (a j : Nat) (d : Array α) (hj : j < d.size) (h : ∀ p, a ≤ p → p < j → idx d[p]! < idx d[j]!) : insInner lt a j d = insInner (lexL lt idx) a j d := by
  induction j generalizing d with
  | zero => rfl
  | succ j ih =>
    rw [insInner, insInner]
    by_cases haj : a < j + 1
    · rw [lex_eq _ _ (h j (by omega) (by omega))]
      split
      · refine ih _ (by rw [size_swp]; omega) fun p h1 h2 => ?_
        rw [swp_get _ (by omega) (by omega), swp_get _ (by omega) (by omega), if_neg (by omega), if_neg (by omega), if_pos rfl]
        exact h p h1 (by omega)
      · rfl
    · rw [decide_eq_false haj]; rfl
theorem insOuter_lex (a b i : Nat) (d : Array α) (hai : a ≤ i) (hb : b ≤ d.size) (h : ∀ p q, a ≤ p → p < q → i ≤ q → q < b → idx d[p]! < idx d[q]!) : insOuter lt a b i d = insOuter (lexL lt idx) a b i d := by
  induction hn : b - i generalizing i d with
  | zero =>
    have hib : ¬ i < b := by omega
    rw [insOuter.eq_1 lt a b i d, if_neg hib, insOuter.eq_1 (lexL lt idx) a b i d, if_neg hib]
  | succ n ih =>
    have hib : i < b := by omega
    rw [insOuter.eq_1 lt a b i d, if_pos hib, insOuter.eq_1 (lexL lt idx) a b i d, if_pos hib, insInner_lex a i d (by omega) fun p h1 h2 => h p i h1 h2 (by omega) (by omega)]
    have hp := insInner_permIn (lexL lt idx) a i (i + 1) d hai (by omega) (by omega)
    refine ih _ _ (by omega) (by rw [hp.1]; exact hb) (fun p q h1 h2 h3 h4 => ?_) (by omega)
    rw [hp.2.1 q (Or.inr h3)]
    by_cases hpi : p < i + 1
    · exact permIn_all d _ a (i + 1) (fun x => idx x < idx d[q]!) (by omega) hp (fun k k1 k2 => h k q k1 (by omega) (by omega) h4) p h1 hpi
    · rw [hp.2.1 p (Or.inr (by omega))]
      exact h p q h1 h2 (by omega) h4
theorem insertion_lex (hS : SWO lt) (a b : Nat) (d : Array α) (hab : a ≤ b) (hb : b ≤ d.size) (h : ∀ p q, a ≤ p → p < q → q < b → idx d[p]! < idx d[q]!) : PermIn a b d (insertionSort lt d a b) ∧ SortedIn (lexL lt idx) a b (insertionSort lt d a b) := by
  have e : insertionSort lt d a b = insertionSort (lexL lt idx) d a b := by
    unfold insertionSort
    exact insOuter_lex a b (a + 1) d (by omega) hb fun p q h1 h2 _ h4 => h p q h1 h2 h4
  rw [e]
  exact insertionSort_holds (lex_swo hS) d a b hab hb

/-! ### blocks -/
structure SBlk (lt' : α → α → Bool) (idx : α → Nat) (s n : Nat) (d : Array α) : Prop where
  srt : ∀ i j, i < j → j < n → i / s = j / s → lt' d[j]! d[i]! = false
  cut : ∀ i j, i < j → j < n → i / s ≠ j / s → idx d[i]! < idx d[j]!
structure Ins1 (lt' : α → α → Bool) (idx : α → Nat) (n a : Nat) (d : Array α) : Prop where
  srt : ∀ i j, i < j → j < n → j < a → i / 20 = j / 20 → lt' d[j]! d[i]! = false
  cut : ∀ i j, i < j → j < n → i / 20 ≠ j / 20 → idx d[i]! < idx d[j]!
  inc : ∀ i j, i < j → j < n → a ≤ i → idx d[i]! < idx d[j]!
  al : ∃ q, a = 20 * q
variable {lt' : α → α → Bool}
theorem ins1_start (n : Nat) (d : Array α) (h : ∀ i j, i < j → j < n → idx d[i]! < idx d[j]!) : Ins1 lt' idx n 0 d :=
  ⟨fun i j _ _ h3 _ => by omega, fun i j h1 h2 _ => h i j h1 h2, fun i j h1 h2 _ => h i j h1 h2, 0, rfl⟩
theorem ins1_step (n a b : Nat) (d d' : Array α) (h : Ins1 lt' idx n a d) (hb : b ≤ n) (hab : a ≤ b) (hba : b ≤ a + 20) (hbn : b = a + 20 ∨ b = n) (hn : n ≤ d.size) (hp : PermIn a b d d') (hs : SortedIn lt' a b d') : Ins1 lt' idx n (a + 20) d' := by
  obtain ⟨q, hq⟩ := h.al
  refine ⟨fun i j h1 h2 h3 h4 => ?_, fun i j h1 h2 h3 => ?_, fun i j h1 h2 h3 => ?_, q + 1, by omega⟩
  · by_cases c : a ≤ j
    · exact hs i j (by omega) h1 (by omega)
    · rw [hp.2.1 i (Or.inl (by omega)), hp.2.1 j (Or.inl (by omega))]; exact h.srt i j h1 h2 (by omega) h4
  · by_cases c : a ≤ j ∧ j < b
    · rw [hp.2.1 i (Or.inl (by omega))]
      exact permIn_all d d' a b (fun x => idx d[i]! < idx x) (by omega) hp (fun k k1 k2 => h.cut i k (by omega) (by omega) (by omega)) j c.1 c.2
    · rw [hp.2.1 j (by omega)]
      by_cases c2 : a ≤ i ∧ i < b
      · exact permIn_all d d' a b (fun x => idx x < idx d[j]!) (by omega) hp (fun k k1 k2 => h.cut k j (by omega) (by omega) (by omega)) i c2.1 c2.2
      · rw [hp.2.1 i (by omega)]; exact h.cut i j h1 h2 h3
  · rw [hp.2.1 i (Or.inr (by omega)), hp.2.1 j (Or.inr (by omega))]; exact h.inc i j h1 h2 (by omega)
theorem ins1_end (n a : Nat) (d : Array α) (h : Ins1 lt' idx n a d) (hn : n ≤ a) : SBlk lt' idx 20 n d :=
  ⟨fun i j h1 h2 h3 => h.srt i j h1 h2 (by omega) h3, fun i j h1 h2 h3 => h.cut i j h1 h2 h3⟩

/-- a pass that merges blocks of s up to a. -/
structure Pass (lt' : α → α → Bool) (idx : α → Nat) (s n a : Nat) (d : Array α) : Prop where
  s1 : ∀ i j, i < j → j < n → j < a → i / s / 2 = j / s / 2 → lt' d[j]! d[i]! = false
  s2 : ∀ i j, i < j → j < n → a ≤ i → i / s = j / s → lt' d[j]! d[i]! = false
  c1 : ∀ i j, i < j → j < n → i / s / 2 ≠ j / s / 2 → idx d[i]! < idx d[j]!
  c2 : ∀ i j, i < j → j < n → a ≤ i → i / s ≠ j / s → idx d[i]! < idx d[j]!
  al : ∃ q, a = 2 * q * s
theorem pass_start (s n : Nat) (d : Array α) (h : SBlk lt' idx s n d) : Pass lt' idx s n 0 d :=
  ⟨fun i j _ _ h3 _ => by omega, fun i j h1 h2 _ h4 => h.srt i j h1 h2 h4, fun i j h1 h2 h3 => h.cut i j h1 h2 (by omega), fun i j h1 h2 _ h4 => h.cut i j h1 h2 h4, 0, by omega⟩
theorem dv3 (s q : Nat) (hs : 0 < s) (i : Nat) : (i / s < 2 * q ↔ i < 2 * q * s) ∧ (i / s < 2 * q + 1 ↔ i < 2 * q * s + s) ∧ (i / s < 2 * q + 2 ↔ i < 2 * q * s + 2 * s) := by
  refine ⟨Nat.div_lt_iff_lt_mul hs, ?_, ?_⟩
  · rw [Nat.div_lt_iff_lt_mul hs, Nat.succ_mul]
  · rw [Nat.div_lt_iff_lt_mul hs, Nat.add_mul]
theorem pass_pre (s n a b : Nat) (d : Array α) (hs : 0 < s) (h : Pass lt' idx s n a d) (hb : b ≤ n) (hm : a + s ≤ b) (hba : b ≤ a + 2 * s) :
    SortedIn lt' a (a + s) d ∧ SortedIn lt' (a + s) b d ∧ (∀ i j, a ≤ i → i < a + s → a + s ≤ j → j < b → idx d[i]! < idx d[j]!) := by
  obtain ⟨q, hq⟩ := h.al
  refine ⟨fun i j h1 h2 h3 => ?_, fun i j h1 h2 h3 => ?_, fun i j h1 h2 h3 h4 => ?_⟩
  · have e1 := dv3 s q hs i; have e2 := dv3 s q hs j; rw [← hq] at e1 e2
    exact h.s2 i j h2 (by omega) h1 (by omega)
  · have e1 := dv3 s q hs i; have e2 := dv3 s q hs j; rw [← hq] at e1 e2
    exact h.s2 i j h2 (by omega) (by omega) (by omega)
  · have e1 := dv3 s q hs i; have e2 := dv3 s q hs j; rw [← hq] at e1 e2
    exact h.c2 i j (by omega) (by omega) h1 (by omega)
theorem pass_step (s n a b : Nat) (d d' : Array α) (hs : 0 < s) (h : Pass lt' idx s n a d) (hb : b ≤ n) (hab : a ≤ b) (hba : b ≤ a + 2 * s) (hbn : b = a + 2 * s ∨ b = n) (hn : n ≤ d.size) (hp : PermIn a b d d') (hs' : SortedIn lt' a b d') : Pass lt' idx s n (a + 2 * s) d' := by
  obtain ⟨q, hq⟩ := h.al
  refine ⟨fun i j h1 h2 h3 h4 => ?_, fun i j h1 h2 h3 h4 => ?_, fun i j h1 h2 h3 => ?_, fun i j h1 h2 h3 h4 => ?_, q + 1, ?_⟩
  · have e1 := dv3 s q hs i; have e2 := dv3 s q hs j; rw [← hq] at e1 e2
    by_cases c : a ≤ j
    · exact hs' i j (by omega) h1 (by omega)
    · rw [hp.2.1 i (Or.inl (by omega)), hp.2.1 j (Or.inl (by omega))]; exact h.s1 i j h1 h2 (by omega) h4
  · rw [hp.2.1 i (Or.inr (by omega)), hp.2.1 j (Or.inr (by omega))]; exact h.s2 i j h1 h2 (by omega) h4
  · have e1 := dv3 s q hs i; have e2 := dv3 s q hs j; rw [← hq] at e1 e2
    by_cases c : a ≤ j ∧ j < b
    · rw [hp.2.1 i (Or.inl (by omega))]
      exact permIn_all d d' a b (fun x => idx d[i]! < idx x) (by omega) hp (fun k k1 k2 => by
        have e3 := dv3 s q hs k; rw [← hq] at e3
        exact h.c1 i k (by omega) (by omega) (by omega)) j c.1 c.2
    · rw [hp.2.1 j (by omega)]
      by_cases c2 : a ≤ i ∧ i < b
      · exact permIn_all d d' a b (fun x => idx x < idx d[j]!) (by omega) hp (fun k k1 k2 => by
          have e3 := dv3 s q hs k; rw [← hq] at e3
          exact h.c1 k j (by omega) (by omega) (by omega)) i c2.1 c2.2
      · rw [hp.2.1 i (by omega)]; exact h.c1 i j h1 h2 h3
  · rw [hp.2.1 i (Or.inr (by omega)), hp.2.1 j (Or.inr (by omega))]; exact h.c2 i j h1 h2 (by omega) h4
  · rw [hq, show 2 * (q + 1) * s = 2 * q * s + 2 * s by rw [Nat.mul_add, Nat.add_mul]]
theorem pass_skip (s n a : Nat) (d : Array α) (hs : 0 < s) (h : Pass lt' idx s n a d) (hn : n ≤ a + s) : Pass lt' idx s n (a + 2 * s) d := by
  obtain ⟨q, hq⟩ := h.al
  refine ⟨fun i j h1 h2 h3 h4 => ?_, fun i j h1 h2 h3 h4 => by omega, h.c1, fun i j h1 h2 h3 h4 => by omega, q + 1, ?_⟩
  · have e1 := dv3 s q hs i; have e2 := dv3 s q hs j; rw [← hq] at e1 e2
    by_cases c : a ≤ j
    · exact h.s2 i j h1 h2 (by omega) (by omega)
    · exact h.s1 i j h1 h2 (by omega) h4
  · rw [hq, show 2 * (q + 1) * s = 2 * q * s + 2 * s by rw [Nat.mul_add, Nat.add_mul]]
theorem pass_end (s n a : Nat) (d : Array α) (h : Pass lt' idx s n a d) (hn : n ≤ a) : SBlk lt' idx (2 * s) n d := by
  have e : ∀ i : Nat, i / (2 * s) = i / s / 2 := fun i => by rw [Nat.div_div_eq_div_mul, Nat.mul_comm]
  refine ⟨fun i j h1 h2 h3 => ?_, fun i j h1 h2 h3 => ?_⟩
  · rw [e, e] at h3; exact h.s1 i j h1 h2 (by omega) h3
  · rw [e, e] at h3; exact h.c1 i j h1 h2 h3
theorem sblk_end (s n : Nat) (d : Array α) (h : SBlk lt' idx s n d) (hn : n ≤ s) : SortedIn lt' 0 n d := by
  intro i j _ h2 h3
  exact h.srt i j h2 h3 (by rw [Nat.div_eq_of_lt (by omega), Nat.div_eq_of_lt (by omega)])

/-! ### one sorted list -/
omit [Inhabited α] in
theorem sorted_one (hS : SWO lt') (ht : ∀ x y, lt' x y = false → lt' y x = false → x = y) (l1 l2 : List α) (hp : l1.Perm l2) (h1 : l1.Pairwise fun x y => lt' y x = false) (h2 : l2.Pairwise fun x y => lt' y x = false) : l1 = l2 :=
  List.Perm.eq_of_pairwise (le := fun x y => lt' y x = false) (fun a b _ _ h1 h2 => ht _ _ h2 h1) h1 h2 hp
theorem sortedIn_list (d : Array α) (h : SortedIn lt' 0 d.size d) : d.toList.Pairwise fun x y => lt' y x = false := by
  rw [List.pairwise_iff_getElem]
  intro i j hi hj hij
  have hi' : i < d.size := by simpa using hi
  have hj' : j < d.size := by simpa using hj
  have := h i j (Nat.zero_le _) hij hj'
  rw [getElem!_pos d j hj', getElem!_pos d i hi'] at this
  simpa using this
theorem permIn_list (d d' : Array α) (h : PermIn 0 d.size d d') : d'.toList.Perm d.toList := by
  obtain ⟨hsz, _, hperm⟩ := h
  have e1 : d'.extract 0 d.size = d' := by rw [← hsz]; exact Array.extract_size
  rw [e1, Array.extract_size] at hperm
  exact hperm
omit [Inhabited α] in
/-- an element that comes last in the order of places is brought behind the last that it is not ahead of. -/
theorem insert_sorted (hS : SWO lt) (l : List α) (x : α) (k : Nat) (hk : k ≤ l.length) (hx : ∀ y ∈ l, idx y < idx x) (hl : l.Pairwise fun a b => lexL lt idx b a = false)
    (h1 : k = 0 ∨ ∃ y, l[k - 1]? = some y ∧ lt x y = false) (h2 : k = l.length ∨ ∃ y, l[k]? = some y ∧ lt x y = true) : (l.take k ++ x :: l.drop k).Pairwise fun a b => lexL lt idx b a = false := by
  have hS' := lex_swo (idx := idx) hS
  have hg : ∀ i j (hi : i < l.length) (hj : j < l.length), i < j → lexL lt idx l[j] l[i] = false := fun i j hi hj hij => List.pairwise_iff_getElem.1 hl i j hi hj hij
  have hA : ∀ y ∈ l.take k, lexL lt idx x y = false := by
    intro y hy
    obtain ⟨i, hi, rfl⟩ := List.mem_iff_getElem.1 hy
    simp only [List.length_take] at hi
    rw [List.getElem_take]
    rcases h1 with h1 | ⟨z, hz, h1⟩
    · omega
    · have hz' : l[k - 1]'(by omega) = z := by
        have := List.getElem?_eq_getElem (l := l) (i := k - 1) (by omega); rw [hz] at this; exact (Option.some.inj this).symm
      have hxz : lexL lt idx x z = false := by rw [lex_eq _ _ (hx z (by rw [← hz']; exact List.getElem_mem _))]; exact h1
      by_cases e : i = k - 1
      · subst e; rw [hz']; exact hxz
      · exact hS'.ntrans _ _ _ hxz (by rw [← hz']; exact hg _ _ (by omega) (by omega) (by omega))
  have hB : ∀ y ∈ l.drop k, lexL lt idx y x = false := by
    intro y hy
    obtain ⟨i, hi, rfl⟩ := List.mem_iff_getElem.1 hy
    simp only [List.length_drop] at hi
    rw [List.getElem_drop]
    rcases h2 with h2 | ⟨z, hz, h2⟩
    · omega
    · have hz' : l[k]'(by omega) = z := by
        have := List.getElem?_eq_getElem (l := l) (i := k) (by omega); rw [hz] at this; exact (Option.some.inj this).symm
      have hzx : lexL lt idx z x = false := hS'.asymmA ((lex_yes _ _).2 (Or.inl h2))
      by_cases e : i = 0
      · subst e; simp only [Nat.add_zero]; rw [hz']; exact hzx
      · exact hS'.ntrans _ _ _ (by rw [← hz']; exact hg _ _ (by omega) (by omega) (by omega)) hzx
  rw [List.pairwise_append]
  refine ⟨hl.sublist (List.take_sublist _ _), ?_, ?_⟩
  · rw [List.pairwise_cons]
    exact ⟨hB, hl.sublist (List.drop_sublist _ _)⟩
  · intro y hy z hz
    rcases List.mem_cons.1 hz with rfl | hz
    · exact hA y hy
    · exact hS'.ntrans _ _ _ (hB z hz) (hA y hy)
end Go.Proofs.Ytdfloglicjocbaa
