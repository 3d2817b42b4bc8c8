/-
  Stores side by side: plain law. The order of the names; the sorted list of them, and its pages.
-/
import Derived.Test.YtpjnjhklkgefcaaGreatDoorZp
import Derived.Sort.LotA
import Derived.Shelf.SlSortCmp.Insertion
import Derived.Test.YtpjnjhklkgefcaaGreatDoorZr
set_option linter.unusedVariables false
set_option linter.unusedSimpArgs false
namespace Go.Proofs.YtpjnjhklkgefcaaGreatDoor
open Go.Sort
/-- a name's place in the order. -/
def rkC : Nat → Nat
  | 0 => 5
  | 1 => 6
  | 2 => 1
  | 3 => 7
  | 4 => 2
  | 5 => 0
  | _ => 4
/-- a name without slashes. -/
def nmD : Nat → ByteArray
  | 6 => ⟨#[119]⟩
  | j => nmC j
theorem nmD_good {j : Nat} (h : badJ j = false) : nmD j = nmC j := by
  unfold nmD
  split
  · cases h
  · rfl
def cfC (i j : Nat) : Int := Lib.compareBytes (nmD i).data.toList (nmD j).data.toList
def cfR (a b : Nat) : Int := if a < b then -1 else if b < a then 1 else 0
theorem cfC_small : ∀ i, i < 8 → ∀ j, j < 8 → cfC i j = cfR (rkC i) (rkC j) :=
  all8 (all8 (by decide) (by decide) (by decide) (by decide) (by decide) (by decide) (by decide) (by decide)) (all8 (by decide) (by decide) (by decide) (by decide) (by decide) (by decide) (by decide) (by decide))
    (all8 (by decide) (by decide) (by decide) (by decide) (by decide) (by decide) (by decide) (by decide)) (all8 (by decide) (by decide) (by decide) (by decide) (by decide) (by decide) (by decide) (by decide))
    (all8 (by decide) (by decide) (by decide) (by decide) (by decide) (by decide) (by decide) (by decide)) (all8 (by decide) (by decide) (by decide) (by decide) (by decide) (by decide) (by decide) (by decide))
    (all8 (by decide) (by decide) (by decide) (by decide) (by decide) (by decide) (by decide) (by decide)) (all8 (by decide) (by decide) (by decide) (by decide) (by decide) (by decide) (by decide) (by decide))
theorem big7 {β : Type} {f : Nat → β} (h : ∀ n, f (n + 7) = f 7) (j : Nat) : f j = f (min j 7) := by
  by_cases e : j < 7
  · rw [Nat.min_eq_left (by omega)]
  · obtain ⟨n, rfl⟩ : ∃ n, j = n + 7 := ⟨j - 7, by omega⟩
    rw [h, Nat.min_eq_right (by omega)]
theorem nmC_min (j : Nat) : nmC j = nmC (min j 7) := big7 (fun _ => rfl) j
theorem rkC_min (j : Nat) : rkC j = rkC (min j 7) := big7 (fun _ => rfl) j
theorem nmD_min (j : Nat) : nmD j = nmD (min j 7) := big7 (fun _ => rfl) j
theorem cfC_rk (i j : Nat) : cfC i j = cfR (rkC i) (rkC j) := by
  have h := cfC_small (min i 7) (by omega) (min j 7) (by omega)
  unfold cfC at h ⊢
  rw [nmD_min i, nmD_min j, rkC_min i, rkC_min j]
  exact h
theorem ltC (i j : Nat) : ltOf cfC i j = decide (rkC i < rkC j) := by
  unfold ltOf
  rw [cfC_rk]
  unfold cfR
  by_cases h : rkC i < rkC j
  · rw [if_pos h, decide_eq_true h]; rfl
  · rw [if_neg h, decide_eq_false h]
    split <;> rfl
theorem swoC : SWO (ltOf cfC) where
  irrefl x := by rw [ltC]; simp
  trans x y z h1 h2 := by rw [ltC] at *; simp at *; omega
  ntrans x y z h1 h2 := by rw [ltC] at *; simp at *; omega
/-- the sorted list. -/
def sortC (js : List Nat) : List Nat := (insertionSort (ltOf cfC) js.toArray 0 js.length).toList
theorem sortC_ok (js : List Nat) : (sortC js).Perm js ∧ (sortC js).Pairwise (fun a b => rkC a ≤ rkC b) := by
  obtain ⟨hp, hs⟩ := insertionSort_holds swoC js.toArray 0 js.length (Nat.zero_le _) (by simp)
  have hsz : (insertionSort (ltOf cfC) js.toArray 0 js.length).size = js.length := by rw [hp.1]; simp
  constructor
  · have h := hp.2.2
    rw [Array.toList_extract, Array.toList_extract] at h
    unfold sortC
    simp only [List.extract_eq_take_drop, Nat.sub_zero, List.drop_zero] at h
    rw [List.take_of_length_le (by simp [hsz]), List.take_of_length_le (by simp)] at h
    exact h
  · unfold sortC
    rw [List.pairwise_iff_getElem]
    intro i j hi hj hij
    have hi' : i < (insertionSort (ltOf cfC) js.toArray 0 js.length).size := by simpa using hi
    have hj' : j < (insertionSort (ltOf cfC) js.toArray 0 js.length).size := by simpa using hj
    have h := hs i j (Nat.zero_le _) hij (by omega)
    rw [ltC, getElem!_pos _ i hi', getElem!_pos _ j hj'] at h
    simp only [Array.getElem_toList]
    simpa using h
theorem rkC_inj : ∀ i, i < 8 → ∀ j, j < 8 → badJ i = false → badJ j = false → rkC i = rkC j → i = j :=
  all8 (all8 (by decide) (by decide) (by decide) (by decide) (by decide) (by decide) (by decide) (by decide)) (all8 (by decide) (by decide) (by decide) (by decide) (by decide) (by decide) (by decide) (by decide))
    (all8 (by decide) (by decide) (by decide) (by decide) (by decide) (by decide) (by decide) (by decide)) (all8 (by decide) (by decide) (by decide) (by decide) (by decide) (by decide) (by decide) (by decide))
    (all8 (by decide) (by decide) (by decide) (by decide) (by decide) (by decide) (by decide) (by decide)) (all8 (by decide) (by decide) (by decide) (by decide) (by decide) (by decide) (by decide) (by decide))
    (all8 (by decide) (by decide) (by decide) (by decide) (by decide) (by decide) (by decide) (by decide)) (all8 (by decide) (by decide) (by decide) (by decide) (by decide) (by decide) (by decide) (by decide))
/-- the bytes of a name. -/
abbrev byC (j : Nat) : List UInt8 := (nmC j).data.toList
theorem leC : ∀ i, i < 8 → ∀ j, j < 8 → badJ i = false → badJ j = false → rkC i ≤ rkC j → byC i ≤ byC j :=
  all8 (all8 (by decide) (by decide) (by decide) (by decide) (by decide) (by decide) (by decide) (by decide)) (all8 (by decide) (by decide) (by decide) (by decide) (by decide) (by decide) (by decide) (by decide))
    (all8 (by decide) (by decide) (by decide) (by decide) (by decide) (by decide) (by decide) (by decide)) (all8 (by decide) (by decide) (by decide) (by decide) (by decide) (by decide) (by decide) (by decide))
    (all8 (by decide) (by decide) (by decide) (by decide) (by decide) (by decide) (by decide) (by decide)) (all8 (by decide) (by decide) (by decide) (by decide) (by decide) (by decide) (by decide) (by decide))
    (all8 (by decide) (by decide) (by decide) (by decide) (by decide) (by decide) (by decide) (by decide)) (all8 (by decide) (by decide) (by decide) (by decide) (by decide) (by decide) (by decide) (by decide))
theorem sorted_one {α : Type} (le : α → α → Bool) (anti : ∀ a b, le a b = true → le b a = true → a = b) : ∀ (l l' : List α), l'.Perm l → l.Pairwise (fun x y => le x y = true) → l'.Pairwise (fun x y => le x y = true) → l' = l
  | [], l', hp, _, _ => by simpa using hp
  | x :: l, l', hp, hs, hs' => by
    obtain ⟨h1, h2⟩ := List.pairwise_cons.1 hs
    cases l' with
    | nil => exact absurd hp.length_eq (by simp)
    | cons y l'' =>
      obtain ⟨g1, g2⟩ := List.pairwise_cons.1 hs'
      have hx : x ∈ y :: l'' := hp.symm.subset (by simp)
      have hy : y ∈ x :: l := hp.subset (by simp)
      have e : y = x := by
        rcases List.mem_cons.1 hy with e | hy
        · exact e
        · rcases List.mem_cons.1 hx with e | hx
          · exact e.symm
          · exact anti _ _ (g1 x hx) (h1 y hy)
      subst e
      rw [sorted_one le anti l l'' (List.Perm.cons_inv hp) h2 g2]
/-- Go's sorted names are ours. -/
theorem sortC_merge (js : List Nat) (h8 : ∀ j ∈ js, j < 8) (hb : ∀ j ∈ js, badJ j = false) : ((js.map byC).mergeSort fun x y => decide (x ≤ y)) = (sortC js).map byC := by
  obtain ⟨hp, hs⟩ := sortC_ok js
  refine sorted_one (fun x y => decide (x ≤ y)) (fun a b h1 h2 => List.le_antisymm (by simpa using h1) (by simpa using h2)) _ _ ((List.mergeSort_perm _ _).trans (hp.symm.map byC)) ?_ ?_
  · rw [List.pairwise_map]
    refine List.Pairwise.imp_of_mem ?_ hs
    intro a b ha hb' hab
    have ha' := hp.subset ha
    have hb'' := hp.subset hb'
    simpa using leC a (h8 a ha') b (h8 b hb'') (hb a ha') (hb b hb'') hab
  · refine List.pairwise_mergeSort (fun a b c h1 h2 => ?_) (fun a b => ?_) _
    · have h1' : a ≤ b := by simpa using h1
      have h2' : b ≤ c := by simpa using h2
      simpa using List.le_trans h1' h2'
    · have := List.le_total a b
      simpa using this
/-- names that are different are in strict order. -/
theorem sortC_strict (js : List Nat) (h8 : ∀ j ∈ js, j < 8) (hb : ∀ j ∈ js, badJ j = false) (hd : js.Pairwise (· ≠ ·)) : (sortC js).Pairwise (fun a b => rkC a < rkC b) := by
  obtain ⟨hp, hs⟩ := sortC_ok js
  have hn : (sortC js).Pairwise (· ≠ ·) := hp.symm.pairwise hd (fun h e => h e.symm)
  refine List.Pairwise.imp_of_mem ?_ (hs.and hn)
  intro a b ha hb' hab
  have := rkC_inj a (h8 a (hp.subset ha)) b (h8 b (hp.subset hb')) (hb a (hp.subset ha)) (hb b (hp.subset hb'))
  rcases Nat.lt_or_ge (rkC a) (rkC b) with h | h
  · exact h
  · exact absurd (this (Nat.le_antisymm hab.1 h)) hab.2
/-- whether a name is at or ahead of a mark. -/
def upB (s mark : ByteArray) : Bool := Op.bytesLess s.toList mark.toList || s.toList == mark.toList
def upL (s mark : List UInt8) : Bool := Op.bytesLess s mark || s == mark
theorem upL_small : ∀ i, i < 8 → ∀ j, j < 8 → upL (nmD i).data.toList (nmD j).data.toList = decide (rkC i ≤ rkC j) :=
  all8 (all8 (by decide) (by decide) (by decide) (by decide) (by decide) (by decide) (by decide) (by decide)) (all8 (by decide) (by decide) (by decide) (by decide) (by decide) (by decide) (by decide) (by decide))
    (all8 (by decide) (by decide) (by decide) (by decide) (by decide) (by decide) (by decide) (by decide)) (all8 (by decide) (by decide) (by decide) (by decide) (by decide) (by decide) (by decide) (by decide))
    (all8 (by decide) (by decide) (by decide) (by decide) (by decide) (by decide) (by decide) (by decide)) (all8 (by decide) (by decide) (by decide) (by decide) (by decide) (by decide) (by decide) (by decide))
    (all8 (by decide) (by decide) (by decide) (by decide) (by decide) (by decide) (by decide) (by decide)) (all8 (by decide) (by decide) (by decide) (by decide) (by decide) (by decide) (by decide) (by decide))
theorem upB_rk (i j : Nat) : upB (nmD i) (nmD j) = decide (rkC i ≤ rkC j) := by
  have h := upL_small (min i 7) (by omega) (min j 7) (by omega)
  unfold upB
  rw [Lib.toList_data, Lib.toList_data, nmD_min i, nmD_min j, rkC_min i, rkC_min j]
  exact h
theorem nmD_ne : ∀ j, j < 8 → (nmD j).toList.isEmpty = false :=
  all8 (by rw [Lib.toList_data]; decide) (by rw [Lib.toList_data]; decide) (by rw [Lib.toList_data]; decide) (by rw [Lib.toList_data]; decide) (by rw [Lib.toList_data]; decide) (by rw [Lib.toList_data]; decide) (by rw [Lib.toList_data]; decide) (by rw [Lib.toList_data]; decide)
theorem nmD_size : ∀ j, j < 8 → (nmD j).size ≤ 3 :=
  all8 (by decide) (by decide) (by decide) (by decide) (by decide) (by decide) (by decide) (by decide)
theorem nmD_last : ∀ j, j < 8 → Lib.lastIndexByte (nmD j) 47 = -1 :=
  all8 (by decide) (by decide) (by decide) (by decide) (by decide) (by decide) (by decide) (by decide)
/-- the mark behind k entries of a list. -/
def markC (S : List Nat) : Nat → ByteArray
  | 0 => ⟨#[]⟩
  | k + 1 => nmD (S[k]?.getD 0)
/-- what a mark is to a page. -/
def MarkAt (S : List Nat) (k : Nat) (mark : ByteArray) : Prop := (mark.toList.isEmpty = true ∧ k = 0) ∨ (mark.toList.isEmpty = false ∧ ∀ (i : Nat) x, S[i]? = some x → upB (nmD x) mark = decide (i < k))
theorem markC_at {S : List Nat} (h8 : ∀ j ∈ S, j < 8) (hs : S.Pairwise (fun a b => rkC a < rkC b)) : ∀ k, k ≤ S.length → MarkAt S k (markC S k)
  | 0, _ => Or.inl ⟨by rw [Lib.toList_data]; rfl, rfl⟩
  | k + 1, hk => by
    have hg : S[k]? = some S[k] := List.getElem?_eq_getElem (by omega)
    refine Or.inr ?_
    rw [markC, hg, Option.getD_some]
    refine ⟨nmD_ne _ (h8 _ (List.getElem_mem (by omega))), fun i x hx => ?_⟩
    rw [upB_rk]
    obtain ⟨hi, rfl⟩ := List.getElem?_eq_some_iff.1 hx
    have hp := List.pairwise_iff_getElem.1 hs
    rcases Nat.lt_trichotomy i k with h | h | h
    · rw [decide_eq_true (Nat.le_of_lt (hp i k hi (by omega) h)), decide_eq_true (by omega)]
    · subst h
      rw [decide_eq_true (Nat.le_refl _), decide_eq_true (by omega)]
    · have := hp k i (by omega) hi h
      rw [decide_eq_false (by omega), decide_eq_false (by omega)]
end Go.Proofs.YtpjnjhklkgefcaaGreatDoor

/-
  Stores side by side: plain law. The list of members; the first error.
-/
set_option linter.unusedVariables false
set_option linter.unusedSimpArgs false
namespace Go.Proofs.YtpjnjhklkgefcaaGreatDoor
theorem sameN_small (i : Nat) (hi : i < 8) (j : Nat) (hj : j < 8) : sameN (nmC i) (nmC j) = eqJ i j := by
  have h := nmC_small i hi j hj
  unfold sameN
  rw [Lib.toList_data, Lib.toList_data, ← h]
  rw [Bool.eq_iff_iff]
  simp
/-- the members: names and stores. -/
def msOf (js : List Nat) (rs : List MR) : List (ByteArray × Nat) := (js.zip rs).map (fun x => (nmC x.1, x.2.q.m))
theorem msOf_len {js : List Nat} {rs : List MR} (h : js.length = rs.length) : (msOf js rs).length = js.length := by
  simp [msOf, List.length_zip, h]
theorem msOf_get {js : List Nat} {rs : List MR} {i j : Nat} {r : MR} (hj : js[i]? = some j) (hr : rs[i]? = some r) : (msOf js rs)[i]? = some (nmC j, r.q.m) := by
  have h : (js.zip rs)[i]? = some (j, r) := List.getElem?_zip_eq_some.2 ⟨hj, hr⟩
  rw [msOf, List.getElem?_map, h]
  rfl
theorem msOf_take (js : List Nat) (rs : List MR) (i : Nat) : (msOf js rs).take i = msOf (js.take i) (rs.take i) := by
  have h : ∀ (a : List Nat) (b : List MR) (n : Nat), (a.zip b).take n = (a.take n).zip (b.take n) := by
    intro a
    induction a with
    | nil => intro b n; simp
    | cons x a ih =>
      intro b n
      cases b with
      | nil => simp
      | cons y b =>
        cases n with
        | zero => simp
        | succ n => simp [ih]
  rw [msOf, ← List.map_take, h]
  rfl
theorem msOf_any : ∀ {js : List Nat} {rs : List MR}, js.length = rs.length → (∀ j ∈ js, j < 8) → ∀ {t : Nat}, t < 8 → (msOf js rs).any (fun s => sameN s.1 (nmC t)) = js.any (fun i => eqJ i t)
  | [], _, _, _, _, _ => by simp [msOf]
  | j :: js, [], h, _, _, _ => by cases h
  | j :: js, r :: rs, h, h8, t, ht => by
    have ih := msOf_any (js := js) (rs := rs) (by simpa using h) (fun x hx => h8 x (List.mem_cons_of_mem _ hx)) ht
    have h1 : msOf (j :: js) (r :: rs) = (nmC j, r.q.m) :: msOf js rs := by simp [msOf]
    rw [h1, List.any_cons, List.any_cons, ih, sameN_small j (h8 j (by simp)) t ht]
theorem msOf_small {js : List Nat} {rs : List MR} : ∀ s ∈ msOf js rs, ∃ j ∈ js, s.1 = nmC j := by
  intro s hs
  obtain ⟨x, hx, rfl⟩ := List.mem_map.1 hs
  exact ⟨x.1, (List.of_mem_zip hx).1, rfl⟩
theorem msOf_same {js : List Nat} {rs rs' : List MR} (h : rs.map (fun r => r.q.m) = rs'.map (fun r => r.q.m)) : msOf js rs = msOf js rs' := by
  have e : ∀ l : List MR, msOf js l = (js.zip (l.map (fun r => r.q.m))).map (fun x => (nmC x.1, x.2)) := by
    intro l
    simp [msOf, List.zip_map_right]
  rw [e, e, h]
theorem takeN1 {l : List Nat} {i j : Nat} (h : l[i]? = some j) : l.take (i + 1) = l.take i ++ [j] := by
  have hi := (List.getElem?_eq_some_iff.1 h).1
  rw [List.take_succ_eq_append_getElem hi, (List.getElem?_eq_some_iff.1 h).2]
theorem wantR_step {js : List Nat} {i j : Nat} (e : Int) (h : js[i]? = some j) : wantR e (js.take (i + 1)).reverse = if wantR e (js.take i).reverse ≠ 0 then wantR e (js.take i).reverse else if badJ j = true then 2 else if (js.take i).any (fun x => eqJ x j) = true then 4 else 0 := by
  rw [takeN1 h, List.reverse_append, List.reverse_singleton, List.singleton_append, wantR, stepC, List.any_reverse]
theorem wantR_app {e : Int} {b : List Nat} (h : wantR e b ≠ 0) : ∀ a, wantR e (a ++ b) = wantR e b
  | [] => rfl
  | x :: a => by rw [List.cons_append, wantR, wantR_app h a, stepC, if_pos h]
theorem wantR_pre {e : Int} (js : List Nat) (k : Nat) (h : wantR e (js.take k).reverse ≠ 0) : wantR e js.reverse = wantR e (js.take k).reverse := by
  have e1 : js.reverse = (js.drop k).reverse ++ (js.take k).reverse := by rw [← List.reverse_append, List.take_append_drop]
  rw [e1, wantR_app h]
theorem good_of {js : List Nat} (h : wantR 0 js.reverse = 0) : (∀ j ∈ js, badJ j = false) ∧ js.Pairwise (· ≠ ·) := by
  obtain ⟨h1, h2⟩ := wantR_ok h
  refine ⟨fun j hj => h1 j (by simpa using hj), ?_⟩
  rw [List.pairwise_reverse] at h2
  exact h2.imp (fun {a b} hab e => by
    subst e
    unfold eqJ at hab
    simp at hab)
end Go.Proofs.YtpjnjhklkgefcaaGreatDoor
