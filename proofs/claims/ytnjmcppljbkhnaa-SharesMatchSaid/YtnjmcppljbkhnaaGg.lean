import Derived.Test.YtnjmcppljbkhnaaGe
set_option linter.unusedVariables false
set_option linter.unusedSimpArgs false
namespace Go.Proofs.Ytnjmcppljbkhnaa
open Go.RowKit

/-- shares in memory, whatever their numbers. -/
def SRowI (w : World) (B : Nat) (a : Option Addr) (n : Nat) (X : Nat → Int) (D : Nat → ByteArray) : Prop :=
  ∀ i, i < n → ∃ b off, a = some ⟨b, off, none⟩ ∧ b < B ∧ w.cell? ⟨b, off + i * 2, none⟩ = some (.int .i64 (X i)) ∧ w.cell? ⟨b, off + i * 2 + 1, none⟩ = some (.string (D i))
theorem SRowI.below {w w' : World} {B : Nat} {a : Option Addr} {n : Nat} {X : Nat → Int} {D : Nat → ByteArray} (h : SRowI w B a n X D) (hb : Below B w w') : SRowI w' B a n X D := by
  intro i hi
  obtain ⟨b, off, e, hB, h1, h2⟩ := h i hi
  exact ⟨b, off, e, hB, (hb.cell (p := ⟨b, off + i * 2, none⟩) hB).trans h1, (hb.cell (p := ⟨b, off + i * 2 + 1, none⟩) hB).trans h2⟩
def xN (X : Nat → Int) : Nat → Nat := fun i => (X i).toNat % 256
theorem xN_lt (X : Nat → Int) (i : Nat) : xN X i < 256 := Nat.mod_lt _ (by decide)
theorem SRowI.nat {w : World} {B : Nat} {a : Option Addr} {n : Nat} {X : Nat → Int} {D : Nat → ByteArray} (h : SRowI w B a n X D) (hX : ∀ i, i < n → 1 ≤ X i ∧ X i ≤ 255) : SRow w B a n (xN X) D := by
  intro i hi
  obtain ⟨b, off, e, hB, h1, h2⟩ := h i hi
  have := hX i hi
  have e2 : ((xN X i : Nat) : Int) = X i := by unfold xN; omega
  exact ⟨b, off, e, hB, by rw [e2]; exact h1, h2⟩
def twiceB (X : Nat → Int) (i : Nat) : Bool := (List.range i).any fun j => X j == X i
def eltE (X : Nat → Int) (D : Nat → ByteArray) (i : Nat) : Int :=
  if ¬ (1 ≤ X i ∧ X i ≤ 255) then 7 else if twiceB X i = true then 4 else if (D i).size = 0 ∨ 1024 < (D i).size ∨ (D i).size ≠ (D 0).size then 6 else 0
def scanE (X : Nat → Int) (D : Nat → ByteArray) (base : Int) : Nat → Int
  | 0 => base
  | k + 1 => if scanE X D base k = 0 then eltE X D k else scanE X D base k
def baseE (need : Int) (len : Nat) : Int := if ¬ (1 ≤ need ∧ need ≤ 255) then 7 else if (len : Int) < need then 3 else if 255 < len then 8 else 0
theorem scanE_stay (X : Nat → Int) (D : Nat → ByteArray) (base : Int) (k m : Nat) (h : scanE X D base k ≠ 0) : scanE X D base (k + m) = scanE X D base k := by
  induction m with
  | zero => rfl
  | succ m ih =>
    show (if scanE X D base (k + m) = 0 then eltE X D (k + m) else scanE X D base (k + m)) = _
    rw [ih, if_neg h]
theorem scanE_stop (X : Nat → Int) (D : Nat → ByteArray) (k len : Nat) (e : Int) (hk : k < len) (h0 : scanE X D 0 k = 0) (he : eltE X D k = e) (hne : e ≠ 0) : scanE X D 0 len = e := by
  have h1 : scanE X D 0 (k + 1) = e := by
    show (if scanE X D 0 k = 0 then eltE X D k else scanE X D 0 k) = _
    rw [if_pos h0, he]
  obtain ⟨m, rfl⟩ := Nat.exists_eq_add_of_le (show k + 1 ≤ len by omega)
  rw [scanE_stay X D 0 (k + 1) m (by rw [h1]; exact hne), h1]
theorem scanE_next (X : Nat → Int) (D : Nat → ByteArray) (k : Nat) (h0 : scanE X D 0 k = 0) (he : eltE X D k = 0) : scanE X D 0 (k + 1) = 0 := by
  show (if scanE X D 0 k = 0 then eltE X D k else scanE X D 0 k) = _
  rw [if_pos h0, he]
theorem scanE_base (X : Nat → Int) (D : Nat → ByteArray) (base : Int) (k : Nat) (h : base ≠ 0) : scanE X D base k = base := by
  have := scanE_stay X D base 0 k h
  rwa [Nat.zero_add] at this
theorem scanE_all (X : Nat → Int) (D : Nat → ByteArray) (len : Nat) (h : scanE X D 0 len = 0) : ∀ i, i < len → eltE X D i = 0 := by
  induction len with
  | zero => intro i hi; omega
  | succ k ih =>
    have h' : (if scanE X D 0 k = 0 then eltE X D k else scanE X D 0 k) = 0 := h
    by_cases h0 : scanE X D 0 k = 0
    · rw [if_pos h0] at h'
      intro i hi
      by_cases e : i = k
      · subst e; exact h'
      · exact ih h0 i (by omega)
    · rw [if_neg h0] at h'; exact absurd h' h0
theorem eltE_ok (X : Nat → Int) (D : Nat → ByteArray) (i : Nat) (h : eltE X D i = 0) : (1 ≤ X i ∧ X i ≤ 255) ∧ twiceB X i = false ∧ (D i).size ≠ 0 ∧ (D i).size ≤ 1024 ∧ (D i).size = (D 0).size := by
  unfold eltE at h
  split at h
  · cases h
  · rename_i h1
    split at h
    · cases h
    · rename_i h2
      split at h
      · cases h
      · rename_i h3
        refine ⟨Decidable.of_not_not h1, by simpa using h2, ?_, ?_, ?_⟩ <;> omega
theorem twice_no (X : Nat → Int) (i : Nat) (h : twiceB X i = false) : ∀ j, j < i → X j ≠ X i := by
  intro j hj e
  have : twiceB X i = true := by
    unfold twiceB
    rw [List.any_eq_true]
    exact ⟨j, by simpa using hj, by simpa using e⟩
  rw [h] at this; cases this
theorem shares_fit (X : Nat → Int) (D : Nat → ByteArray) (len : Nat) (h : scanE X D 0 len = 0) :
    (∀ i, i < len → 1 ≤ X i ∧ X i ≤ 255) ∧ (∀ i, i < len → (D i).size = (D 0).size) ∧ (∀ i k, i < len → k < len → xN X i = xN X k → i = k) ∧ (0 < len → (D 0).size ≤ 1024) := by
  have ha := scanE_all X D len h
  have hr : ∀ i, i < len → 1 ≤ X i ∧ X i ≤ 255 := fun i hi => (eltE_ok X D i (ha i hi)).1
  refine ⟨hr, fun i hi => (eltE_ok X D i (ha i hi)).2.2.2.2, ?_, fun h0 => (eltE_ok X D 0 (ha 0 h0)).2.2.2.1⟩
  intro i k hi hk e
  have h1 := hr i hi
  have h2 := hr k hk
  have hX : X i = X k := by unfold xN at e; omega
  rcases Nat.lt_trichotomy i k with hlt | heq | hgt
  · exact absurd hX (twice_no X k (eltE_ok X D k (ha k hk)).2.1 i hlt)
  · exact heq
  · exact absurd hX.symm (twice_no X i (eltE_ok X D i (ha i hi)).2.1 k hgt)
/-- which numbers were seen. -/
def seenF (X : Nat → Int) (k : Nat) (x : Nat) : Bool := (List.range k).any fun j => X j == (x : Int)
theorem seenF_twice (X : Nat → Int) (k x : Nat) (h : X k = (x : Int)) : seenF X k x = twiceB X k := by unfold seenF twiceB; rw [h]
theorem seenF_succ (X : Nat → Int) (k x y : Nat) (h : X k = (x : Int)) : seenF X (k + 1) y = if y = x then true else seenF X k y := by
  unfold seenF
  rw [List.range_succ, List.any_append]
  by_cases e : y = x
  · subst e; simp [h]
  · have : ((x : Int) == (y : Int)) = false := by simp; omega
    simp [h, e, this]
def Seen (w : World) (g : Nat) (f : Nat → Bool) : Prop := g < w.heap.size ∧ ∀ x, x < 256 → w.cell? ⟨g, x, none⟩ = some (.bool (f x)) ∧ w.frozen? ⟨g, x, none⟩ = false
theorem Seen.set {w : World} {g : Nat} {f f' : Nat → Bool} (h : Seen w g f) (x : Nat) (hx : x < 256) (hf : ∀ y, f' y = if y = x then true else f y) : Seen (w.setCell ⟨g, x, none⟩ (.bool true)) g f' := by
  refine ⟨by simpa [World.setCell] using h.1, fun j hj => ⟨?_, ?_⟩⟩
  · rw [hf j]
    by_cases e : j = x
    · subst e
      rw [World.cell?_setCell_same' _ _ _ (by rw [(h.2 j hj).1]; rfl)]
      simp
    · rw [World.cell?_setCell_other _ _ _ _ (by intro hh; injection hh with _ h2 _; exact e h2.symm), (h.2 j hj).1]
      simp [e]
  · rw [World.frozen?_setCell]; exact (h.2 j hj).2
theorem Seen.below {w w' : World} {g B : Nat} {f : Nat → Bool} (h : Seen w g f) (hb : Below B w w') (hg : g < B) : Seen w' g f :=
  ⟨Nat.lt_of_lt_of_le h.1 hb.size, fun i hi => ⟨(hb.cell (p := ⟨g, i, none⟩) hg).trans (h.2 i hi).1, (hb.frozen (p := ⟨g, i, none⟩) hg).trans (h.2 i hi).2⟩⟩
theorem Seen.drewN {w : World} {g : Nat} {f : Nat → Bool} (h : Seen w g f) (n : Nat) : Seen (w.drewN n) g f := h
theorem Seen_new (w : World) (t : TypeId) (X : Nat → Int) : Seen (w.alloc (.cells (Array.replicate 256 (.bool false)) t)) w.heap.size (seenF X 0) := by
  refine ⟨by simp, fun x hx => ⟨?_, (Blk.new w t _).frozen x⟩⟩
  rw [(Blk.new w t _).cell x]
  simp [hx, seenF]
def SPost (X : Nat → Int) (D : Nat → ByteArray) (n : Int) (len : Nat) (w : World) (e : Ending) (w' : World) : Prop :=
  ((scanE X D (baseE n len) len ≠ 0 ∧ e = .returned (.tuple #[.string ByteArray.empty, .int .i64 (scanE X D (baseE n len) len)])) ∨
   (scanE X D (baseE n len) len = 0 ∧ Good (xN X) D n.toNat len (D 0).size ∧ e = .returned (.tuple #[.string (vS (xN X) D n.toNat 0 (D 0).size), .int .i64 0])) ∨
   (scanE X D (baseE n len) len = 0 ∧ ¬ Good (xN X) D n.toNat len (D 0).size ∧ e = .returned (.tuple #[.string ByteArray.empty, .int .i64 18]))) ∧ Below w.heap.size w w'
theorem strB_at (s : ByteArray) : strB s.size (at8 s) = s := by
  apply ByteArray.ext
  unfold strB
  apply Array.ext'
  apply List.ext_getElem (by simp)
  intro i h1 h2
  simp at h1 h2
  simp [at8, List.getD_eq_getElem?_getD, h1]
theorem strB_eq (m : Nat) (f : Nat → Nat) (s : ByteArray) (hs : s.size = m) (hf : ∀ j, f j < 256) : strB m f = s ↔ ∀ j, j < m → f j = at8 s j := by
  constructor
  · intro h j hj
    rw [← h, at8_strB m f j hj (hf j)]
  · intro h
    rw [← strB_at s, hs]
    exact strB_congr h
set_option maxRecDepth 100000 in
set_option maxHeartbeats 2000000 in
theorem secret26_base (a : Option Addr) (ca len : Nat) (X : Nat → Int) (D : Nat → ByteArray) (n : Int) (w : World) (hlen : len ≤ maxLen) (hb : baseE n len ≠ 0) :
    Calls Try.prog 26 #[.slice a len ca, .int .i64 n] w (SPost X D n len w) := by
  have HP := Lib.hid (fun e (he : e = baseE n len) => show SPost X D n len w (.returned (.tuple #[.string ByteArray.empty, .int .i64 e])) w from ⟨Or.inl ⟨by rw [scanE_base _ _ _ _ hb]; exact hb, by rw [scanE_base _ _ _ _ hb, he]⟩, Below.refl _ _⟩)
  unfold maxLen at hlen
  by_cases h1 : n < 1
  · have HE := Lib.hid (show (7 : Int) = baseE n len from by unfold baseE; rw [if_pos (by omega)])
    clear hb
    go_enter Try.func26, Try.ntmps26
    go_wp2_with fail
    go_ret2
    exact HP.out 7 HE.out
  · by_cases h2 : 255 < n
    · have HE := Lib.hid (show (7 : Int) = baseE n len from by unfold baseE; rw [if_pos (by omega)])
      clear hb
      go_enter Try.func26, Try.ntmps26
      go_wp2_with fail
      go_ret2
      exact HP.out 7 HE.out
    · by_cases h3 : (len : Int) < n
      · have HE := Lib.hid (show (3 : Int) = baseE n len from by unfold baseE; rw [if_neg (by omega), if_pos h3])
        clear hb
        go_enter Try.func26, Try.ntmps26
        go_wp2_with fail
        go_ret2
        exact HP.out 3 HE.out
      · by_cases h4 : 255 < len
        · have h5 : (255 : Int) < (len : Int) := by omega
          have HE := Lib.hid (show (8 : Int) = baseE n len from by unfold baseE; rw [if_neg (by omega), if_neg h3, if_pos h4])
          clear hb
          go_enter Try.func26, Try.ntmps26
          go_wp2_with fail
          go_ret2
          exact HP.out 8 HE.out
        · exact absurd (by unfold baseE; rw [if_neg (by omega), if_neg h3, if_neg h4]) hb
end Go.Proofs.Ytnjmcppljbkhnaa
