import Derived.Test.YtnjmcppljbkhnaaFo
import Derived.Test.YtnjmcppljbkhnaaRows
import Derived.ProofKit
import Derived.OpenShut
import Derived.SliceStrings
import Derived.Lib.SmallJoins
import Derived.Deep.Slices
import Derived.Deep.Fields
set_option linter.unusedVariables false
set_option linter.unusedSimpArgs false
namespace Go.Proofs.Ytnjmcppljbkhnaa
open Go.ChangeShapes Go.WideShapes Go.RowKit Go.Deep
/-- the slice has the texts xs. -/
def TRow (w : World) (a : Option Addr) (xs : List ByteArray) : Prop := xs = [] ∨ ∃ bk o, a = some ⟨bk, o, none⟩ ∧ bk < w.heap.size ∧ ∀ (j : Nat) x, xs[j]? = some x → w.cell? ⟨bk, o + j, none⟩ = some (.string x)
theorem TRow.below {w w' : World} {a : Option Addr} {xs : List ByteArray} {B : Nat} (h : TRow w a xs) (hb : Below B w w') (hB : w.heap.size ≤ B) : TRow w' a xs := by
  rcases h with h | ⟨bk, o, rfl, hk, hc⟩
  · exact Or.inl h
  · exact Or.inr ⟨bk, o, rfl, Nat.lt_of_lt_of_le hk hb.size, fun j x hj => (hb.cell (p := ⟨bk, o + j, none⟩) (Nat.lt_of_lt_of_le hk hB)).trans (hc j x hj)⟩
section
variable {H : Type} {enc : TypeId × Value → H} {P : Program} {w : World} {base : Nat} {spare : Nat → Bool} {held : Bool}
theorem bulk_strs (ss : List ByteArray) : (catS ss).size + ss.length ≤ Rows.uptoBulkAll (strs (H := H) ss) := by
  induction ss with
  | nil => exact Nat.zero_le _
  | cons s r ih =>
    have e : (catS (s :: r)).size = s.size + (catS r).size := by
      have h : catS (s :: r) = s ++ catS r := by apply ByteArray.ext; simp [catS]
      rw [h, ByteArray.size_append]
    have e2 : s.data.toList.length = s.size := by rw [Array.length_toList]; rfl
    rw [e]
    have hx : strs (H := H) (s :: r) = .lit (.string s.data.toList) :: strs r := rfl
    rw [hx]
    simp only [Rows.uptoBulkAll, Rows.uptoBulk, List.length_cons]
    omega
/-- a slice of texts that came in. -/
theorem open_pieces {r : Reach} {b0 : Nat} {t e : TypeId} {v : Value} {d : DataW H} {p : List MemPlace} (ht : P.underlying t = some (.slice e)) (he : P.underlying e = some .string) (hC : P.cellsOf e = 1)
    (hv : Value.okWide P w r b0 t v) (h : DataW.Trod enc P w base spare held t v d p) :
    ∃ (a : Option Addr) (xs : List ByteArray) (cap : Nat), v = .slice a xs.length cap ∧ xs.length ≤ cap ∧ cap ≤ maxLen ∧ TRow w a xs ∧ (catS xs).size + xs.length ≤ Rows.uptoBulk d := by
  obtain ⟨a0, len, cap, rfl⟩ := okWide_slice ht hv
  obtain ⟨fuel, hf⟩ := h
  rcases open_strings ht he hC hf with ⟨hcs, _⟩ | ⟨a, len', cap', ss, hcs, hb, hl, hm, hlen, hx, hcell, hsz⟩
  · simp [Value.cells] at hcs
    obtain ⟨rfl, rfl, rfl⟩ := hcs
    exact ⟨none, [], 0, rfl, Nat.le_refl _, by simp, Or.inl rfl, Nat.zero_le _⟩
  · simp [Value.cells] at hcs
    obtain ⟨rfl, rfl, rfl⟩ := hcs
    have hlz : len ≤ ss.length := by rw [hlen]; split <;> omega
    have hxl : (ss.take len).length = len := by simp; omega
    have hd : d = .slice (strs (ss.take len)) (strs (ss.drop len)) := congrArg Prod.fst hx
    refine ⟨some a, ss.take len, cap, by rw [hxl], by rw [hxl]; exact hl, hm, ?_, ?_⟩
    · by_cases h0 : len = 0
      · left; rw [h0]; rfl
      · right
        obtain ⟨b, off, sp⟩ := a
        have hsp : sp = none := by
          have k3 := hcell 0 (by omega)
          simpa [Addr.add] using World.cell?_spot k3
        subst hsp
        have key : ∀ i, i < ss.length → w.cell? ⟨b, off + i, none⟩ = some (.string (ss.getD i ByteArray.empty)) := by
          intro i hi
          have e1 : (Addr.add ⟨b, off, none⟩ i) = ⟨b, off + i, none⟩ := by
            unfold Addr.add
            by_cases hz : i = 0 <;> simp [hz]
          exact (congrArg w.cell? e1).symm.trans (hcell i hi)
        refine ⟨b, off, rfl, ?_, fun j x hj => ?_⟩
        · have k3 := key 0 (by omega)
          rcases Nat.lt_or_ge b w.heap.size with g | g
          · exact g
          · rw [World.cell?] at k3
            simp [Array.getElem?_eq_none g] at k3
        · have hjl : j < (ss.take len).length := by
            rcases Nat.lt_or_ge j (ss.take len).length with g | g
            · exact g
            · rw [List.getElem?_eq_none g] at hj; cases hj
          rw [hxl] at hjl
          rw [List.getElem?_take_of_lt hjl] at hj
          rw [key j (by omega), List.getD_eq_getElem?_getD, hj]
          rfl
    · have h1 := bulk_strs (H := H) (ss.take len)
      rw [hd]
      simp only [Rows.uptoBulk]
      omega
/-- three keys that came in. -/
theorem open_keys3 {r : Reach} {b0 : Nat} {t : TypeId} {f0 f1 f2 : Field} {v : Value} {d : DataW H} {p : List MemPlace} (hs : P.underlying t = some (.struct #[f0, f1, f2])) (hone : oneCellFields P #[f0, f1, f2] = true) (hC : P.cellsOf t = 3)
    (h0 : P.underlying f0.type = some .string) (h1 : P.underlying f1.type = some .string) (h2 : P.underlying f2.type = some .string)
    (hv : Value.okWide P w r b0 t v) (h : DataW.Trod enc P w base spare held t v d p) :
    ∃ c n k : ByteArray, v = .agg #[.string c, .string n, .string k] ∧ c.size ≤ maxLen ∧ n.size ≤ maxLen ∧ k.size ≤ maxLen := by
  obtain ⟨v0, v1, v2, y0, y1, y2, m, rfl, rfl, rfl, g0, g1, g2⟩ := Go.Joins.open_agg3 hs hone hC hv h
  obtain ⟨s0, e0, _, z0⟩ := DataW.trod_string h0 g0
  obtain ⟨s1, e1, _, z1⟩ := DataW.trod_string h1 g1
  obtain ⟨s2, e2, _, z2⟩ := DataW.trod_string h2 g2
  simp only [List.cons.injEq, and_true] at e0 e1 e2
  exact ⟨s0, s1, s2, by rw [e0, e1, e2], z0, z1, z2⟩
end
/-- strings.Join with nothing between. -/
theorem join34 (a : Option Addr) (c : Nat) (xs : List ByteArray) (w : World) (hx : TRow w a xs) (hN : xs.length ≤ 140737488355328) (hcap : xs.length ≤ c) (hlen : (catS xs).size ≤ 140737488355328) :
    Calls Try.prog 34 #[.slice a xs.length c, .string ⟨#[]⟩] w fun e w' => e = .returned (.string (catS xs)) ∧ Below w.heap.size w w' := by
  have hj : Lib.join (xs.map (·.data.toList)) (⟨#[]⟩ : ByteArray).data.toList = (xs.map (·.data.toList)).flatten := by
    show Lib.join _ [] = _
    unfold Lib.join
    exact inter_nil _
  rcases hx with rfl | ⟨bk, o, rfl, hbk, hcells⟩
  · refine (Try.strings_Join_none a c ⟨#[]⟩ w).mono fun e w' q => ?_
    obtain ⟨rfl, rfl⟩ := q
    exact ⟨rfl, Below.refl _ _⟩
  · have h := Try.strings_Join bk o c xs ⟨#[]⟩ w hcells hbk hN hcap (by rw [hj]; simpa [catS, ByteArray.size] using hlen)
    rw [show (⟨(Lib.join (xs.map (·.data.toList)) (⟨#[]⟩ : ByteArray).data.toList).toArray⟩ : ByteArray) = catS xs from by rw [hj]; rfl] at h
    exact h
theorem catS_append (l r : List ByteArray) : catS (l ++ r) = catS l ++ catS r := by
  apply ByteArray.ext
  simp [catS]
theorem catS_one (t : ByteArray) : catS [t] = t := by
  apply ByteArray.ext
  simp [catS]
theorem catS_next (xs : List ByteArray) (i : Nat) (t : ByteArray) (h : xs[i]? = some t) : catS (xs.take (i + 1)) = catS (xs.take i) ++ t := by
  rw [List.take_add_one, h, catS_append]
  show _ ++ catS [t] = _
  rw [catS_one]
theorem catS_split (xs : List ByteArray) (i : Nat) : catS xs = catS (xs.take i) ++ catS (xs.drop i) := by
  rw [← catS_append, List.take_append_drop]
/-- the keys in a box that the call made. -/
def KB (w0 : World) (c n t : ByteArray) (w : World) : Prop := Below w0.heap.size w0 w ∧ w0.heap.size + 1 ≤ w.heap.size ∧ w.cell? ⟨w0.heap.size, 0, none⟩ = some (.string c) ∧ w.cell? ⟨w0.heap.size, 1, none⟩ = some (.string n) ∧ w.cell? ⟨w0.heap.size, 2, none⟩ = some (.string t)
theorem KB.below {w0 w w' : World} {c n t : ByteArray} {B : Nat} (h : KB w0 c n t w) (hb : Below B w w') (hB : w0.heap.size + 1 ≤ B) : KB w0 c n t w' := by
  obtain ⟨h1, h2, h3, h4, h5⟩ := h
  exact ⟨h1.trans (hb.mono (by omega)), Nat.le_trans h2 hb.size, (hb.cell (p := ⟨w0.heap.size, 0, none⟩) (by show w0.heap.size < B; omega)).trans h3, (hb.cell (p := ⟨w0.heap.size, 1, none⟩) (by show w0.heap.size < B; omega)).trans h4, (hb.cell (p := ⟨w0.heap.size, 2, none⟩) (by show w0.heap.size < B; omega)).trans h5⟩
theorem KB.drew {w0 w : World} {c n t : ByteArray} (h : KB w0 c n t w) : KB w0 c n t w.drew := h.below ((Below.refl w.heap.size w).drew) h.2.1
theorem KB.alloc {w0 w : World} {c n t : ByteArray} (h : KB w0 c n t w) (x : _) : KB w0 c n t (w.alloc x) := h.below ((Below.refl w.heap.size w).alloc (Nat.le_refl _) x) h.2.1
theorem KB.only {w0 w w' : World} {c n t : ByteArray} {g : Nat} (h : KB w0 c n t w) (ho : w.grownBy w' (some g)) (hg : w0.heap.size + 1 ≤ g) : KB w0 c n t w' := h.below (below_grown (Below.refl (w0.heap.size + 1) w) ho hg h.2.1) (Nat.le_refl _)
theorem KB.new (w0 : World) (c n t : ByteArray) : KB w0 c n t (w0.alloc (.cells #[.string c, .string n, .string t] 60)) := by
  have HN := Blk.new w0 60 #[.string c, .string n, .string t]
  exact ⟨(Below.refl w0.heap.size w0).alloc (Nat.le_refl _) _, by simp, HN.cell 0, HN.cell 1, HN.cell 2⟩
end Go.Proofs.Ytnjmcppljbkhnaa
