/-
  The entries in a row of the call's own: appended to, sorted, read. Plain law.
-/
import Derived.Test.YtfcnmdmbkoekcaaGreatDoorKd
import Derived.Shelf.SlSortCmp.WholeK
import Derived.Sort.OwnSorted
namespace Go.Proofs.Kl
open Go.Sort Go.RowKit
theorem flat_get (d : Array EntB) (t : Nat) (h : t < (flatK encE 4 d).toList.length) : (flatK encE 4 d).toList[t] = (encE d[t / 4]!)[t % 4]! := by
  simp [flatK]
theorem flat_len (d : Array EntB) : (flatK encE 4 d).toList.length = d.size * 4 := by simp
theorem flat_push (out : Array EntB) (x : EntB) : (flatK encE 4 (out.push x)).toList = (flatK encE 4 out).toList ++ encE x := by
  apply List.ext_getElem
  · rw [List.length_append, flat_len, flat_len, Array.size_push]
    show (out.size + 1) * 4 = out.size * 4 + 4
    omega
  · intro t h1 h2
    rw [flat_get]
    by_cases ht : t < out.size * 4
    · rw [List.getElem_append_left (by rw [flat_len]; exact ht), flat_get]
      have h3 : t / 4 < out.size := by omega
      rw [show (out.push x)[t / 4]! = out[t / 4]! by
        rw [getElem!_pos (out.push x) (t / 4) (by rw [Array.size_push]; omega), getElem!_pos out (t / 4) h3, Array.getElem_push_lt h3]]
    · have h4 : t < out.size * 4 + 4 := by
        rw [flat_len, Array.size_push] at h1; omega
      have e1 : t / 4 = out.size := by omega
      rw [List.getElem_append_right (by rw [flat_len]; omega), e1]
      rw [show (out.push x)[out.size]! = x by
        rw [getElem!_pos (out.push x) out.size (by rw [Array.size_push]; omega), Array.getElem_push_eq]]
      have e2 : t % 4 = t - (flatK encE 4 out).toList.length := by rw [flat_len]; omega
      rw [getElem!_pos (encE x) (t % 4) (by show t % 4 < 4; omega)]
      congr 1
theorem SumVal.grown {w w' : World} {row : Option Nat} {v : Value} {l : List (Int × ByteArray)} {g c : Nat} (h : SumVal w v l) (hv : v = .slice (some ⟨g, 0, none⟩) l.length c) (hg : w.grownBy w' row) (hne : some g ≠ row) : SumVal w' v l := by
  obtain ⟨a, cap, hv2, hc⟩ := h
  rw [hv2] at hv
  simp only [Value.slice.injEq, true_and] at hv
  obtain ⟨ha, hcc⟩ := hv
  subst ha hcc
  refine ⟨_, _, hv2, fun x y hxy => ?_⟩
  obtain ⟨b, off, ha, hlt, c0, c1, c2, c3⟩ := hc x y hxy
  obtain ⟨rfl, rfl⟩ : g = b ∧ 0 = off := by
    have := Option.some.inj ha
    simpa using this
  exact ⟨g, 0, rfl, Nat.lt_of_lt_of_le hlt hg.size, hg.cell c0 hne, hg.cell c1 hne, hg.cell c2 hne, hg.cell c3 hne⟩
/-- an entry's sums lie apart from the row v. -/
def EntS (w : World) (v : Value) (x : Ent) : Prop := SumVal w x.sv x.sums ∧ ∃ g c, x.sv = .slice (some ⟨g, 0, none⟩) x.sums.length c ∧ v.ownBlock ≠ some g ∧ g < w.heap.size
theorem EntS.below {w w' : World} {v : Value} {x : Ent} (h : EntS w v x) (hb : Below w.heap.size w w') : EntS w' v x := by
  obtain ⟨h1, g, c, h2, h3, h4⟩ := h
  exact ⟨h1.below hb, g, c, h2, h3, Nat.lt_of_lt_of_le h4 hb.size⟩
theorem EntS.step {w w' : World} {v v' : Value} {x : Ent} (h : EntS w v x) (hg : w.grownBy w' v.ownBlock) (hat : v'.ownBlock = v.ownBlock ∨ v'.ownBlock = some w.heap.size) : EntS w' v' x := by
  obtain ⟨h1, g, c, h2, h3, h4⟩ := h
  refine ⟨h1.grown h2 hg (fun e => h3 e.symm), g, c, h2, ?_, Nat.lt_of_lt_of_le h4 hg.size⟩
  rcases hat with e | e
  · rw [e]; exact h3
  · rw [e]; intro e2; have := Option.some.inj e2; omega
theorem EntS.keep {w w' : World} {row : Option Nat} {v : Value} {x : Ent} (h : EntS w v x) (hg : w.grownBy w' row) (hne : ∀ g n c, x.sv = .slice (some ⟨g, 0, none⟩) n c → some g ≠ row) : EntS w' v x := by
  obtain ⟨h1, g, c, h2, h3, h4⟩ := h
  exact ⟨h1.grown h2 hg (hne _ _ _ h2), g, c, h2, h3, Nat.lt_of_lt_of_le h4 hg.size⟩
theorem below_grown {w w' : World} (h : Below w.heap.size w w') (row : Option Nat) : w.grownBy w' row := ⟨h.os, h.tape, h.output, h.size, fun k hk _ => h.block k hk⟩
theorem holdsK_of_row {w : World} {base g n cap : Nat} {e : TypeId} {out : Array EntB} (h : w.ownsRow base e 4 (.slice (some ⟨g, 0, none⟩) n cap) n (flatK encE 4 out).toList) : HoldsK encE 4 w g 0 out ∧ g < w.heap.size ∧ n = out.size ∧ base ≤ g := by
  have hl : out.size * 4 = n * 4 := by rw [← flat_len]; exact h.1
  obtain ⟨_, ⟨h0, _⟩ | ⟨g', cap', cur, hv, hb, hgg, _, _, _, ht⟩⟩ := h
  · cases h0
  · cases hv
    refine ⟨?_, (Array.getElem?_eq_some_iff.1 hgg).1, by omega, hb⟩
    intro j hj
    refine ⟨?_, by simp [World.frozen?, hgg]⟩
    have hj' : j < n * 4 := by rw [size_flatK] at hj; omega
    have h1 : (cur.toList.take (n * 4))[j]? = (flatK encE 4 out).toList[j]? := by rw [ht]
    rw [List.getElem?_take_of_lt hj'] at h1
    simp only [World.cell?, hgg, Nat.zero_add]
    simp only [Option.isSome_none, Bool.false_eq_true, if_false]
    rw [← Array.getElem?_toList, h1, Array.getElem?_toList, Array.getElem?_eq_getElem hj, getElem!_pos (flatK encE 4 out) j hj]
    rfl
theorem grownBy_sortK {w : World} {g n : Nat} {os : Array Obj} (d : Array EntB) : w.grownBy (sortWorldK encE 4 w g 0 n d os) (some g) := by
  refine ⟨rfl, rfl, rfl, size_sortWorldK_c encE 4 w g 0 n d os, fun k hk hne => ?_⟩
  unfold sortWorldK putRowK
  rw [heap_grow_old _ _ (by simpa using hk)]
  have : g ≠ k := fun e => hne (by rw [e])
  simp [putRow, mapBlock, Sort.ahead, Array.getElem?_modify, this]
theorem krow_sorted {w : World} {g n m c : Nat} {os : Array Obj} {d d' : Array EntB} (hH : HoldsK encE 4 w g 0 d) (hg : g < w.heap.size) (hp : PermIn 0 d.size d d') (hE : ∀ x ∈ d.toList, EntS w (.slice (some ⟨g, 0, none⟩) m c) x.1) :
    KRow (sortWorldK encE 4 w g 0 n d' os) (some ⟨g, 0, none⟩) (d'.toList.map (·.1)) := by
  obtain ⟨h1, _, h3⟩ := hp
  have e1 : d.extract 0 d.size = d := Array.extract_size
  have e2 : d'.extract 0 d.size = d' := by rw [← h1]; exact Array.extract_size
  rw [e1, e2] at h3
  have hK := holdsK_sortWorldK_c encE 4 w g 0 d d' n os hH hg h1
  have hG := grownBy_sortK (w := w) (g := g) (n := n) (os := os) d'
  intro i e he
  rw [List.getElem?_map] at he
  have hi : i < d'.size := by
    by_cases hi : i < d'.size
    · exact hi
    · rw [List.getElem?_eq_none (by simpa using hi)] at he; cases he
  rw [List.getElem?_eq_getElem (by simpa using hi)] at he
  simp only [Option.map_some, Option.some.injEq, Array.getElem_toList] at he
  have hx : d'[i]! = d'[i] := getElem!_pos d' i hi
  have c0 := (hK.cell (c := 0) hi (by omega)).1
  have c1 := (hK.cell (c := 1) hi (by omega)).1
  have c2 := (hK.cell (c := 2) hi (by omega)).1
  have c3 := (hK.cell (c := 3) hi (by omega)).1
  rw [hx] at c0 c1 c2 c3
  have hmem : d'[i] ∈ d.toList := h3.subset (by simp)
  obtain ⟨hs, gg, cc, hsv, hne, _⟩ := hE _ hmem
  rw [he] at hs hsv
  generalize d'[i] = z at *
  subst he
  exact ⟨g, 0, rfl, Nat.lt_of_lt_of_le hg hG.size, c0, c1, c2, c3, hs.grown hsv hG (fun e => hne (show some g = some gg from e.symm))⟩
end Go.Proofs.Kl
