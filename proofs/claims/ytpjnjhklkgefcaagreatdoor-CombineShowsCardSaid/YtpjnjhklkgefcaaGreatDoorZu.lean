/-
  Stores side by side: rows of directories' infos, as they lie; the stable sort of at most eight of them.
-/
import Derived.Test.YtpjnjhklkgefcaaGreatDoorZv
import Derived.Test.YtpjnjhklkgefcaaGreatDoorZr
import Derived.Shelf.SlSortCmp.InsertionK
import Derived.Sort.OwnSorted
import Derived.BigQuiet
import Derived.Laws.OwnMore
set_option linter.unusedVariables false
set_option linter.unusedSimpArgs false
namespace Go.Proofs.YtpjnjhklkgefcaaGreatDoor
open Go.RowKit Go.Sort
/-- the cells of a directory's info. -/
def encI (j : Nat) : List Value := [.string (nmD j), .bool true, .int .i64 0, .int .i64 0, .slice none 0 0, .slice none 0 0, .string ⟨#[]⟩]
theorem flatI_get (d : Array Nat) (t : Nat) (h : t < (flatK encI 7 d).toList.length) : (flatK encI 7 d).toList[t] = (encI d[t / 7]!)[t % 7]! := by
  simp [flatK]
theorem flatI_len (d : Array Nat) : (flatK encI 7 d).toList.length = d.size * 7 := by simp
theorem flatI_push (out : Array Nat) (x : Nat) : (flatK encI 7 (out.push x)).toList = (flatK encI 7 out).toList ++ encI x := by
  apply List.ext_getElem
  · rw [List.length_append, flatI_len, flatI_len, Array.size_push]
    show (out.size + 1) * 7 = out.size * 7 + 7
    omega
  · intro t h1 h2
    rw [flatI_get]
    by_cases ht : t < out.size * 7
    · rw [List.getElem_append_left (by rw [flatI_len]; exact ht), flatI_get]
      have h3 : t / 7 < out.size := by omega
      rw [show (out.push x)[t / 7]! = out[t / 7]! by
        rw [getElem!_pos (out.push x) (t / 7) (by rw [Array.size_push]; omega), getElem!_pos out (t / 7) h3, Array.getElem_push_lt h3]]
    · have h4 : t < out.size * 7 + 7 := by
        rw [flatI_len, Array.size_push] at h1; omega
      have e1 : t / 7 = out.size := by omega
      rw [List.getElem_append_right (by rw [flatI_len]; omega), e1]
      rw [show (out.push x)[out.size]! = x by
        rw [getElem!_pos (out.push x) out.size (by rw [Array.size_push]; omega), Array.getElem_push_eq]]
      have e2 : t % 7 = t - (flatK encI 7 out).toList.length := by rw [flatI_len]; omega
      rw [getElem!_pos (encI x) (t % 7) (by show t % 7 < 7; omega)]
      congr 1
theorem holdsI_of_row {w : World} {base g n cap : Nat} {e : TypeId} {out : Array Nat} (h : w.ownsRow base e 7 (.slice (some ⟨g, 0, none⟩) n cap) n (flatK encI 7 out).toList) : HoldsK encI 7 w g 0 out ∧ g < w.heap.size ∧ n = out.size ∧ base ≤ g := by
  have hl : out.size * 7 = n * 7 := by rw [← flatI_len]; exact h.1
  obtain ⟨_, ⟨h0, _⟩ | ⟨g', cap', cur, hv, hb, hgg, _, _, _, ht⟩⟩ := h
  · cases h0
  · cases hv
    refine ⟨?_, (Array.getElem?_eq_some_iff.1 hgg).1, by omega, hb⟩
    intro j hj
    refine ⟨?_, by simp [World.frozen?, hgg]⟩
    have hj' : j < n * 7 := by rw [size_flatK] at hj; omega
    have h1 : (cur.toList.take (n * 7))[j]? = (flatK encI 7 out).toList[j]? := by rw [ht]
    rw [List.getElem?_take_of_lt hj'] at h1
    simp only [World.cell?, hgg, Nat.zero_add]
    simp only [Option.isSome_none, Bool.false_eq_true, if_false]
    rw [← Array.getElem?_toList, h1, Array.getElem?_toList, Array.getElem?_eq_getElem hj, getElem!_pos (flatK encI 7 out) j hj]
    rfl
theorem kp_sortI {w : World} {g n : Nat} {os : Array Obj} (d : Array Nat) : Kp [g] w (sortWorldK encI 7 w g 0 n d os) := by
  refine ⟨rfl, rfl, rfl, size_sortWorldK_c encI 7 w g 0 n d os, fun k hk hne => ?_⟩
  unfold sortWorldK putRowK
  rw [heap_grow_old _ _ (by simpa using hk)]
  have : g ≠ k := fun e => hne (by rw [e]; simp)
  simp [putRow, mapBlock, Sort.ahead, Array.getElem?_modify, this]
/-- a row of directories' infos, to be read. -/
def IRow (g : Nat) (l : List Nat) (w : World) : Prop := g < w.heap.size ∧ ∀ (i : Nat) j, l[i]? = some j → w.cell? ⟨g, i * 7, none⟩ = some (.string (nmD j)) ∧ w.cell? ⟨g, i * 7 + 1, none⟩ = some (.bool true) ∧ w.cell? ⟨g, i * 7 + 2, none⟩ = some (.int .i64 0) ∧ w.cell? ⟨g, i * 7 + 3, none⟩ = some (.int .i64 0) ∧ w.cell? ⟨g, i * 7 + 4, none⟩ = some (.slice none 0 0) ∧ w.cell? ⟨g, i * 7 + 5, none⟩ = some (.slice none 0 0) ∧ w.cell? ⟨g, i * 7 + 6, none⟩ = some (.string ⟨#[]⟩)
theorem IRow.below {g : Nat} {l : List Nat} {w w' : World} (h : IRow g l w) (k : Below w.heap.size w w') : IRow g l w' :=
  ⟨Nat.lt_of_lt_of_le h.1 k.size, fun i j hj => by
    obtain ⟨c0, c1, c2, c3, c4, c5, c6⟩ := h.2 i j hj
    have e : ∀ x v, w.cell? ⟨g, x, none⟩ = some v → w'.cell? ⟨g, x, none⟩ = some v := fun x v hx => (k.cell (p := ⟨g, x, none⟩) h.1).trans hx
    exact ⟨e _ _ c0, e _ _ c1, e _ _ c2, e _ _ c3, e _ _ c4, e _ _ c5, e _ _ c6⟩⟩
theorem irow_of_holds {w : World} {g : Nat} {d : Array Nat} (h : HoldsK encI 7 w g 0 d) (hg : g < w.heap.size) : IRow g d.toList w := by
  refine ⟨hg, fun i j hj => ?_⟩
  obtain ⟨hi, hx⟩ := List.getElem?_eq_some_iff.1 hj
  have hi' : i < d.size := by simpa using hi
  have e : d[i]! = j := by rw [getElem!_pos d i hi', ← hx]; simp
  have c0 := (h.cell (c := 0) hi' (by omega)).1
  have c1 := (h.cell (c := 1) hi' (by omega)).1
  have c2 := (h.cell (c := 2) hi' (by omega)).1
  have c3 := (h.cell (c := 3) hi' (by omega)).1
  have c4 := (h.cell (c := 4) hi' (by omega)).1
  have c5 := (h.cell (c := 5) hi' (by omega)).1
  have c6 := (h.cell (c := 6) hi' (by omega)).1
  rw [e] at c0 c1 c2 c3 c4 c5 c6
  simp only [Nat.zero_add, Nat.add_zero] at c0 c1 c2 c3 c4 c5 c6
  exact ⟨c0, c1, c2, c3, c4, c5, c6⟩
/-- the row behind the sort. -/
theorem irow_sorted {w : World} {g n : Nat} {os : Array Obj} {js : List Nat} (hH : HoldsK encI 7 w g 0 js.toArray) (hg : g < w.heap.size) :
    IRow g (sortC js) (sortWorldK encI 7 w g 0 n (insertionSort (ltOf cfC) js.toArray 0 js.length) os) := by
  have hs : (insertionSort (ltOf cfC) js.toArray 0 js.length).size = js.toArray.size := (insertionSort_holds swoC js.toArray 0 js.length (Nat.zero_le _) (by simp)).1.1
  exact irow_of_holds (holdsK_sortWorldK_c encI 7 w g 0 js.toArray _ n os hH hg hs) (Nat.lt_of_lt_of_le hg (size_sortWorldK_c encI 7 w g 0 n _ os))
theorem flatI_cell {l : List Nat} {i j : Nat} (h : l[i]? = some j) : (flatK encI 7 l.toArray).toList[i * 7]? = some (.string (nmD j)) := by
  obtain ⟨hi, hx⟩ := List.getElem?_eq_some_iff.1 h
  have hlt : i * 7 < (flatK encI 7 l.toArray).toList.length := by rw [flatI_len]; simp; omega
  rw [List.getElem?_eq_getElem hlt, flatI_get, show i * 7 / 7 = i by omega, show i * 7 % 7 = 0 by omega, getElem!_pos l.toArray i (by simpa using hi)]
  simp [hx, encI]
theorem own_slice {w : World} {base size n : Nat} {e : TypeId} {v : Value} {xs : List Value} (h : w.ownsRow base e size v n xs) : ∃ a c, v = .slice a n c := by
  rcases h.2 with ⟨rfl, rfl⟩ | ⟨g, c, _, rfl, _⟩
  · exact ⟨none, 0, rfl⟩
  · exact ⟨_, c, rfl⟩
theorem own_mono {w : World} {base base' size n : Nat} {e : TypeId} {v : Value} {xs : List Value} (h : w.ownsRow base e size v n xs) (hb : base' ≤ base) : w.ownsRow base' e size v n xs := by
  obtain ⟨h1, h2⟩ := h
  refine ⟨h1, ?_⟩
  rcases h2 with h2 | ⟨g, c, cur, h3, h4, h5⟩
  · exact Or.inl h2
  · exact Or.inr ⟨g, c, cur, h3, Nat.le_trans hb h4, h5⟩
theorem below_grown {w w' : World} (h : Below w.heap.size w w') (row : Option Nat) : w.grownBy w' row := ⟨h.os, h.tape, h.output, h.size, fun k hk _ => h.block k hk⟩
theorem own_belC {w w' : World} {base size n : Nat} {e : TypeId} {v : Value} {xs : List Value} (h : w.ownsRow base e size v n xs) (hb : Below w.heap.size w w') : w'.ownsRow base e size v n xs :=
  h.kept (below_grown hb none) (Classical.em _)
theorem below_drwN {B : Nat} {w w' : World} (h : Below B w w') (q : Nat) : Below B w (w'.drewN q) := ⟨h.os, h.tape, h.output, by simpa using h.size, fun i hi => by simpa using h.block i hi⟩
theorem kp_of_grown {w w' : World} {v : Value} (h : w.grownBy w' v.ownBlock) : Kp v.ownBlock.toList w w' :=
  ⟨h.os, h.tape, h.output, h.size, fun k hk hn => h.block k hk (fun e => hn (by rw [← e]; simp))⟩
theorem infoI7 : (Tryz.prog.info? 53).map (fun i => (i.zero, i.size, i.bytes)) = some (some (.agg #[.string ⟨#[]⟩, .bool false, .int .i64 0, .int .i64 0, .slice none 0 0, .slice none 0 0, .string ⟨#[]⟩]), 7, 104) := by kernel_rfl
theorem seven_new (w : World) (t : TypeId) (a b c d e f g : Value) : ∀ j u, [a, b, c, d, e, f, g][j]? = some u → (w.alloc (.cells #[a, b, c, d, e, f, g] t)).cell? ((⟨w.heap.size, 0, none⟩ : Addr).add j) = some u := by
  intro j u h
  have hadd : (⟨w.heap.size, 0, none⟩ : Addr).add j = ⟨w.heap.size, j, none⟩ := by unfold Addr.add; split <;> simp_all
  rw [hadd, (Blk.new w t #[a, b, c, d, e, f, g]).cell j]
  simpa using h
theorem grow_twoI (W : World) (o1 o2 : Obj) (q : Nat) : ((W.alloc o1).alloc o2).drewN q = Sort.grow (W.drewN q) #[o1, o2] := by
  rw [Sort.alloc_eq_grow, Sort.alloc_eq_grow, Sort.grow_grow]
  rfl
set_option maxRecDepth 100000 in
set_option maxHeartbeats 4000000 in
theorem lastName_ok (s : ByteArray) (w : World) (hs : s.size ≤ 1000000) (h : Lib.lastIndexByte s 47 = -1) : Calls Tryz.prog 262 #[.string s] w fun e w' => e = .returned (.string s) ∧ w' = w := by
  have HL := Lib.hid (fun w => Tryz.strings_LastIndexByte s 47 (by omega) w)
  rw [h] at HL
  clear h
  go_enter Tryz.func262, Tryz.ntmps262
  go_wp2_with fail
  refine (HL.out _).mono ?_
  rintro e w1 ⟨rfl, rfl⟩
  go_wp2_with fail
  go_ret
  exact ⟨by simp, rfl⟩
theorem nmD_last' (j : Nat) : Lib.lastIndexByte (nmD j) 47 = -1 := by
  rw [nmD_min j]; exact nmD_last _ (by omega)
theorem nmD_size' (j : Nat) : (nmD j).size ≤ 3 := by
  rw [nmD_min j]; exact nmD_size _ (by omega)
set_option maxRecDepth 100000 in
set_option maxHeartbeats 4000000 in
theorem cmpInfo_ok (x y : Nat) (W : World) : Calls Tryz.prog 261 #[.agg (encI x).toArray, .agg (encI y).toArray] W fun e w' => e = .returned (.int .i64 (cfC x y)) ∧ ∃ q os', w' = Sort.grow (W.drewN q) os' := by
  show Calls Tryz.prog 261 #[.agg #[.string (nmD x), .bool true, .int .i64 0, .int .i64 0, .slice none 0 0, .slice none 0 0, .string ⟨#[]⟩], .agg #[.string (nmD y), .bool true, .int .i64 0, .int .i64 0, .slice none 0 0, .slice none 0 0, .string ⟨#[]⟩]] W fun e w' => e = .returned (.int .i64 (Lib.compareBytes (nmD x).data.toList (nmD y).data.toList)) ∧ ∃ q os', w' = Sort.grow (W.drewN q) os'
  have hx := nmD_size' x
  have hy := nmD_size' y
  have CX := Lib.hid (fun w => lastName_ok (nmD x) w (by omega) (nmD_last' x))
  have CY := Lib.hid (fun w => lastName_ok (nmD y) w (by omega) (nmD_last' y))
  have CC := Lib.hid (fun w => Tryz.strings_Compare (nmD x) (nmD y) w)
  generalize nmD x = s at *
  generalize nmD y = t at *
  generalize Lib.compareBytes s.data.toList t.data.toList = cm at *
  clear hx hy
  go_enter Tryz.func261, Tryz.ntmps261
  go_wp2_with fail
  go_quiet ((first
    | (go_at_call 262; first | exact Calls.quiet_of_same (CX.out _) | exact Calls.quiet_of_same (CY.out _))
    | (go_at_call 223; exact Calls.quiet_of_same (CC.out _))))
  go_wp2_with fail
  go_ret
  exact ⟨rfl, _, _, grow_twoI _ _ _ _⟩
end Go.Proofs.YtpjnjhklkgefcaaGreatDoor
