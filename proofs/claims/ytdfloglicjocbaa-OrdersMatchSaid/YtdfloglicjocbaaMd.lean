import Derived.Test.YtdfloglicjocbaaMc
import Derived.Test.YtdfloglicjocbaaShP
import Derived.Shelf.SlSortCmp.NoneTotal
import Derived.Lib.OwnBridge
import Derived.Lib.AppendIntMem
set_option linter.unusedVariables false
set_option linter.unusedSimpArgs false
namespace Go.Proofs.Ytdfloglicjocbaa
open Go.RowKit Go.Sort Go.Shelf Go.Lib

/-- a pair as the sort's elements: its first number held below the most. -/
def encP (p : Nat × Nat) : List Value := [.int .i64 ((min p.1 1048576 : Nat) : Int), .int .i64 (p.2 : Int)]
def cfP (a b : Nat × Nat) : Int := ((min a.1 1048576 : Nat) : Int) - ((min b.1 1048576 : Nat) : Int)
def castP (p : Nat × Nat) : Int × Int := ((p.1 : Int), (p.2 : Int))
theorem ltP (x y : Nat × Nat) : ltOf cfP x y = decide (min x.1 1048576 < min y.1 1048576) := by
  unfold ltOf cfP
  rw [Bool.eq_iff_iff, decide_eq_true_eq, decide_eq_true_eq]
  generalize min x.1 1048576 = a
  generalize min y.1 1048576 = b
  omega
theorem swoP : SWO (ltOf cfP) where
  irrefl x := by rw [ltP]; simp
  trans x y z h1 h2 := by rw [ltP, decide_eq_true_eq] at *; omega
  ntrans x y z h1 h2 := by rw [ltP, decide_eq_false_iff_not] at *; omega

set_option maxHeartbeats 400000 in
theorem closure67 (x y u v : Int) (w : World) (hx : 0 ≤ x) (hx1 : x ≤ 1048576) (hu : 0 ≤ u) (hu1 : u ≤ 1048576) :
    Calls Try.prog 67 #[.agg #[.int .i64 x, .int .i64 y], .agg #[.int .i64 u, .int .i64 v]] w fun e w' => e = .returned (.int .i64 (x - u)) ∧ (w.alloc (.cells #[.int .i64 x, .int .i64 y] 40)).alloc (.cells #[.int .i64 u, .int .i64 v] 40) = w' := by
  go_enter Try.func67, Try.ntmps67
  go_wp2_with fail
  go_ret
  exact ⟨rfl, rfl⟩
theorem cmpP (blk off size : Nat) (w : World) : CmpLays Try.prog 67 #[] encP 2 cfP blk off size w := by
  intro m os dk hs x y
  refine (closure67 ((min x.1 1048576 : Nat) : Int) (x.2 : Int) ((min y.1 1048576 : Nat) : Int) (y.2 : Int) _ (by omega) (by omega) (by omega) (by omega)).mono ?_
  rintro e w' ⟨rfl, rfl⟩
  refine ⟨rfl, 0, #[.cells #[.int .i64 ((min x.1 1048576 : Nat) : Int), .int .i64 (x.2 : Int)] 40 (0, 0), .cells #[.int .i64 ((min y.1 1048576 : Nat) : Int), .int .i64 (y.2 : Int)] 40 (0, 0)], ?_⟩
  rw [alloc_eq_grow, alloc_eq_grow, grow_grow]
  rfl

theorem getElem!_eq_of {l : List Value} {i : Nat} {v : Value} (h : l[i]? = some v) : l[i]! = v := by
  rw [List.getElem!_eq_getElem?_getD, h]; rfl
theorem holdsP {w : World} {base n g cap : Nat} {t : TypeId} {ns : List (Nat × Nat)} (h : w.ownsRow base t 2 (.slice (some ⟨g, 0, none⟩) n cap) n (prC (ns.map castP))) (hn : ns.length = n) (hm : ∀ p ∈ ns, p.1 ≤ 1048576) : HoldsK encP 2 w g 0 ns.toArray ∧ base ≤ g ∧ (0 < n → g < w.heap.size) := by
  rcases h.2 with ⟨e0, _⟩ | ⟨g', cap', cur, e0, hb, hg, hc, hmx, hs, ht⟩
  · cases e0
  · injection e0 with e1 _ e3
    injection e1 with e1
    injection e1 with e1
    subst e1; subst e3
    have hlt : g < w.heap.size := by
      rcases Nat.lt_or_ge g w.heap.size with h' | h'
      · exact h'
      · rw [Array.getElem?_eq_none h'] at hg; cases hg
    refine ⟨fun j hj => ?_, hb, fun _ => hlt⟩
    rw [size_flatK] at hj
    simp only [List.size_toArray] at hj
    rw [get_flatK _ _ _ _ (by simpa using hj)]
    refine ⟨?_, by simp [World.frozen?, hg]⟩
    have hj2 : j / 2 < ns.length := by omega
    have e1 : (cur.toList.take (n * 2))[j]? = (prC (ns.map castP))[j]? := by rw [ht]
    rw [List.getElem?_take, if_pos (by omega), Array.getElem?_toList] at e1
    simp only [World.cell?, hg, Nat.zero_add]
    simp only [Option.isSome_none, Bool.false_eq_true, if_false]
    rw [e1]
    obtain ⟨d0, d1⟩ := prC_at (ns.map castP) (j / 2) (by simpa using hj2)
    have hmj := hm ns[j / 2] (List.getElem_mem _)
    have hgd : (ns.map castP).getD (j / 2) (0, 0) = castP ns[j / 2] := by simp [hj2]
    have hga : ns.toArray[j / 2]! = ns[j / 2] := by simp [getElem!_pos, hj2]
    rw [hgd] at d0 d1
    rw [hga]
    rcases Nat.mod_two_eq_zero_or_one j with hm0 | hm0
    · rw [show j / 2 * 2 = j by omega] at d0
      rw [d0, hm0]
      simp only [encP, castP]
      rw [Nat.min_eq_left hmj]; rfl
    · rw [show j / 2 * 2 + 1 = j by omega] at d1
      rw [d1, hm0]; rfl
theorem prow_holdsP {w : World} {g : Nat} {d : Array (Nat × Nat)} (h : HoldsK encP 2 w g 0 d) (hg : g < w.heap.size) (hm : ∀ p ∈ d.toList, p.1 ≤ 1048576) : PRow w w.heap.size (some ⟨g, 0, none⟩) (d.toList.map castP) := by
  intro i hi
  have hi' : i < d.size := by simpa using hi
  have c0 := (h.cell (i := i) (c := 0) hi' (by omega)).1
  have c1 := (h.cell (i := i) (c := 1) hi' (by omega)).1
  have hmj := hm d[i] (by simp)
  refine ⟨g, 0, rfl, hg, ?_, ?_⟩
  · rw [Nat.add_zero] at c0
    rw [c0, getElem!_pos d i hi']
    simp only [encP, List.getD_eq_getElem?_getD, List.getElem?_map, Array.getElem?_toList, Array.getElem?_eq_getElem hi', castP, Option.map_some, Option.getD_some]
    rw [Nat.min_eq_left hmj]; rfl
  · rw [c1, getElem!_pos d i hi']
    simp only [encP, List.getD_eq_getElem?_getD, List.getElem?_map, Array.getElem?_toList, Array.getElem?_eq_getElem hi', castP, Option.map_some, Option.getD_some]
    rfl
theorem below_sortK {B : Nat} {w0 w : World} {g n : Nat} {d : Array (Nat × Nat)} {os : Array Obj} (h : Below B w0 w) (hg : B ≤ g) (hB : B ≤ w.heap.size) : Below B w0 (sortWorldK encP 2 w g 0 n d os) := by
  unfold sortWorldK
  have h1 : Below B w0 (putRowK encP 2 (Sort.ahead w n) g 0 d) := below_putRow h hg
  refine h1.trans ?_
  have := Lib.below_grow B (putRowK encP 2 (Sort.ahead w n) g 0 d) (by show B ≤ (putRow id _ g 0 _).heap.size; rw [size_putRow]; exact hB) 0 os
  exact this

def SortPost (ns : List (Nat × Nat)) (g B : Nat) (w : World) (e : Ending) (w' : World) : Prop :=
  e = .returned (.tuple #[]) ∧ ∃ ns' : List (Nat × Nat), ns'.Perm ns ∧ (ns'.Pairwise fun a b => a.1 ≤ b.1) ∧ PRow w' w'.heap.size (some ⟨g, 0, none⟩) (ns'.map castP) ∧ Below B w w'
theorem sort66 (g cap n B : Nat) (ns : List (Nat × Nat)) (w : World) (hown : w.ownsRow B 40 2 (.slice (some ⟨g, 0, none⟩) n cap) n (prC (ns.map castP))) (hn : ns.length = n) (hm : ∀ p ∈ ns, p.1 ≤ 1048576) (hl : n ≤ 2000) (hB : B ≤ w.heap.size) :
    Calls Try.prog 66 #[.slice (some ⟨g, 0, none⟩) n cap, .func (.func 67) #[] #[]] w (SortPost ns g B w) := by
  obtain ⟨hH, hg, hgl⟩ := holdsP hown hn hm
  by_cases h0 : n = 0
  · subst h0
    refine (AnyF.slices_SortFunc_none Try.laysSlF06_f66 (some ⟨g, 0, none⟩) cap (.func (.func 67) #[] #[]) w).mono ?_
    rintro e w' ⟨rfl, rfl⟩
    have hns : ns = [] := List.eq_nil_of_length_eq_zero hn
    subst hns
    exact ⟨rfl, [], List.Perm.refl _, List.Pairwise.nil, fun i hi => by simp at hi, Below.refl _ _⟩
  · have hglt := hgl (by omega)
    have hsz : ns.toArray.size = n := by simpa using hn
    have h := Try.slices_SortFunc 2 (fun _ => by simp [go_sem]) (fun _ => by simp [go_sem]) encP (fun _ => rfl) (fun x v hv => by simp [encP] at hv; rcases hv with rfl | rfl <;> rfl) cfP swoP 67 #[] g 0 cap ns.toArray w (enters_of Try.func67 (by kernel_rfl) rfl) (cmpP _ _ _ _) hH hglt (by omega)
    rw [hsz] at h
    refine h.mono ?_
    rintro e w' ⟨rfl, d', k, os, hp, hs, rfl⟩
    have hp' : PermIn 0 ns.toArray.size ns.toArray d' := by rw [hsz]; exact hp
    have hperm := permIn_list _ _ hp'
    simp only [List.toList_toArray] at hperm
    have hds : d'.size = n := by rw [hp.1, hsz]
    have hm' : ∀ p ∈ d'.toList, p.1 ≤ 1048576 := fun p hp => hm p (hperm.mem_iff.1 hp)
    refine ⟨rfl, d'.toList, hperm, ?_, ?_, below_sortK (Below.refl _ _) hg hB⟩
    · rw [List.pairwise_iff_getElem]
      intro i j hi hj hij
      have hi' : i < d'.size := by simpa using hi
      have hj' : j < d'.size := by simpa using hj
      have h1 := hs i j (Nat.zero_le _) hij (by omega)
      rw [getElem!_pos d' j hj', getElem!_pos d' i hi'] at h1
      rw [ltP, decide_eq_false_iff_not] at h1
      have m1 := hm' d'[i] (by simp)
      have m2 := hm' d'[j] (by simp)
      simp only [Array.getElem_toList]
      omega
    · refine prow_holdsP (holdsK_sortWorldK_c encP 2 w g 0 ns.toArray d' k os hH hglt (by rw [hds, hsz])) ?_ hm'
      have := size_sortWorldK_c encP 2 w g 0 k d' os
      omega
end Go.Proofs.Ytdfloglicjocbaa
