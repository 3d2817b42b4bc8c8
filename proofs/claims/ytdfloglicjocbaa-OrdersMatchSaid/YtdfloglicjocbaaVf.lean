import Derived.Test.YtdfloglicjocbaaVe
import Derived.Lib.OwnBridge
import Derived.Lib.AppendIntMem
set_option linter.unusedVariables false
set_option linter.unusedSimpArgs false
namespace Go.Proofs.Ytdfloglicjocbaa
open Go.Shelf Go.RowKit Go.Lib Go.Sort

/-- places among n steps as the sort's elements. -/
def encN (n x : Nat) : Value := .int .i64 ((min x (n - 1) : Nat) : Int)
def intL (l : List Nat) : List Int := l.map fun i : Nat => (i : Int)
theorem intL_len (l : List Nat) : (intL l).length = l.length := by simp [intL]
theorem encN_map (n : Nat) (l : List Nat) (h : ∀ i ∈ l, i < n) : l.map (encN n) = (intL l).map (Value.int .i64) := by
  unfold intL
  rw [List.map_map]
  apply List.map_congr_left
  intro i hi
  have := h i hi
  simp only [encN, Function.comp]
  rw [Nat.min_eq_left (by omega)]
theorem sort_grown {enc : Nat → Value} {w w' : World} {o : Obj} {blk : Nat} {d : Array Nat} (h : SW enc (w.alloc o) blk 0 d w') : w.grownBy w' (some blk) := by
  obtain ⟨n, os, rfl⟩ := h
  unfold sortWorld
  refine ⟨rfl, rfl, rfl, ?_, fun k hk hne => ?_⟩
  · rw [Go.Sort.size_grow, size_putRow]
    show w.heap.size ≤ (w.alloc o).heap.size + _
    simp; omega
  · have hb : blk ≠ k := fun e => hne (by rw [e])
    have h1 : (grow (putRow enc (Sort.ahead (w.alloc o) n) blk 0 d) os).heap[k]? = (w.alloc o).heap[k]? := by
      simp only [grow, putRow, mapBlock, Sort.ahead]
      rw [Array.getElem?_append_left (by simp; omega), Array.getElem?_modify, if_neg hb]
    rw [h1]
    exact (World.grownBy_alloc w o none).block k hk (by simp)
theorem row_of_SW {n : Nat} {w0 w' : World} {blk : Nat} {d0 d : Array Nat} (h : SW (encN n) w0 blk 0 d w') (hblk : blk < w0.heap.size) (h0 : Holds (encN n) w0 blk 0 d0) (hs : d.size = d0.size) (hm : ∀ i ∈ d.toList, i < n) : Row w' w'.heap.size (some ⟨blk, 0, none⟩) (intL d.toList) := by
  intro i hi
  have hi' : i < d.size := by simpa [intL] using hi
  have hc := (h.holds hblk h0 hs i hi').1
  refine ⟨blk, 0, rfl, h.lt hblk, ?_⟩
  rw [hc, getElem!_pos d i hi']
  have := hm d[i] (by simp)
  simp only [encN]
  rw [Nat.min_eq_left (by omega)]
  simp [intL, hi']

theorem cell_grown {w w' : World} {r : Nat} (h : w.grownBy w' (some r)) (a : Addr) (ha : a.block < w.heap.size) (hne : a.block ≠ r) : w'.cell? a = w.cell? a := by
  unfold World.cell?
  rw [h.block a.block ha (fun e => hne (Option.some.inj e.symm).symm)]
theorem sortWorld_grown {enc : Nat → Value} (w : World) (blk m : Nat) (d : Array Nat) (os : Array Obj) : w.grownBy (sortWorld enc w blk 0 m d os) (some blk) := by
  unfold sortWorld
  refine ⟨rfl, rfl, rfl, ?_, fun k hk hne => ?_⟩
  · rw [Go.Sort.size_grow, size_putRow]
    show w.heap.size ≤ w.heap.size + _
    omega
  · have hb : blk ≠ k := fun e => hne (by rw [e])
    simp only [grow, putRow, mapBlock, Sort.ahead]
    rw [Array.getElem?_append_left (by simp <;> omega), Array.getElem?_modify, if_neg hb]
theorem swoKey (n : Nat) (c : Nat → Nat → Int) (k : Nat → Int) (hc : ∀ x y, (c x y < 0 ↔ k x < k y)) : SWO (ltOf fun x y => c (min x (n - 1)) (min y (n - 1))) where
  irrefl x := by simp [ltOf, hc]
  trans x y z h1 h2 := by simp only [ltOf, decide_eq_true_eq] at h1 h2 ⊢; rw [hc] at h1 h2 ⊢; omega
  ntrans x y z h1 h2 := by simp only [ltOf, decide_eq_false_iff_not] at h1 h2 ⊢; rw [hc] at h1 h2 ⊢; omega

def ByPost (n blk : Nat) (c : Nat → Nat → Int) (F : List Nat) (w : World) (e : Ending) (w' : World) : Prop :=
  e = .returned (.tuple #[]) ∧ ∃ L : List Nat, L.Perm F ∧ (L.Pairwise fun x y => lexL (ltOf fun x y => c (min x (n - 1)) (min y (n - 1))) id y x = false) ∧ Row w' w'.heap.size (some ⟨blk, 0, none⟩) (intL L) ∧ w.grownBy w' (some blk)

set_option maxHeartbeats 1000000 in
set_option maxRecDepth 100000 in
theorem by77 (f : Nat) (s : Steps) (c : Nat → Nat → Int) (k : Nat → Int) (hck : ∀ x y, (c x y < 0 ↔ k x < k y)) (hf : CmpSteps f s c) (ef : ∀ args w, (callFunc f args).run Try.prog w = .ok (.enter f args) w)
    (go gl lb lo n lc base blk cap : Nat) (F : List Nat) (w : World) (hF : F ≠ []) (hFn : ∀ i ∈ F, i < n) (hFi : F.Pairwise (· < ·)) (hFl : F.length ≤ n) (hn : n ≤ 20000)
    (hown : w.ownsRow base 3 1 (.slice (some ⟨blk, 0, none⟩) F.length cap) F.length ((intL F).map (Value.int .i64)))
    (h1 : w.cell? ⟨go, 0, none⟩ = some (.slice (some ⟨blk, 0, none⟩) F.length cap)) (h2 : w.cell? ⟨gl, 0, none⟩ = some (.slice (some ⟨lb, lo, none⟩) n lc)) (hgl : gl < w.heap.size) (hglb : gl ≠ blk) (hlb : lb < w.heap.size) (hlbb : lb ≠ blk)
    (hx : ∀ x, x < n → ∀ c, c < 5 → w.cell? ⟨lb, lo + x * 5 + c, none⟩ = (s.cells x)[c]?) :
    Calls Try.prog 77 #[.func (.func f) #[] #[], .pointer (some ⟨go, 0, none⟩), .pointer (some ⟨gl, 0, none⟩)] w (ByPost n blk c F w) := by
  have hn0 : 0 < n := by
    cases F with
    | nil => exact absurd rfl hF
    | cons x l => have := hFn x (by simp); omega
  rw [← encN_map n F hFn] at hown
  obtain ⟨g', cap', e', hb', hg', hc1, hc2, _, hH⟩ := holds_of_ownsRow hown (by simp)
  obtain ⟨rfl, rfl⟩ : g' = blk ∧ cap' = cap := by
    injection e' with e1 e2 e3
    injection e1 with e1
    injection e1 with e1
    exact ⟨e1.symm, e3.symm⟩
  have hw1 : Holds (encN n) (w.alloc (.cells #[.func (.func f) #[] #[]] 137)) g' 0 F.toArray := fun j hj => ⟨Lib.cell?_alloc_some _ (hH j hj).1, by rw [alloc_eq_grow, frozen?_grow _ _ _ (by exact hg')]; exact (hH j hj).2⟩
  have hsz1 : (w.alloc (.cells #[.func (.func f) #[] #[]] 137)).heap.size = w.heap.size + 1 := by simp
  have R : Row1 (encN n) (w.alloc (.cells #[.func (.func f) #[] #[]] 137)) g' 0 F.toArray := ⟨fun _ => rfl, hw1, by rw [hsz1]; omega⟩
  have hcmp : CmpLays1 Try.prog 79 #[.pointer (some ⟨w.heap.size, 0, none⟩), .pointer (some ⟨gl, 0, none⟩)] (encN n) (fun x y => c (min x (n - 1)) (min y (n - 1))) g' 0 F.toArray.size (w.alloc (.cells #[.func (.func f) #[] #[]] 137)) := by
    intro m os dk hs x y
    have hgr := sortWorld_grown (enc := encN n) (w.alloc (.cells #[.func (.func f) #[] #[]] 137)) g' m dk os
    have hszg := hgr.size
    rw [hsz1] at hszg
    have old : ∀ b i, b < w.heap.size → b ≠ g' → (sortWorld (encN n) (w.alloc (.cells #[.func (.func f) #[] #[]] 137)) g' 0 m dk os).cell? ⟨b, i, none⟩ = w.cell? ⟨b, i, none⟩ := fun b i hb hne => by
      rw [cell_grown hgr ⟨b, i, none⟩ (by rw [hsz1]; exact Nat.lt_succ_of_lt hb) hne, alloc_eq_grow, cell?_grow _ _ _ (by exact hb)]
    refine closure79 f s c hf ef w.heap.size gl lb lo n lc (min x (n - 1)) (min y (n - 1)) _ ?_ ?_ (by omega) (by omega) (by omega) ?_ ?_ (by omega) (by omega) hn
    · rw [cell_grown hgr ⟨w.heap.size, 0, none⟩ (by rw [hsz1]; exact Nat.lt_succ_self _) (by simp only; omega)]
      rw [World.cell?_alloc_at _ _ _ _ rfl]; rfl
    · rw [old _ _ hgl hglb]; exact h2
    · intro q hq; rw [old _ _ hlb hlbb]; exact hx _ (by omega) q hq
    · intro q hq; rw [old _ _ hlb hlbb]; exact hx _ (by omega) q hq
  have hc78 := sortStable78 (encN n) (fun x y => c (min x (n - 1)) (min y (n - 1))) (swoKey n c k hck) id 79 _ g' 0 cap' F.toArray _ (enters_of Try.func79 (by kernel_rfl) rfl) hcmp R (by simp; omega) (fun i j h1 h2 => by
    simp only [List.size_toArray] at h2
    have := List.pairwise_iff_getElem.1 hFi i j (by omega) h2 h1
    rw [getElem!_pos F.toArray i (by simp; omega), getElem!_pos F.toArray j (by simpa using h2)]
    simpa using this)
  have hfs : F.toArray.size = F.length := by simp
  rw [hfs] at hc78
  have h1' : (w.alloc (.cells #[.func (.func f) #[] #[]] 137)).cell? ⟨go, 0, none⟩ = some (.slice (some ⟨g', 0, none⟩) F.length cap') := Lib.cell?_alloc_some _ h1
  have HW1 := Lib.hid hw1
  have HC := Lib.hid hc78
  clear hcmp R hw1 hH hown hx h2 h1 hc78 hck hf ef
  go_enter Try.func77, Try.ntmps77
  go_wp2_with fail
  refine HC.out.mono ?_
  rintro e w2 ⟨rfl, d', hp, hso, S2⟩
  have hgr := sort_grown S2
  have hp' : PermIn 0 F.toArray.size F.toArray d' := hp
  have hperm := permIn_list _ _ hp'
  simp only [List.toList_toArray] at hperm
  have hds : d'.size = F.toArray.size := hp.1
  have hrow := row_of_SW S2 (by rw [hsz1]; omega) HW1.out hds (fun i hi => hFn i (hperm.mem_iff.1 hi))
  have hso' := sortedIn_list d' (by rw [hds]; exact hso)
  have HP := Lib.hid (And.intro hperm (And.intro hso' (And.intro hrow hgr)))
  clear hgr hp hp' hperm hds hrow hso hso' S2 HC HW1
  go_wp2_with fail
  go_end0
  exact ⟨rfl, d'.toList, HP.out.1, HP.out.2.1, HP.out.2.2.1, HP.out.2.2.2⟩

set_option maxHeartbeats 1000000 in
set_option maxRecDepth 1000000 in
/-- no steps: nothing is sorted. -/
theorem insNil100 (g : Nat) (cb : Array Value) (w : World) : Calls Try.prog 100 #[.slice none 0 0, .int .i64 0, .int .i64 0, .func (.func g) #[] cb] w fun e w' => e = .returned (.tuple #[]) ∧ w = w' := by
  go_enter Try.func100, Try.ntmps100
  go_wp2_with fail
  go_loopg [8] 0 (fun kx s8 wr => s8 = .int .i64 1 ∧ w = wr)
  case atStart => exact ⟨by congr 1, rfl⟩
  case round =>
    obtain ⟨rfl, rfl⟩ := hrel
    go_wp2_with fail
    go_end0
    exact ⟨rfl, rfl⟩
set_option maxHeartbeats 1000000 in
set_option maxRecDepth 1000000 in
theorem stableNil88 (g : Nat) (cb : Array Value) (w : World) : Calls Try.prog 88 #[.slice none 0 0, .int .i64 0, .func (.func g) #[] cb] w fun e w' => e = .returned (.tuple #[]) ∧ w = w' := by
  go_enter Try.func88, Try.ntmps88
  go_wp2_with fail
  go_loopg [7, 8] 0 (fun kx s7 s8 wr => s7 = .int .i64 0 ∧ s8 = .int .i64 20 ∧ w = wr)
  case atStart => exact ⟨rfl, rfl, rfl⟩
  case round =>
    obtain ⟨rfl, rfl, rfl⟩ := hrel
    go_wp2_with (go_at_call 100; refine (insNil100 g cb _).mono ?_; rintro e w2 ⟨rfl, rfl⟩)
    go_loopg [6] 0 (fun kx s6 wr => s6 = .int .i64 20 ∧ w = wr)
    case atStart => exact ⟨rfl, rfl⟩
    case round =>
      obtain ⟨rfl, rfl⟩ := hrel
      go_wp2_with fail
      go_end0
      exact ⟨rfl, rfl⟩
set_option maxHeartbeats 1000000 in
theorem byNil77 (f go gl : Nat) (w : World) (h1 : w.cell? ⟨go, 0, none⟩ = some (.slice none 0 0)) : Calls Try.prog 77 #[.func (.func f) #[] #[], .pointer (some ⟨go, 0, none⟩), .pointer (some ⟨gl, 0, none⟩)] w fun e w' => e = .returned (.tuple #[]) ∧ w.alloc (.cells #[.func (.func f) #[] #[]] 137) = w' := by
  have h1' : (w.alloc (.cells #[.func (.func f) #[] #[]] 137)).cell? ⟨go, 0, none⟩ = some (.slice none 0 0) := Lib.cell?_alloc_some _ h1
  clear h1
  have hst : ∀ g cb W, Calls Try.prog 78 #[.slice none 0 0, .func (.func g) #[] cb] W fun e w' => e = .returned (.tuple #[]) ∧ W = w' := by
    intro g cb W
    go_enter Try.func78, Try.ntmps78
    go_wp2_with (go_at_call 88; refine (stableNil88 g cb _).mono ?_; rintro e w2 ⟨rfl, rfl⟩)
    go_end0
    exact ⟨rfl, rfl⟩
  go_enter Try.func77, Try.ntmps77
  go_wp2_with fail
  refine (hst _ _ _).mono ?_
  rintro e w2 ⟨rfl, rfl⟩
  go_wp2_with fail
  go_end0
  exact ⟨rfl, rfl⟩
end Go.Proofs.Ytdfloglicjocbaa
