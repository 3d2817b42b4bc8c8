/-
  Stores side by side: small functions. Whether a path has one name; whether a path is one of a file; a store's features.
-/
import Derived.Test.YtpjnjhklkgefcaaGreatDoorZp
import Derived.Test.YtpjnjhklkgefcaaGreatDoorZk
import Derived.Test.YtpjnjhklkgefcaaGreatDoorXb
import Derived.Test.YtpjnjhklkgefcaaGreatDoorZq
set_option linter.unusedVariables false
set_option linter.unusedSimpArgs false
namespace Go.Proofs.YtpjnjhklkgefcaaGreatDoor
open Go.RowKit
set_option maxRecDepth 100000 in
set_option maxHeartbeats 4000000 in
theorem oneName_ok (s : ByteArray) (w : World) : Calls Tryz.prog 38 #[.string s] w fun e w' => e = .returned (.bool (!s.toList.isEmpty && !hasB s 47)) ∧ w' = w := by
  have HC := Lib.hid (fun w => Tryz.strings_Contains_one s 47 w)
  have hc : decide (0 ≤ Lib.indexByte s.data.toList 47) = hasB s 47 := (Lib.contains_iff_indexByte s.data.toList 47).symm
  rw [hc] at HC
  clear hc
  cases h1 : s.toList.isEmpty
  · go_enter Tryz.func38, Tryz.ntmps38
    go_wp2_with fail
    refine (HC.out _).mono ?_
    rintro e w1 ⟨rfl, rfl⟩
    go_wp2_with fail
    go_ret
    exact ⟨rfl, rfl⟩
  · go_enter Tryz.func38, Tryz.ntmps38
    go_wp2_with fail
    go_ret
    exact ⟨rfl, rfl⟩
set_option maxRecDepth 100000 in
set_option maxHeartbeats 4000000 in
theorem wrapFile_any (s : ByteArray) (w : World) (g : Gl w) (hs : s.size ≤ 1048576) (h0 : s.toList.isEmpty = false) (hp : pathB s = true) : Calls Tryz.prog 260 #[.string s] w fun e w' => e = .returned (.int .i64 0) ∧ Below w.heap.size w w' := by
  have HC := Lib.hid (check_any s w g hs)
  rw [if_pos hp] at HC
  clear g hp
  go_enter Tryz.func260, Tryz.ntmps260
  go_wp2_with fail
  refine HC.out.mono ?_
  rintro e w1 ⟨rfl, hb1⟩
  go_wp2_with fail
  go_ret
  exact ⟨rfl, hb1⟩
theorem memFeatures_x {B : Nat} {f : Ft} {clk : Int} {q : Mm} {L : List Fl} (w : World) (hq : MemX B f clk q L w) : Calls Tryz.prog 216 #[pt q.m] w fun e w' => e = .returned (.agg f.cells) ∧ Below w.heap.size w w' :=
  memFeaturesG_ok q.m _ _ _ _ _ _ _ _ _ _ _ _ _ _ _ _ _ _ _ _ w hq.hm
end Go.Proofs.YtpjnjhklkgefcaaGreatDoor

/-
  Stores side by side: whether a name is there twice.
-/
set_option linter.unusedVariables false
set_option linter.unusedSimpArgs false
namespace Go.Proofs.YtpjnjhklkgefcaaGreatDoor
open Go.RowKit
/-- a row of texts. -/
def SRow (a : Option Addr) (L : List ByteArray) (w : World) : Prop := L = [] ∨ ∃ g, a = some ⟨g, 0, none⟩ ∧ ∀ (i : Nat) b, L[i]? = some b → w.cell? ⟨g, i, none⟩ = some (.string b)
set_option maxRecDepth 100000 in
set_option maxHeartbeats 4000000 in
theorem eqClo_ok (s t : ByteArray) (nb : Nat) (w : World) (h : w.cell? ⟨nb, 0, none⟩ = some (.string t)) (hs : s.size ≤ 1000) (has : AscB s) (hat : AscB t) : Calls Tryz.prog 11 #[.string s, pt nb] w fun e w' => e = .returned (.bool (Lib.equalFold s.data.toList t.data.toList)) ∧ w' = w := by
  have HE := Lib.hid (fun w => Tryz.strings_EqualFold s t w (by omega) has hat)
  clear has hat
  go_enter Tryz.func11, Tryz.ntmps11
  go_wp2_with fail
  refine (HE.out _).mono ?_
  rintro e w1 ⟨rfl, rfl⟩
  go_wp2_with fail
  go_ret
  exact ⟨rfl, rfl⟩
set_option maxRecDepth 100000 in
set_option maxHeartbeats 4000000 in
theorem indexEq_ok (a : Option Addr) (cap nb : Nat) (L : List ByteArray) (t : ByteArray) (w : World) (hr : SRow a L w) (h : w.cell? ⟨nb, 0, none⟩ = some (.string t)) (hL : ∀ s ∈ L, s.size ≤ 1000 ∧ AscB s) (hn : L.length ≤ 1000) (hat : AscB t) :
    Calls Tryz.prog 34 #[.slice a L.length cap, .func (.func 11) #[] #[pt nb]] w fun e w' => (∃ x : Int, e = .returned (.int .i64 x) ∧ decide (0 ≤ x) = L.any (fun s => Lib.equalFold s.data.toList t.data.toList)) ∧ w' = w := by
  have HC := Lib.hid (fun (s : ByteArray) (hs : s ∈ L) => eqClo_ok s t nb w h (hL s hs).1 (hL s hs).2 hat)
  have HR := Lib.hid hr
  clear hr h hL hat
  obtain ⟨n, hN⟩ : ∃ n, L.length = n := ⟨_, rfl⟩
  have HN := Lib.hid hN
  rw [hN] at hn ⊢
  clear hN
  go_enter Tryz.func34, Tryz.ntmps34
  go_wp2_with fail
  go_loopw [8] (fun k wr => ∃ i : Nat, k = .int .i64 (i : Int) ∧ i ≤ n ∧ wr = w ∧ (L.take i).any (fun s => Lib.equalFold s.data.toList t.data.toList) = false) (fun k _ => n - (intOf k).toNat)
  case atStart => exact ⟨0, rfl, Nat.zero_le _, rfl, by simp⟩
  case round =>
    obtain ⟨i, rfl, hi, rfl, hall⟩ := hrel
    have HA := Lib.hid hall
    clear hall
    by_cases hlt : i < n
    · have hd : decide ((i : Int) < (n : Int)) = true := decide_eq_true (by omega)
      have hil : i < L.length := by rw [HN.out]; exact hlt
      rcases HR.out with hnil | ⟨g, rfl, hcell⟩
      · rw [hnil] at hil; simp at hil
      · have hg := List.getElem?_eq_getElem hil
        have hc := hcell i _ hg
        obtain ⟨s, hs⟩ : ∃ s, L[i] = s := ⟨_, rfl⟩
        rw [hs] at hc hg
        have hmem : s ∈ L := hs ▸ List.getElem_mem hil
        have HCL := Lib.hid (HC.out s hmem)
        have htk := Lib.hid (takeN_snoc hg)
        clear hcell hmem hs hg hil
        obtain ⟨b, hb⟩ : ∃ b, Lib.equalFold s.data.toList t.data.toList = b := ⟨_, rfl⟩
        have HB := Lib.hid hb
        rw [hb] at HCL
        clear hb
        cases b
        · go_wp2_with fail
          refine HCL.out.mono ?_
          rintro e w2 ⟨rfl, rfl⟩
          go_wp2_with fail
          go_roundw
          case rel => exact ⟨i + 1, by go_num, by omega, by trivial, by rw [htk.out, List.any_append, HA.out]; simp [HB.out]⟩
          case measure => simp [intOf]; omega
        · go_wp2_with fail
          refine HCL.out.mono ?_
          rintro e w2 ⟨rfl, rfl⟩
          go_wp2_with fail
          go_ret
          refine ⟨⟨(i : Int), rfl, ?_⟩, rfl⟩
          rw [decide_eq_true (by omega)]
          have h2 : (L.take (i + 1)).any (fun s => Lib.equalFold s.data.toList t.data.toList) = true := by rw [htk.out, List.any_append]; simp [HB.out]
          obtain ⟨x, hx, hxt⟩ := List.any_eq_true.1 h2
          exact (List.any_eq_true.2 ⟨x, List.mem_of_mem_take hx, hxt⟩).symm
    · have hd : decide ((i : Int) < (n : Int)) = false := decide_eq_false (by omega)
      obtain rfl : i = n := by omega
      go_wp2_with fail
      go_ret
      refine ⟨⟨-1, rfl, ?_⟩, rfl⟩
      have := HA.out
      rw [List.take_of_length_le (by rw [HN.out]; exact Nat.le_refl _)] at this
      rw [this]; rfl
set_option maxRecDepth 100000 in
set_option maxHeartbeats 4000000 in
theorem twice_ok (a : Option Addr) (cap nb : Nat) (L : List ByteArray) (t : ByteArray) (w : World) (hr : SRow a L w) (h : w.cell? ⟨nb, 0, none⟩ = some (.string t)) (hL : ∀ s ∈ L, s.size ≤ 1000 ∧ AscB s) (hn : L.length ≤ 1000) (hat : AscB t) :
    Calls Tryz.prog 10 #[.slice a L.length cap, .func (.func 11) #[] #[pt nb]] w fun e w' => e = .returned (.bool (L.any (fun s => Lib.equalFold s.data.toList t.data.toList))) ∧ w' = w := by
  have HI := Lib.hid (indexEq_ok a cap nb L t w hr h hL hn hat)
  clear hr h hL hat
  generalize L.any (fun s => Lib.equalFold s.data.toList t.data.toList) = b at *
  go_enter Tryz.func10, Tryz.ntmps10
  go_wp2_with fail
  refine HI.out.mono ?_
  rintro e w1 ⟨⟨x, rfl, hx⟩, rfl⟩
  go_wp2_with fail
  go_ret
  exact ⟨rfl, rfl⟩
end Go.Proofs.YtpjnjhklkgefcaaGreatDoor

/-
  Stores side by side: whether a member's name is there twice.
-/
set_option linter.unusedVariables false
set_option linter.unusedSimpArgs false
namespace Go.Proofs.YtpjnjhklkgefcaaGreatDoor
open Go.RowKit Go.Proofs.Zl
set_option maxRecDepth 100000 in
set_option maxHeartbeats 4000000 in
theorem combClo_ok (s t : ByteArray) (v v2 : Value) (mb : Nat) (w : World) (hm : Blk w mb 41 #[.string t, v2]) (hs : s.size ≤ 1000) (ht : t.size ≤ 1000) : Calls Tryz.prog 41 #[.agg #[.string s, v], pt mb] w fun e w' => e = .returned (.bool ((foldS s).toList == (foldS t).toList)) ∧ Below w.heap.size w w' := by
  have HFS := Lib.hid (fun w => Fold_ok s w (by omega))
  have HFT := Lib.hid (fun w => Fold_ok t w (by omega))
  have HM := Lib.hid hm
  clear hm
  go_enter Tryz.func41, Tryz.ntmps41
  go_wp2_with fail
  have HB1 := Lib.hid ((Below.refl w.heap.size w).alloc (Nat.le_refl _) (.cells #[.string s, v] 41))
  have HX1 := Lib.hid (Blk.new w 41 #[.string s, v])
  have HM1 := Lib.hid (HM.out.below HB1.out HM.out.lt)
  generalize (w.alloc (.cells #[.string s, v] 41)) = w1 at *
  have cs := fun (p : BWd w1) => (show p.w.cell? ⟨w.heap.size, 0, none⟩ = some (.string s) from (HX1.out.below p.h HX1.out.lt).cell 0)
  have ct := fun (p : BWd w1) => (show p.w.cell? ⟨mb, 0, none⟩ = some (.string t) from (HM1.out.below p.h HM1.out.lt).cell 0)
  go_cut [3] from 4 to 10 (fun u wx => u = .bool ((foldS s).toList == (foldS t).toList) ∧ Below w1.heap.size w1 wx)
  case first =>
    refine wp_region_below (by kernel_rfl) (by kernel_rfl) ?_
    iterate 2 (go_big_quiet_step (fail))
    go_big_quiet_step ((go_at_call 42; exact calls_below (HFS.out _)))
    iterate 2 (go_big_quiet_step (fail))
    go_big_quiet_step ((go_at_call 42; exact calls_below (HFT.out _)))
    iterate 2 (go_big_quiet_step (fail))
    refine wpQuiet_nil ?_
    intro _ hw'
    obtain ⟨p, hw''⟩ := hw'
    subst hw''
    go_wp2_with fail
    go_meet
    exact ⟨rfl, p.h⟩
  case rest =>
    obtain ⟨rfl, hb⟩ := hcut
    have HB := Lib.hid (HB1.out.trans (hb.mono HB1.out.size))
    clear hb cs ct
    go_wp2_with fail
    go_ret
    exact ⟨rfl, HB.out⟩
end Go.Proofs.YtpjnjhklkgefcaaGreatDoor

set_option linter.unusedVariables false
set_option linter.unusedSimpArgs false
namespace Go.Proofs.YtpjnjhklkgefcaaGreatDoor
open Go.RowKit Go.Proofs.Zl
/-- a row of members: a name, and a store's block. -/
def MRow (a : Option Addr) (ms : List (ByteArray × Nat)) (w : World) : Prop := ms = [] ∨ ∃ g, a = some ⟨g, 0, none⟩ ∧ g < w.heap.size ∧ ∀ (i : Nat) x, ms[i]? = some x → w.cell? ⟨g, i * 2, none⟩ = some (.string x.1) ∧ w.cell? ⟨g, i * 2 + 1, none⟩ = some (stV x.2)
theorem MRow.below {a : Option Addr} {ms : List (ByteArray × Nat)} {w w' : World} (h : MRow a ms w) (k : Below w.heap.size w w') : MRow a ms w' := by
  rcases h with h | ⟨g, h1, h2, h3⟩
  · exact Or.inl h
  · exact Or.inr ⟨g, h1, Nat.lt_of_lt_of_le h2 k.size, fun i x hx => ⟨(k.cell (p := ⟨g, i * 2, none⟩) h2).trans (h3 i x hx).1, (k.cell (p := ⟨g, i * 2 + 1, none⟩) h2).trans (h3 i x hx).2⟩⟩
theorem MRow.take {a : Option Addr} {ms : List (ByteArray × Nat)} {w : World} (h : MRow a ms w) (n : Nat) : MRow a (ms.take n) w := by
  rcases h with rfl | ⟨g, h1, h2, h3⟩
  · exact Or.inl (by simp)
  · exact Or.inr ⟨g, h1, h2, fun i x hx => h3 i x (by
      rw [List.getElem?_take] at hx
      split at hx
      · exact hx
      · cases hx)⟩
def sameN (s t : ByteArray) : Bool := (foldS s).toList == (foldS t).toList
theorem takeG_snoc {α : Type} {l : List α} {i : Nat} {b : α} (h : l[i]? = some b) : l.take (i + 1) = l.take i ++ [b] := by
  have hi := (List.getElem?_eq_some_iff.1 h).1
  rw [List.take_succ_eq_append_getElem hi]
  rw [(List.getElem?_eq_some_iff.1 h).2]
set_option maxRecDepth 100000 in
set_option maxHeartbeats 4000000 in
theorem indexMem_ok (a : Option Addr) (cap mb : Nat) (L : List (ByteArray × Nat)) (t : ByteArray) (v2 : Value) (w : World) (hr : MRow a L w) (h : Blk w mb 41 #[.string t, v2]) (hL : ∀ s ∈ L, s.1.size ≤ 1000) (hn : L.length ≤ 1000) (hat : t.size ≤ 1000) :
    Calls Tryz.prog 89 #[.slice a L.length cap, .func (.func 41) #[] #[pt mb]] w fun e w' => (∃ x : Int, e = .returned (.int .i64 x) ∧ decide (0 ≤ x) = L.any (fun s => sameN s.1 t)) ∧ Below w.heap.size w w' := by
  have HC := Lib.hid (fun (s : ByteArray × Nat) (hs : s ∈ L) (wx : World) (hb : Below w.heap.size w wx) => combClo_ok s.1 t (stV s.2) v2 mb wx (h.below hb h.lt) (hL s hs) hat)
  have HR := Lib.hid (fun (wx : World) (hb : Below w.heap.size w wx) => hr.below hb)
  clear hr h hL hat
  obtain ⟨n, hN⟩ : ∃ n, L.length = n := ⟨_, rfl⟩
  have HN := Lib.hid hN
  rw [hN] at hn ⊢
  clear hN
  go_enter Tryz.func89, Tryz.ntmps89
  go_wp2_with fail
  go_loopw [8] (fun k wr => ∃ i : Nat, k = .int .i64 (i : Int) ∧ i ≤ n ∧ Below w.heap.size w wr ∧ (L.take i).any (fun s => sameN s.1 t) = false) (fun k _ => n - (intOf k).toNat)
  case atStart => exact ⟨0, rfl, Nat.zero_le _, Below.refl _ _, by simp⟩
  case round =>
    obtain ⟨i, rfl, hi, hb, hall⟩ := hrel
    have HA := Lib.hid hall
    have HB := Lib.hid hb
    clear hall hb
    by_cases hlt : i < n
    · have hd : decide ((i : Int) < (n : Int)) = true := decide_eq_true (by omega)
      have hil : i < L.length := by rw [HN.out]; exact hlt
      rcases HR.out wr HB.out with hnil | ⟨g, rfl, hgl, hcell⟩
      · rw [hnil] at hil; simp at hil
      · have hg := List.getElem?_eq_getElem hil
        obtain ⟨hc1, hc2⟩ := hcell i _ hg
        obtain ⟨s, hs⟩ : ∃ s, L[i] = s := ⟨_, rfl⟩
        rw [hs] at hc1 hc2 hg
        have hmem : s ∈ L := hs ▸ List.getElem_mem hil
        have HCL := Lib.hid (HC.out s hmem wr HB.out)
        have htk := Lib.hid (takeG_snoc hg)
        clear hcell hmem hs hg hil
        obtain ⟨s1, s2⟩ := s
        simp only at hc1 hc2 HCL
        obtain ⟨b, hb⟩ : ∃ b, sameN s1 t = b := ⟨_, rfl⟩
        have HS := Lib.hid hb
        unfold sameN at hb
        rw [hb] at HCL
        clear hb
        cases b
        · go_wp2_with fail
          refine HCL.out.mono ?_
          rintro e w2 ⟨rfl, hb2⟩
          have HB2 := Lib.hid (HB.out.trans (hb2.mono HB.out.size))
          clear hb2 hc1 hc2
          go_wp2_with fail
          go_roundw
          case rel => exact ⟨i + 1, by go_num, by omega, HB2.out, by rw [htk.out, List.any_append, HA.out]; simp [HS.out]⟩
          case measure => simp [intOf]; omega
        · go_wp2_with fail
          refine HCL.out.mono ?_
          rintro e w2 ⟨rfl, hb2⟩
          have HB2 := Lib.hid (HB.out.trans (hb2.mono HB.out.size))
          clear hb2 hc1 hc2
          go_wp2_with fail
          go_ret
          refine ⟨⟨(i : Int), rfl, ?_⟩, HB2.out⟩
          rw [decide_eq_true (by omega)]
          have h2 : (L.take (i + 1)).any (fun s => sameN s.1 t) = true := by rw [htk.out, List.any_append]; simp [HS.out]
          obtain ⟨x, hx, hxt⟩ := List.any_eq_true.1 h2
          exact (List.any_eq_true.2 ⟨x, List.mem_of_mem_take hx, hxt⟩).symm
    · have hd : decide ((i : Int) < (n : Int)) = false := decide_eq_false (by omega)
      obtain rfl : i = n := by omega
      go_wp2_with fail
      go_ret
      refine ⟨⟨-1, rfl, ?_⟩, HB.out⟩
      have := HA.out
      rw [List.take_of_length_le (by rw [HN.out]; exact Nat.le_refl _)] at this
      rw [this]; rfl
set_option maxRecDepth 100000 in
set_option maxHeartbeats 4000000 in
theorem twiceMem_ok (a : Option Addr) (cap mb : Nat) (L : List (ByteArray × Nat)) (t : ByteArray) (v2 : Value) (w : World) (hr : MRow a L w) (h : Blk w mb 41 #[.string t, v2]) (hL : ∀ s ∈ L, s.1.size ≤ 1000) (hn : L.length ≤ 1000) (hat : t.size ≤ 1000) :
    Calls Tryz.prog 40 #[.slice a L.length cap, .func (.func 41) #[] #[pt mb]] w fun e w' => e = .returned (.bool (L.any (fun s => sameN s.1 t))) ∧ Below w.heap.size w w' := by
  have HI := Lib.hid (indexMem_ok a cap mb L t v2 w hr h hL hn hat)
  clear hr h hL hat
  generalize L.any (fun s => sameN s.1 t) = b at *
  go_enter Tryz.func40, Tryz.ntmps40
  go_wp2_with fail
  refine HI.out.mono ?_
  rintro e w1 ⟨⟨x, rfl, hx⟩, hb⟩
  have HB := Lib.hid hb
  clear hb
  go_wp2_with fail
  go_ret
  exact ⟨rfl, HB.out⟩
end Go.Proofs.YtpjnjhklkgefcaaGreatDoor
