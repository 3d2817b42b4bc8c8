/-
  Paths of several names: their parts, and whether they fit a store.
-/
import Derived.Test.YtpjnjhklkgefcaaGreatDoorXh
import Derived.Test.YtpjnjhklkgefcaaGreatDoorI
import Derived.Test.YtpjnjhklkgefcaaGreatDoorZb
import Derived.Lib.Fold
set_option linter.unusedVariables false
set_option linter.unusedSimpArgs false
namespace Go.Proofs.YtpjnjhklkgefcaaGreatDoor
open Go.RowKit
set_option maxRecDepth 100000 in
set_option maxHeartbeats 1000000 in
/-- the parts of a path that is none: a new row of them. -/
theorem parts_any (s : ByteArray) (w : World) (g : Gl w) (hs : s.size ≤ 1024) (h0 : s.toList.isEmpty = false) (hp : pathB s = true) : Calls Tryz.prog 145 #[.string s] w fun e w' => ∃ b, e = .returned (.tuple #[sl b (splitL s).length (splitL s).length, .int .i64 0]) ∧ w.heap.size ≤ b ∧ Blk w' b 9 ((splitL s).map Value.string).toArray ∧ Below w.heap.size w w' := by
  have HK := Lib.hid (check_any s w g (by omega))
  rw [if_pos hp] at HK
  have HS := Lib.hid (fun w1 (hb : Below w.heap.size w w1) => splitS_ok s w1 (g.below hb) (by omega))
  clear hp g
  generalize splitL s = L at *
  go_enter Tryz.func145, Tryz.ntmps145
  go_wp2_with fail
  refine HK.out.mono ?_
  rintro e w1 ⟨rfl, hb⟩
  go_wp2_with (first | (go_at_call 87; refine (HS.out _ hb).mono ?_; rintro e w2 ⟨rfl, rfl⟩) | go_in)
  go_ret2
  exact ⟨_, rfl, hb.size, Blk.new _ _ _, hb.alloc hb.size _⟩
/-- bytes of ASCII. -/
def AscB (s : ByteArray) : Prop := ∀ (j : Nat) b, s.data.toList[j]? = some b → b.toNat < 128
set_option maxRecDepth 100000 in
set_option maxHeartbeats 4000000 in
theorem fits_any (f : Ft) (s : ByteArray) (w : World) (g : Gl w) (hs : s.size ≤ 1024) (h0 : s.toList.isEmpty = false) (hp : pathB s = true) (h1 : (s.size : Int) ≤ f.mpath) (h2 : ∀ n ∈ splitL s, (n.size : Int) ≤ f.mname ∧ n.size ≤ 1024 ∧ AscB n) (h3 : f.forbid = ⟨#[]⟩) : Calls Tryz.prog 107 #[.agg f.cells, .string s] w fun e w' => e = .returned (.bool true) ∧ Below w.heap.size w w' := by
  have hn1 : ¬ f.mpath < (s.size : Int) := by omega
  have HP := Lib.hid (fun w1 (hb : Below w.heap.size w w1) => parts_any s w1 (g.below hb) hs h0 hp)
  have HA := Lib.hid (fun (n : ByteArray) (hn : n ∈ splitL s) (wx : World) => Tryz.strings_ContainsAny_laid n ⟨#[]⟩ wx (by have := (h2 n hn).2.1; omega) (by decide) (h2 n hn).2.2 (by intro j b hb; simp at hb))
  have HM := Lib.hid (fun (n : ByteArray) (hn : n ∈ splitL s) => (h2 n hn).1)
  have H3 := Lib.hid h3
  clear g h3 h2 hp
  have hll : (splitL s).length ≤ 2000000 := by
    rw [splitL_len]
    have := Lib.countB_le ⟨#[47]⟩ (by decide) s.size s (Nat.le_refl _)
    omega
  generalize splitL s = L at *
  go_enter Tryz.func107, Tryz.ntmps107
  go_wp2_with fail
  have hb0 := (Below.refl w.heap.size w).alloc (Nat.le_refl _) (.cells f.cells 33)
  refine (HP.out _ hb0).mono ?_
  rintro e w1 ⟨b, rfl, hlb, hb1, hb2⟩
  have HF := Lib.hid (Blk.below (Blk.new w 33 f.cells) hb2 (by simp))
  have HB := Lib.hid (hb0.trans (hb2.mono hb0.size))
  have HL := Lib.hid hb1
  have hsz : w.heap.size < w1.heap.size := by have := hb2.size; simp at this; omega
  clear hb1 hb2 hb0
  have HSB := Lib.hid (show w.heap.size ≤ w1.heap.size from Nat.le_of_lt hsz)
  have HG := Lib.hid (show ∀ wr : World, Below w1.heap.size w1 wr → wr.cell? ⟨w.heap.size, 3, none⟩ = some (.int .i64 f.mname) ∧ wr.cell? ⟨w.heap.size, 8, none⟩ = some (.string ⟨#[]⟩) from fun wr hb =>
    ⟨(HF.out.below hb HF.out.lt).cell 3, by have h8 := (HF.out.below hb HF.out.lt).cell 8; rw [h8]; simp only [Ft.cells]; rw [← H3.out]; rfl⟩)
  have HLC := Lib.hid (show ∀ (wr : World), Below w1.heap.size w1 wr → ∀ (i : Nat) (n : ByteArray), L[i]? = some n → wr.cell? ⟨b, i, none⟩ = some (.string n) from fun wr hb i n h => by
    rw [(HL.out.below hb HL.out.lt).cell i]; simp [h])
  clear HL H3
  go_wp2_with fail
  go_loopw [21] (fun x wr => ∃ i : Nat, x = .int .i64 (i : Int) ∧ i ≤ L.length ∧ Below w1.heap.size w1 wr) (fun x _ => L.length - (intOf x).toNat)
  case atStart => exact ⟨0, rfl, Nat.zero_le _, Below.refl _ _⟩
  case round =>
    obtain ⟨i, rfl, hi, hb⟩ := hrel
    have HBR := Lib.hid hb
    have c38 := HG.out wr hb
    obtain ⟨c3, c8⟩ := c38
    by_cases hlt : i < L.length
    · have hd : decide ((i : Int) < (L.length : Int)) = true := decide_eq_true (by omega)
      have hLi : L[i]? = some L[i] := List.getElem?_eq_getElem hlt
      obtain ⟨n, hn⟩ : ∃ n, L[i] = n := ⟨_, rfl⟩
      rw [hn] at hLi
      have hmem : n ∈ L := hn ▸ List.getElem_mem hlt
      have cn := HLC.out wr hb i n hLi
      have hm := HM.out n hmem
      have hnm : ¬ f.mname < (n.size : Int) := by omega
      have hnm2 : decide (f.mname < (n.size : Int)) = false := decide_eq_false hnm
      have HAN := Lib.hid (HA.out n hmem)
      have e0 : Lib.containsAny n.data.toList (⟨#[]⟩ : ByteArray).data.toList = false := by
        rw [Lib.containsAny, indexAny_nil]; decide
      rw [e0] at HAN
      clear hb hLi hn hmem hm e0
      go_wp2_with fail
      refine (HAN.out _).mono ?_
      rintro e w2 ⟨rfl, hb2⟩
      have HBN := Lib.hid (HBR.out.trans (hb2.mono HBR.out.size))
      clear hb2
      go_wp2_with fail
      go_roundw
      case rel => exact ⟨i + 1, by go_num, by omega, HBN.out⟩
      case measure => simp [intOf]; omega
    · have hd : decide ((i : Int) < (L.length : Int)) = false := decide_eq_false (by omega)
      clear hb
      go_wp2_with fail
      go_ret
      exact ⟨rfl, HB.out.trans (HBR.out.mono HSB.out)⟩
end Go.Proofs.YtpjnjhklkgefcaaGreatDoor

/-
  Stores side by side: plain law. The eight names; the first error of a list of them.
-/

set_option linter.unusedVariables false
set_option linter.unusedSimpArgs false
namespace Go.Proofs.YtpjnjhklkgefcaaGreatDoor
/-- the names that a member may have. -/
def nmC : Nat → ByteArray
  | 0 => ⟨#[120]⟩
  | 1 => ⟨#[121]⟩
  | 2 => ⟨#[88]⟩
  | 3 => ⟨#[122, 32, 122]⟩
  | 4 => ⟨#[97]⟩
  | 5 => ⟨#[46, 46]⟩
  | 6 => ⟨#[98, 47, 99]⟩
  | _ => ⟨#[119]⟩
/-- two names are the same but for the letters' sizes. -/
def eqJ (i j : Nat) : Bool := i == j || (i == 0 && j == 2) || (i == 2 && j == 0)
/-- a name that is none. -/
def badJ (j : Nat) : Bool := j == 5 || j == 6
/-- the path of the file in a member. -/
def pathC (j : Nat) : ByteArray := nmC j ++ ⟨#[47, 102]⟩
theorem all8 {P : Nat → Prop} (h0 : P 0) (h1 : P 1) (h2 : P 2) (h3 : P 3) (h4 : P 4) (h5 : P 5) (h6 : P 6) (h7 : P 7) : ∀ j, j < 8 → P j
  | 0, _ => h0
  | 1, _ => h1
  | 2, _ => h2
  | 3, _ => h3
  | 4, _ => h4
  | 5, _ => h5
  | 6, _ => h6
  | 7, _ => h7
theorem nmC_name : ∀ j, j < 8 → nameB (nmC j) = !badJ j := all8 (by unfold nameB; rw [Lib.toList_data]; decide) (by unfold nameB; rw [Lib.toList_data]; decide) (by unfold nameB; rw [Lib.toList_data]; decide) (by unfold nameB; rw [Lib.toList_data]; decide) (by unfold nameB; rw [Lib.toList_data]; decide) (by unfold nameB; rw [Lib.toList_data]; decide) (by unfold nameB; rw [Lib.toList_data]; decide) (by unfold nameB; rw [Lib.toList_data]; decide)
theorem nmC_fold : ∀ i, i < 8 → ∀ j, j < 8 → Lib.equalFold (nmC i).data.toList (nmC j).data.toList = eqJ i j :=
  all8 (all8 (by decide) (by decide) (by decide) (by decide) (by decide) (by decide) (by decide) (by decide)) (all8 (by decide) (by decide) (by decide) (by decide) (by decide) (by decide) (by decide) (by decide))
    (all8 (by decide) (by decide) (by decide) (by decide) (by decide) (by decide) (by decide) (by decide)) (all8 (by decide) (by decide) (by decide) (by decide) (by decide) (by decide) (by decide) (by decide))
    (all8 (by decide) (by decide) (by decide) (by decide) (by decide) (by decide) (by decide) (by decide)) (all8 (by decide) (by decide) (by decide) (by decide) (by decide) (by decide) (by decide) (by decide))
    (all8 (by decide) (by decide) (by decide) (by decide) (by decide) (by decide) (by decide) (by decide)) (all8 (by decide) (by decide) (by decide) (by decide) (by decide) (by decide) (by decide) (by decide))
theorem nmC_small : ∀ i, i < 8 → ∀ j, j < 8 → decide ((foldS (nmC i)).data.toList = (foldS (nmC j)).data.toList) = eqJ i j :=
  all8 (all8 (by decide) (by decide) (by decide) (by decide) (by decide) (by decide) (by decide) (by decide)) (all8 (by decide) (by decide) (by decide) (by decide) (by decide) (by decide) (by decide) (by decide))
    (all8 (by decide) (by decide) (by decide) (by decide) (by decide) (by decide) (by decide) (by decide)) (all8 (by decide) (by decide) (by decide) (by decide) (by decide) (by decide) (by decide) (by decide))
    (all8 (by decide) (by decide) (by decide) (by decide) (by decide) (by decide) (by decide) (by decide)) (all8 (by decide) (by decide) (by decide) (by decide) (by decide) (by decide) (by decide) (by decide))
    (all8 (by decide) (by decide) (by decide) (by decide) (by decide) (by decide) (by decide) (by decide)) (all8 (by decide) (by decide) (by decide) (by decide) (by decide) (by decide) (by decide) (by decide))
/-- what is wanted behind one more name. -/
def stepC (prior : List Nat) (e : Int) (j : Nat) : Int := if e ≠ 0 then e else if badJ j = true then 2 else if prior.any (fun i => eqJ i j) = true then 4 else 0
/-- .. behind a list of names, the last one first. -/
def wantR (e : Int) : List Nat → Int
  | [] => e
  | j :: prior => stepC prior (wantR e prior) j
/-- the error of a count of members. -/
def cntC (k : Nat) : Int := if 8 < k then 8 else if k = 0 then 21 else 0
theorem wantR_keep {e : Int} (h : e ≠ 0) : ∀ l, wantR e l = e
  | [] => rfl
  | j :: l => by rw [wantR, wantR_keep h l, stepC, if_pos h]
theorem wantR_ok {l : List Nat} : wantR 0 l = 0 → (∀ j ∈ l, badJ j = false) ∧ l.Pairwise (fun a b => eqJ b a = false) := by
  induction l with
  | nil => intro _; exact ⟨fun _ h => absurd h List.not_mem_nil, List.Pairwise.nil⟩
  | cons j l ih =>
    intro h
    rw [wantR] at h
    unfold stepC at h
    by_cases h0 : wantR 0 l = 0
    · obtain ⟨h1, h2⟩ := ih h0
      rw [if_neg (by simpa using h0)] at h
      cases hb : badJ j
      · rw [hb] at h
        cases ha : l.any (fun i => eqJ i j)
        · refine ⟨fun x hx => ?_, List.pairwise_cons.2 ⟨fun x hx => ?_, h2⟩⟩
          · rcases List.mem_cons.1 hx with rfl | hx
            · exact hb
            · exact h1 x hx
          · exact List.any_eq_false.1 ha x hx |> fun h => by simpa using h
        · rw [ha] at h; simp at h
      · rw [hb] at h; simp at h
    · rw [if_pos h0] at h
      exact absurd h h0
theorem split2 (a b s : ByteArray) (h : s = a ++ ⟨#[47]⟩ ++ b) (hc : splitL s = [a, b]) (ha : nameB a = true) (hb : nameB b = true) (hn : s.toList.isEmpty = false) (hz : s.size ≤ 1024) : pathB s = true := by
  unfold pathB
  rw [hn, hc]
  simp [ha, hb, hz]
theorem pathC_parts : ∀ j, j < 8 → badJ j = false → splitL (pathC j) = [nmC j, ⟨#[102]⟩] :=
  all8 (fun _ => by decide) (fun _ => by decide) (fun _ => by decide) (fun _ => by decide) (fun _ => by decide) (fun h => by cases h) (fun h => by cases h) (fun _ => by decide)
theorem pathC_ne : ∀ j, j < 8 → (pathC j).toList.isEmpty = false :=
  all8 (by rw [Lib.toList_data]; decide) (by rw [Lib.toList_data]; decide) (by rw [Lib.toList_data]; decide) (by rw [Lib.toList_data]; decide) (by rw [Lib.toList_data]; decide) (by rw [Lib.toList_data]; decide) (by rw [Lib.toList_data]; decide) (by rw [Lib.toList_data]; decide)
theorem pathC_size : ∀ j, j < 8 → (pathC j).size ≤ 5 :=
  all8 (by decide) (by decide) (by decide) (by decide) (by decide) (by decide) (by decide) (by decide)
theorem nm_f : nameB ⟨#[102]⟩ = true := by unfold nameB; rw [Lib.toList_data]; decide
theorem pathC_path (j : Nat) (hj : j < 8) (hb : badJ j = false) : pathB (pathC j) = true :=
  split2 (nmC j) ⟨#[102]⟩ (pathC j) (by unfold pathC; rw [ByteArray.append_assoc]; rfl) (pathC_parts j hj hb) (by rw [nmC_name j hj, hb]; rfl) nm_f (pathC_ne j hj) (Nat.le_trans (pathC_size j hj) (by omega))
end Go.Proofs.YtpjnjhklkgefcaaGreatDoor
