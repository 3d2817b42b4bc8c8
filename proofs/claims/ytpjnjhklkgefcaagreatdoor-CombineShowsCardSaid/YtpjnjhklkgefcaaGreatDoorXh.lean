import Derived.Test.YtpjnjhklkgefcaaGreatDoorXg
import Derived.Lib.SplitLaws
set_option linter.unusedVariables false
set_option linter.unusedSimpArgs false
namespace Go.Proofs.YtpjnjhklkgefcaaGreatDoor
open Go.RowKit
/-- the names of a path. -/
def splitL (s : ByteArray) : List ByteArray := Lib.splitB ⟨#[47]⟩ 0 (Lib.countB s ⟨#[47]⟩) s
/-- a text is a path. -/
def pathB (s : ByteArray) : Bool := s.toList.isEmpty || ((splitL s).all nameB && decide (s.size ≤ 1024))
theorem splitL_len (s : ByteArray) : (splitL s).length = Lib.countB s ⟨#[47]⟩ + 1 := Lib.splitB_all _ (by decide) 0 _ s rfl
theorem splitS_ok (s : ByteArray) (w : World) (g : Gl w) (hs : s.size < 4294967281) : Calls Tryz.prog 87 #[.string s, .string ⟨#[47]⟩] w fun e w' => e = .returned (sl w.heap.size (splitL s).length (splitL s).length) ∧ w' = w.alloc (.cells ((splitL s).map Value.string).toArray 9) := by
  obtain ⟨m, hm⟩ := g.max
  rw [splitL_len]
  exact Tryz.strings_Split s ⟨#[47]⟩ m w hs hm (by decide)
theorem takeN_snoc {l : List ByteArray} {i : Nat} {b : ByteArray} (h : l[i]? = some b) : l.take (i + 1) = l.take i ++ [b] := by
  have hi := (List.getElem?_eq_some_iff.1 h).1
  rw [List.take_succ_eq_append_getElem hi]
  rw [(List.getElem?_eq_some_iff.1 h).2]
theorem cellN_at {w : World} {L : List ByteArray} {i : Nat} {b : ByteArray} (h : L[i]? = some b) : (w.alloc (.cells (L.map Value.string).toArray 9)).cell? ⟨w.heap.size, i, none⟩ = some (.string b) := by
  rw [(Blk.new w 9 (L.map Value.string).toArray).cell i]
  simp [h]
set_option maxRecDepth 100000 in
set_option maxHeartbeats 4000000 in
theorem check_any (s : ByteArray) (w : World) (g : Gl w) (hs : s.size ≤ 1048576) : Calls Tryz.prog 39 #[.string s] w fun e w' => e = .returned (.int .i64 (if pathB s then 0 else 1)) ∧ Below w.heap.size w w' := by
  obtain ⟨v, hv⟩ : ∃ v : Int, (if pathB s = true then (0 : Int) else 1) = v := ⟨_, rfl⟩
  rw [hv]
  have HV := Lib.hid hv
  clear hv
  cases h1 : s.toList.isEmpty
  · by_cases hz : s.size ≤ 1024
    · have hd1 : ¬ (1024 : Int) < (s.size : Int) := by omega
      have hd2 : decide ((1024 : Int) < (s.size : Int)) = false := decide_eq_false hd1
      have HS := Lib.hid (splitS_ok s w g (by omega))
      have HCE := Lib.hid (fun i b (h : (splitL s)[i]? = some b) => cellN_at (w := w) h)
      have hlen : (splitL s).length ≤ 2000000 := by
        rw [splitL_len]
        have := Lib.countB_le ⟨#[47]⟩ (by decide) s.size s (Nat.le_refl _)
        omega
      have HN := Lib.hid (fun b w => isName_any b w)
      have HP := Lib.hid (show pathB s = (splitL s).all nameB by unfold pathB; rw [h1, decide_eq_true hz]; simp)
      generalize splitL s = L at *
      clear g
      go_enter Tryz.func39, Tryz.ntmps39
      go_wp2_with fail
      refine HS.out.mono ?_
      rintro e w1 ⟨rfl, rfl⟩
      have HB := Lib.hid ((Below.refl w.heap.size w).alloc (Nat.le_refl _) (.cells (L.map Value.string).toArray 9))
      have hsz : w.heap.size < (w.alloc (.cells (L.map Value.string).toArray 9)).heap.size := by simp
      generalize (w.alloc (.cells (L.map Value.string).toArray 9)) = w1 at *
      clear HS
      go_wp2_with fail
      go_loopw [13] (fun x wr => ∃ i : Nat, x = .int .i64 (i : Int) ∧ i ≤ L.length ∧ (L.take i).all nameB = true ∧ Below w1.heap.size w1 wr) (fun x _ => L.length - (intOf x).toNat)
      case atStart => exact ⟨0, rfl, Nat.zero_le _, by simp, Below.refl _ _⟩
      case round =>
        obtain ⟨i, rfl, hi, hall, hbr⟩ := hrel
        have HALL := Lib.hid hall
        have HBR := Lib.hid hbr
        clear hall hbr
        by_cases hlt : i < L.length
        · have hd : decide ((i : Int) < (L.length : Int)) = true := decide_eq_true (by omega)
          have hd' : decide (i < L.length) = true := decide_eq_true hlt
          obtain ⟨b, hb⟩ : ∃ b, L[i]? = some b := ⟨_, List.getElem?_eq_getElem hlt⟩
          have hc := (HBR.out.cell (p := ⟨w.heap.size, i, none⟩) hsz).trans (HCE.out i b hb)
          have HBB := Lib.hid hb
          clear hb
          have C := Lib.hid (HN.out b wr)
          cases hn : nameB b
          · rw [hn] at C
            have HNB := Lib.hid hn
            clear hn
            go_wp2_with fail
            refine C.out.mono ?_
            rintro e w2 ⟨rfl, hb2⟩
            have HB2 := Lib.hid (HB.out.trans ((HBR.out.trans (hb2.mono HBR.out.size)).mono (Nat.le_of_lt hsz)))
            clear hb2
            go_wp2_with fail
            go_ret
            refine ⟨?_, HB2.out⟩
            have e0 : L.all nameB = false := by
              cases hx : L.all nameB
              · rfl
              · have := List.all_eq_true.1 hx b (List.mem_of_getElem? HBB.out)
                rw [HNB.out] at this; cases this
            rw [← HV.out, HP.out, e0]; rfl
          · rw [hn] at C
            have HNB := Lib.hid hn
            clear hn
            go_wp2_with fail
            refine C.out.mono ?_
            rintro e w2 ⟨rfl, hb2⟩
            have HB2 := Lib.hid (HBR.out.trans (hb2.mono HBR.out.size))
            clear hb2
            go_wp2_with fail
            go_roundw
            case rel =>
              refine ⟨i + 1, by go_num, hlt, ?_, HB2.out⟩
              rw [takeN_snoc HBB.out, List.all_append, HALL.out]
              simp [HNB.out]
            case measure => simp [intOf]; omega
        · have hd : decide ((i : Int) < (L.length : Int)) = false := decide_eq_false (by omega)
          have hd' : decide (i < L.length) = false := decide_eq_false hlt
          have e0 : RowKit.Hid (L.all nameB = true) := by
            have h2 := HALL.out
            rw [List.take_of_length_le (by omega)] at h2
            exact h2
          go_wp2_with fail
          go_ret
          refine ⟨?_, HB.out.trans (HBR.out.mono (Nat.le_of_lt hsz))⟩
          rw [← HV.out, HP.out, e0.out]; rfl
    · have hd1 : (1024 : Int) < (s.size : Int) := by omega
      have hd2 : decide ((1024 : Int) < (s.size : Int)) = true := decide_eq_true hd1
      have HP := Lib.hid (show pathB s = false by unfold pathB; rw [h1, decide_eq_false hz]; simp)
      go_enter Tryz.func39, Tryz.ntmps39
      go_wp2_with fail
      go_ret
      exact ⟨by rw [← HV.out, HP.out]; rfl, Below.refl _ _⟩
  · go_enter Tryz.func39, Tryz.ntmps39
    go_wp2_with fail
    go_ret
    exact ⟨by rw [← HV.out]; unfold pathB; rw [h1]; rfl, Below.refl _ _⟩
end Go.Proofs.YtpjnjhklkgefcaaGreatDoor
