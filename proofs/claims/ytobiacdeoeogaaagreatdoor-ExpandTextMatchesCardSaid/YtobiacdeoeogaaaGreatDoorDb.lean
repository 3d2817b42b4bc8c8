import Derived.Test.YtobiacdeoeogaaaGreatDoorDa
import Derived.Test.YtobiacdeoeogaaaGreatDoorGs
import Derived.Test.YtobiacdeoeogaaaGreatDoorAs
set_option linter.unusedVariables false
set_option linter.unusedSimpArgs false
namespace Go.Proofs.YtobiacdeoeogaaaGreatDoor
open Go.RowKit
set_option maxRecDepth 100000 in
set_option maxHeartbeats 4000000 in
theorem first2_ok (g : Nat) (a b : Int) (w : World) (h : Blk w g 22 #[.int .i64 a, .int .i64 b]) : Calls Tryz.prog 7 #[sl g 2 2] w fun e w' => e = .returned (.int .i64 (if a ≠ 0 then a else b)) ∧ w' = w := by
  obtain ⟨v, hv⟩ : ∃ v, (if a ≠ 0 then a else b) = v := ⟨_, rfl⟩
  rw [hv]
  have HV := Lib.hid hv
  clear hv
  have c0 := h.cell 0
  have c1 := h.cell 1
  simp at c0 c1
  cases ha : (a != 0)
  · cases hb : (b != 0)
    · go_enter Tryz.func7, Tryz.ntmps7
      go_wp2_with fail
      go_rounds 3
      go_ret
      have ea : a = 0 := by simpa using ha
      have eb : b = 0 := by simpa using hb
      have hx : (0 : Int) = v := by rw [← HV.out]; simp [ea, eb]
      exact ⟨by rw [← hx]; rfl, rfl⟩
    · go_enter Tryz.func7, Tryz.ntmps7
      go_wp2_with fail
      go_rounds 3
      go_ret
      have ea : a = 0 := by simpa using ha
      have hx : (b : Int) = v := by rw [← HV.out]; simp [ea]
      exact ⟨by rw [← hx]; rfl, rfl⟩
  · go_enter Tryz.func7, Tryz.ntmps7
    go_wp2_with fail
    go_rounds 3
    go_ret
    have ea : a ≠ 0 := by simpa using ha
    have hx : a = v := by rw [← HV.out]; simp [ea]
    exact ⟨by rw [← hx]; rfl, rfl⟩
theorem body_le : ∀ (cs : List (List UInt8)), (∀ c ∈ cs, c.length ≤ 16384) → (bodyOf cs).length ≤ cs.flatten.length
  | [], _ => Nat.le_refl _
  | c :: cs, h => by
    have h1 := (enc1_len c (h c (by simp))).2.2.2
    have h2 := body_le cs (fun d hd => h d (by simp [hd]))
    rw [bodyOf_consC, List.length_append, List.flatten_cons, List.length_append]
    omega
theorem sqT_size (n : Nat) (t : List UInt8) (h1 : 16 ≤ n) (h2 : n ≤ 16384) : (sqT n t).length ≤ 4 + (t.length + (4 * ((t.length + n - 1) / n) + 12)) := by
  have hb := body_le (chunksOf n t) (fun c hc => Nat.le_trans (chunksOf_le _ t (Nat.le_refl _) c hc) h2)
  rw [chunksOf_flat (by omega) _ t (Nat.le_refl _)] at hb
  rw [sqT_len, chunksOf_len (by omega) _ t (Nat.le_refl _)]
  omega
/-- the law asks for an error. -/
def sqErr (n : Int) (text : ByteArray) (s : ByteArray) (v : Int) : Prop := (n < 16 ∨ 16384 < n ∨ 1048576 < text.size) ∧ s = ⟨#[]⟩ ∧ v ≠ 0
set_option maxRecDepth 100000 in
set_option maxHeartbeats 8000000 in
theorem law3_bad (n : Int) (text : ByteArray) (w : World) (g : Gl w) (inr big : Bool) (v : Int) (hv : v ≠ 0) (hinr : (decide (16 ≤ n) && decide (n ≤ 16384)) = inr) (hbig : decide ((text.size : Int) > 1048576) = big) (hval : v = if inr = false then 7 else if big = true then 8 else 0)
    (hS : Calls Tryz.prog 6 #[.int .i64 n, .string text] w fun e w' => e = .returned (.tuple #[.string ⟨#[]⟩, .int .i64 v]) ∧ w' = w) :
    Calls Tryz.prog 3 #[.int .i64 n, .string text] w fun e w' => e = .returned (.bool true) ∧ Below w.heap.size w w' := by
  have WW := Lib.hid (fun wx (hb : Below w.heap.size w wx) => wraps_ok wx (g.below hb))
  have HS := Lib.hid hS
  have HW := fun w => within_ok n 16 16384 w
  rw [hinr] at HW
  have GW := Lib.hid HW
  obtain ⟨x1, hx1⟩ : ∃ x : Int, (if (!inr) = true then (7 : Int) else 0) = x := ⟨_, rfl⟩
  obtain ⟨x2, hx2⟩ : ∃ x : Int, (if big = true then (8 : Int) else 0) = x := ⟨_, rfl⟩
  have HW1 := fun w => when_ok (!inr) 7 w
  have HW2 := fun w => when_ok big 8 w
  rw [hx1] at HW1
  rw [hx2] at HW2
  have G1 := Lib.hid HW1
  have G2 := Lib.hid HW2
  have HFI := fun (w7 : World) => first2_ok w7.heap.size x1 x2 (w7.alloc (.cells #[.int .i64 x1, .int .i64 x2] 22)) (Blk.new _ _ _)
  have hfw : (if x1 ≠ 0 then x1 else x2) = v := by
    rw [← hx1, ← hx2, hval]
    cases inr <;> cases big <;> rfl
  rw [hfw] at HFI
  have GF := Lib.hid HFI
  have hv0 : (v == 0) = false := by simpa using hv
  have hvn : (v != 0) = true := by simpa using hv
  have B0 := Lib.hid (Below.refl w.heap.size w)
  clear hx1 hx2 hfw HW HW1 HW2 HFI hS hval hinr hv g
  go_enter Tryz.func3, Tryz.ntmps3
  go_wp2_with fail
  refine HS.out.mono ?_
  rintro e w1 ⟨rfl, rfl⟩
  go_wp2_with fail
  refine (GW.out _).mono ?_
  rintro e w2 ⟨rfl, rfl⟩
  go_wp2_with fail
  refine (G1.out _).mono ?_
  rintro e w3 ⟨rfl, rfl⟩
  go_wp2_with fail
  refine (G2.out _).mono ?_
  rintro e w4 ⟨rfl, rfl⟩
  go_wp2_with fail
  refine (GF.out _).mono ?_
  rintro e w5 ⟨rfl, rfl⟩
  have B5 := Lib.hid (B0.out.alloc B0.out.size (.cells #[.int .i64 x1, .int .i64 x2] 22))
  generalize (World.alloc _ (.cells #[.int .i64 x1, .int .i64 x2] 22)) = w5 at *
  go_wp2_with fail
  refine (WW.out _ B5.out).mono ?_
  rintro e w6 ⟨rfl, hb6⟩
  have B6 := Lib.hid (B5.out.trans (hb6.mono B5.out.size))
  clear hb6 B5
  go_wp2_with fail
  refine (WW.out _ B6.out).mono ?_
  rintro e w7 ⟨rfl, hb7⟩
  have B7 := Lib.hid (B6.out.trans (hb7.mono B6.out.size))
  clear hb7 B6
  go_wp2_with fail
  go_ret
  exact ⟨rfl, B7.out⟩
set_option maxRecDepth 100000 in
set_option maxHeartbeats 8000000 in
theorem law3_good (n : Nat) (text : ByteArray) (w : World) (g : Gl w) (h1 : 16 ≤ n) (h2 : n ≤ 16384) (h3 : text.size ≤ 1048576) :
    Calls Tryz.prog 3 #[.int .i64 (n : Int), .string text] w fun e w' => e = .returned (.bool true) ∧ Below w.heap.size w w' := by
  have WW := Lib.hid (fun wx (hb : Below w.heap.size w wx) => wraps_ok wx (g.below hb))
  have SQ := SqueezeText_ok n text w h1 h2 h3
  have RT := fun w => fun h : text.size ≤ 1500 => refText_ok n text w h1 h2 (by omega)
  obtain ⟨sq, hsq⟩ : ∃ sq : ByteArray, (⟨(sqT n text.data.toList).toArray⟩ : ByteArray) = sq := ⟨_, rfl⟩
  rw [hsq] at SQ RT
  have hql : sq.data.toList = sqT n text.data.toList := by rw [← hsq]
  have hqz : sq.size ≤ 2097152 := by
    rw [Lib.size_eq, hql]
    have := sqT_size n text.data.toList h1 h2
    rw [← Lib.size_eq] at this
    have h4 : (text.size + n - 1) / n ≤ (text.size + n - 1) / 16 := Nat.div_le_div_left h1 (by omega)
    omega
  have XT := Lib.hid (fun w => expandText_ok sq w hqz)
  have HG := Lib.hid (show Good sq.data.toList n text.data.toList from ⟨h1, h2, by rw [← Lib.size_eq]; exact h3, hql.symm⟩)
  have GSQ := Lib.hid SQ
  have GRT := Lib.hid RT
  have GW := Lib.hid (show ∀ w, Calls Tryz.prog 9 #[.int .i64 (n : Int), .int .i64 16, .int .i64 16384] w fun e w' => e = .returned (.bool true) ∧ w' = w from fun w => by
    have := within_ok (n : Int) 16 16384 w
    rw [show (decide ((16 : Int) ≤ (n : Int)) && decide ((n : Int) ≤ 16384)) = true by simp; omega] at this
    exact this)
  have G1 := Lib.hid (show ∀ w, Calls Tryz.prog 8 #[.bool false, .int .i64 7] w fun e w' => e = .returned (.int .i64 0) ∧ w' = w from fun w => when_ok false 7 w)
  have G2 := Lib.hid (show ∀ w, Calls Tryz.prog 8 #[.bool false, .int .i64 8] w fun e w' => e = .returned (.int .i64 0) ∧ w' = w from fun w => when_ok false 8 w)
  have GF := Lib.hid (show ∀ w7 : World, Calls Tryz.prog 7 #[sl w7.heap.size 2 2] (w7.alloc (.cells #[.int .i64 0, .int .i64 0] 22)) fun e w' => e = .returned (.int .i64 0) ∧ w' = (w7.alloc (.cells #[.int .i64 0, .int .i64 0] 22)) from fun w7 => first2_ok w7.heap.size 0 0 _ (Blk.new _ _ _))
  have hbig : decide ((text.size : Int) > 1048576) = false := decide_eq_false (by omega)
  have hbig2 : ¬ (1048576 : Int) < (text.size : Int) := by omega
  have B0 := Lib.hid (Below.refl w.heap.size w)
  clear SQ RT hsq hql hqz g
  go_enter Tryz.func3, Tryz.ntmps3
  go_wp2_with fail
  refine GSQ.out.mono ?_
  rintro e w1 ⟨rfl, hb1⟩
  have B1 := Lib.hid hb1
  clear hb1 B0 GSQ
  go_wp2_with fail
  refine (GW.out _).mono ?_
  rintro e w2 ⟨rfl, rfl⟩
  go_wp2_with fail
  refine (G1.out _).mono ?_
  rintro e w3 ⟨rfl, rfl⟩
  go_wp2_with fail
  refine (G2.out _).mono ?_
  rintro e w4 ⟨rfl, rfl⟩
  go_wp2_with fail
  refine (GF.out _).mono ?_
  rintro e w5 ⟨rfl, rfl⟩
  have B5 := Lib.hid (B1.out.alloc B1.out.size (.cells #[.int .i64 0, .int .i64 0] 22))
  generalize (World.alloc _ (.cells #[.int .i64 0, .int .i64 0] 22)) = w5 at *
  clear B1
  go_wp2_with fail
  refine (WW.out _ B5.out).mono ?_
  rintro e w6 ⟨rfl, hb6⟩
  have B6 := Lib.hid (B5.out.trans (hb6.mono B5.out.size))
  clear hb6 B5
  go_wp2_with fail
  refine (XT.out _).mono ?_
  rintro e w7 ⟨⟨x, c, rfl, hx⟩, hb7⟩
  have B7 := Lib.hid (B6.out.trans (hb7.mono B6.out.size))
  have hxc : x = text ∧ c = 0 := by
    rcases hx with ⟨hc, b', hg'⟩ | ⟨_, _, hn⟩
    · exact ⟨ba_extC (good_one HG.out hg').2.symm, hc⟩
    · exact (hn _ _ HG.out).elim
  obtain ⟨rfl, rfl⟩ := hxc
  clear hx hb7 B6 HG XT
  by_cases h15 : 1500 < x.size
  · have d15 : decide ((x.size : Int) > 1500) = true := decide_eq_true (by omega)
    have d15' : (1500 : Int) < (x.size : Int) := by omega
    go_wp2_with fail
    go_ret
    exact ⟨rfl, B7.out⟩
  · have d15 : decide ((x.size : Int) > 1500) = false := decide_eq_false (by omega)
    have d15' : ¬ (1500 : Int) < (x.size : Int) := by omega
    go_wp2_with fail
    refine (GRT.out _ (by omega)).mono ?_
    rintro e w8 ⟨rfl, hb8⟩
    have B8 := Lib.hid (B7.out.trans (hb8.mono B7.out.size))
    clear hb8 B7
    go_wp2_with fail
    go_ret
    exact ⟨rfl, B8.out⟩
theorem law3_ok (n : Int) (text : ByteArray) (w : World) (g : Gl w) :
    Calls Tryz.prog 3 #[.int .i64 n, .string text] w fun e w' => e = .returned (.bool true) ∧ Below w.heap.size w w' := by
  by_cases h1 : n < 16
  · refine law3_bad n text w g false (decide ((text.size : Int) > 1048576)) 7 (by decide) ?_ rfl rfl ((SqueezeText_low n text w h1).mono fun e w' h => h)
    rw [decide_eq_false (by omega)]; rfl
  by_cases h2 : 16384 < n
  · refine law3_bad n text w g false (decide ((text.size : Int) > 1048576)) 7 (by decide) ?_ rfl rfl ((SqueezeText_high n text w h2).mono fun e w' h => h)
    rw [decide_eq_false (show ¬ n ≤ 16384 by omega), Bool.and_false]
  by_cases h3 : 1048576 < text.size
  · refine law3_bad n text w g true true 8 (by decide) ?_ (decide_eq_true (by omega)) rfl ((SqueezeText_long n text w (by omega) (by omega) h3).mono fun e w' h => h)
    rw [decide_eq_true (by omega), decide_eq_true (by omega)]; rfl
  obtain ⟨k, rfl⟩ : ∃ k : Nat, n = (k : Int) := ⟨n.toNat, by omega⟩
  exact law3_good k text w g (by omega) (by omega) (by omega)
end Go.Proofs.YtobiacdeoeogaaaGreatDoor
