import Derived.Test.YtobiacdeoeogaaaGreatDoorF
set_option linter.unusedVariables false
set_option linter.unusedSimpArgs false
namespace Go.Proofs.YtobiacdeoeogaaaGreatDoor
open Go.RowKit
theorem find_e {B : Nat} {q : Mm} (s : ByteArray) (w : World) (g : Gl w) (h : Nm s) (hq : MemE B wideT q w) : Calls Tryz.prog 186 #[pt q.m, .string s] w fun e w' => e = .returned (.pointer none) ∧ Below w.heap.size w w' :=
  find_one q.m q.r q.km _ _ s _ (Or.inl rfl) w g h hq.hm rfl rfl hq.hr rfl (by
    rcases Nat.lt_or_ge q.km w.heap.size with h1 | h1
    · exact h1
    · have := hq.hk; rw [Array.getElem?_eq_none h1] at this; cases this) (looks_none hq.hk)
theorem way_e {B : Nat} {q : Mm} (s : ByteArray) (w : World) (g : Gl w) (h : Nm s) (hq : MemE B wideT q w) : Calls Tryz.prog 187 #[pt q.m, .string s] w fun e w' => e = .returned (.tuple #[pt q.r, .int .i64 0]) ∧ Below w.heap.size w w' :=
  way_one q.m q.r _ s w g h hq.hm rfl
set_option maxRecDepth 100000 in
set_option maxHeartbeats 1000000 in
theorem has_ok (m : Nat) (bit : Int) (cs : Array Value) (w : World) (hm : Blk w m 115 cs) (h0 : cs[0]? = some (.int .i64 3071)) : Calls Tryz.prog 177 #[pt m, .int .i64 bit] w fun e w' => e = .returned (.bool (bits .and .i64 3071 bit != 0)) ∧ w' = w := by
  have hc : w.cell? ⟨m, 0, none⟩ = some (.int .i64 3071) := (hm.cell 0).trans h0
  clear h0 hm
  go_enter Tryz.func177, Tryz.ntmps177
  go_wp2
  go_ret
  exact ⟨rfl, rfl⟩
set_option maxRecDepth 100000 in
set_option maxHeartbeats 1000000 in
theorem place_e {B : Nat} {q : Mm} (s : ByteArray) (w : World) (g : Gl w) (h : Nm s) (hq : MemE B wideT q w) : Calls Tryz.prog 184 #[pt q.m, .string s] w fun e w' => e = .returned (.int .i64 0) ∧ Below w.heap.size w w' := by
  have HW := Lib.hid (way_e s w g h hq)
  have HF := Lib.hid (fun w1 (hb : Below w.heap.size w w1) => find_e s w1 (g.below hb) h (hq.below hb))
  have HP := Lib.hid (fun w1 (hb : Below w.heap.size w w1) => storeParts_ok s w1 (g.below hb) h)
  have HQ := Lib.hid (fun w1 (hb : Below w.heap.size w w1) => hq.below hb)
  clear g hq h
  go_enter Tryz.func184, Tryz.ntmps184
  go_wp2_with fail
  refine HW.out.mono ?_
  rintro e w1 ⟨rfl, hb1⟩
  have c1 : w1.cell? ⟨q.r, 1, none⟩ = some (.bool true) := (HQ.out w1 hb1).hr.cell 1
  go_wp2_with fail
  refine (HF.out w1 hb1).mono ?_
  rintro e w2 ⟨rfl, hb2⟩
  have hb := hb1.trans (hb2.mono hb1.size)
  have H1 := Lib.hid hb1.size
  clear c1 hb1 hb2
  go_wp2_with fail
  refine (has_ok q.m 1 _ w2 (HQ.out w2 hb).hm rfl).mono ?_
  rintro e w2 ⟨rfl, rfl⟩
  have e1 : (bits .and .i64 3071 1 != 0) = true := by decide
  rw [e1]
  clear e1
  go_wp2_with fail
  refine (HP.out _ hb).mono ?_
  rintro e w3 ⟨b, rfl, _, _, hb3⟩
  have hbb := hb.trans (hb3.mono hb.size)
  clear hb hb3
  go_wp2_with fail
  go_ret
  exact ⟨rfl, hbb⟩
end Go.Proofs.YtobiacdeoeogaaaGreatDoor
