import Derived.Test.YtobiacdeoeogaaaGreatDoorCb
set_option linter.unusedVariables false
set_option linter.unusedSimpArgs false
namespace Go.Proofs.YtobiacdeoeogaaaGreatDoor
open Go.RowKit
theorem sqEC_end (b : List UInt8) (f at' run : Nat) (h : b.length ≤ at') : sqE b f at' run = lits (b.drop run) := by
  cases f with
  | zero => rfl
  | succ f => unfold sqE; rw [if_neg (by omega)]
theorem sqE_lit (b : List UInt8) (f at' run : Nat) (h : at' < b.length) (hb : best b at' = (0, 0)) : sqE b (f + 1) at' run = sqE b f (at' + 1) run := by
  rw [sqE, if_pos h, hb, if_pos rfl]
theorem sqE_copy (b : List UInt8) (f at' run n d : Nat) (h : at' < b.length) (hb : best b at' = (n, d)) (hn : n ≠ 0) : sqE b (f + 1) at' run = lits ((b.drop run).take (at' - run)) ++ (copyB n d ++ sqE b f (at' + n) (at' + n)) := by
  rw [sqE, if_pos h, hb, if_neg hn]
theorem range_rev (k : Nat) : (List.range (k + 1)).reverse = k :: (List.range k).reverse := by
  rw [List.range_succ, List.reverse_append]; rfl
theorem bestOf_step (b : List UInt8) (at' lim j : Nat) (cs : List Nat) (r : Nat × Nat) : bestOf b at' lim (j :: cs) r = bestOf b at' lim cs (if r.1 < ml b j at' lim then (ml b j at' lim, at' - j) else r) := rfl
theorem lits_len : ∀ (k : Nat) (l : List UInt8), l.length ≤ k → (lits l).length ≤ 2 * l.length
  | _, [], _ => by rw [lits_nil]; exact Nat.le_refl _
  | 0, a :: l, h => absurd h (by simp)
  | k + 1, a :: l, h => by
    rw [lits_cons (by simp), List.length_cons, List.length_append]
    have hl : (a :: l).length = l.length + 1 := rfl
    have ih := lits_len k ((a :: l).drop 128) (by rw [List.length_drop]; omega)
    rw [List.length_drop] at ih
    rw [List.length_take]
    omega
/-- what a run's flush does. -/
structure FlPost (rb ob : Nat) (r o : ByteArray) (w : World) (e : Ending) (w' : World) : Prop where
  e : e = .returned (.tuple #[])
  hr : Blk w' rb 9 #[.string ⟨#[]⟩]
  ho : ∃ o' : ByteArray, Blk w' ob 9 #[.string o'] ∧ o'.data.toList = o.data.toList ++ lits r.data.toList
  k : Kp [rb, ob] w w'
theorem conv1 (b : UInt8) (w : World) : (convert 32 9 (.slice (some ⟨w.heap.size, 0, none⟩) 1 1)).run Tryz.prog (w.alloc (.cells #[.int .u8 (b.toNat : Int)] 5)) = .ok (.string ⟨#[b]⟩) (w.alloc (.cells #[.int .u8 (b.toNat : Int)] 5)) :=
  conv_block (l := [b]) (heap_alloc_new w _) (by simp [Lib.byteCells])
theorem conv1d (b : UInt8) (w : World) : (convert 32 9 (.slice (some ⟨w.heap.size, 0, none⟩) 1 1)).run Tryz.prog (w.alloc (.cells #[.int .u8 (b.toNat : Int)] 5)).drew = .ok (.string ⟨#[b]⟩) (w.alloc (.cells #[.int .u8 (b.toNat : Int)] 5)).drew :=
  conv_block (l := [b]) (heap_alloc_new w _) (by simp [Lib.byteCells])
set_option maxRecDepth 100000 in
set_option maxHeartbeats 8000000 in
theorem flushC_ok (rb ob : Nat) (r o : ByteArray) (w : World) (hr : Blk w rb 9 #[.string r]) (ho : Blk w ob 9 #[.string o]) (hne : rb ≠ ob) (h1 : r.size ≤ 100000) (h2 : o.size ≤ 100000) : Calls Tryz.prog 63 #[pt rb, pt ob] w fun e w' => FlPost rb ob r o w e w' := by
  have HR := Lib.hid hr
  have HO := Lib.hid ho
  clear hr ho
  go_enter Tryz.func63, Tryz.ntmps63
  go_wp2_with fail
  go_loopg [] r.size (fun gk wr => ∃ x y : ByteArray, Blk wr rb 9 #[.string x] ∧ Blk wr ob 9 #[.string y] ∧ y.data.toList ++ lits x.data.toList = o.data.toList ++ lits r.data.toList ∧ Kp [rb, ob] w wr ∧ x.size ≤ gk ∧ x.size ≤ 100000 ∧ y.size + 2 * x.size ≤ 300000)
  case atStart => exact ⟨r, o, HR.out, HO.out, rfl, Kp.refl _ _, Nat.le_refl _, h1, by omega⟩
  case round =>
    clear HR HO
    obtain ⟨x, y, hX, hY, he, hK, hgk, hx1, hy1⟩ := hrel
    have HX := Lib.hid hX
    have HY := Lib.hid hY
    have HE := Lib.hid he
    have HK := Lib.hid hK
    have cx := hX.cell 0
    have cy := hY.cell 0
    have fx := hX.frozen 0
    have fy := hY.frozen 0
    simp at cx cy
    clear hX hY he hK
    by_cases hz : x.size = 0
    · have hd : x.toList.isEmpty = true := by
        rw [Lib.toList_data, nil_of_sizeC hz]; rfl
      have hxe : x = ⟨#[]⟩ := ba_extC (by rw [nil_of_sizeC hz])
      have hx0 : x.data.toList = [] := nil_of_sizeC hz
      have HX0 := Lib.hid hx0
      have HXE := Lib.hid hxe
      clear hx0 hxe
      go_wp2_with fail
      (try simp only [Exit.inBlock, Exit.then]); refine bodyPost_ret (results_none rfl _ _ _) rfl ?_
      have e1 := HE.out
      rw [HX0.out, lits_nil, List.append_nil] at e1
      have hX := HX.out
      rw [HXE.out] at hX
      exact ⟨rfl, hX, ⟨y, HY.out, e1⟩, HK.out⟩
    · have hd : x.toList.isEmpty = false := by
        rw [Lib.toList_data]
        cases e : x.data.toList with
        | nil => have := Lib.size_eq x; rw [e, List.length_nil] at this; omega
        | cons a b => rfl
      obtain ⟨m, hm⟩ : ∃ m : Nat, m = min 128 x.size := ⟨_, rfl⟩
      have hm1 : 1 ≤ m := by omega
      have hm2 : m ≤ 128 := by omega
      have hm3 : m ≤ x.size := by omega
      have hm3' : (m : Int) ≤ (x.size : Int) := by omega
      have hmin : min (128 : Int) (x.size : Int) = (m : Int) := by omega
      have hmin2 : (if (x.size : Int) < 128 then (x.size : Int) else 128) = (m : Int) := by split <;> omega
      have HM := Lib.hid hm
      clear hm
      obtain ⟨b0, hb0⟩ : ∃ b0 : UInt8, (m : Int) - 1 = (b0.toNat : Int) := by
        obtain ⟨b0, hb0⟩ := byte_of ((m : Int) - 1)
        exact ⟨b0, by omega⟩
      have HB0 := Lib.hid hb0
      have hb1 : (b0.toNat : Int) % 256 = (b0.toNat : Int) := by have := b0.toNat_lt; omega
      obtain ⟨pc, hpc⟩ : ∃ pc, x.extract 0 m = pc := ⟨_, rfl⟩
      obtain ⟨rs, hrs⟩ : ∃ rs, x.extract m x.size = rs := ⟨_, rfl⟩
      have hpz : pc.size = m := by rw [← hpc]; simp; omega
      have hrz : rs.size + m = x.size := by rw [← hrs]; simp; omega
      have hxl : x.data.toList ≠ [] := fun e => hz (by rw [Lib.size_eq, e]; rfl)
      have hlit : lits x.data.toList = [b0] ++ (pc.data.toList ++ lits rs.data.toList) := by
        have hl : x.size = x.data.toList.length := Lib.size_eq x
        rw [lits_cons hxl, ← hpc, ← hrs, ex_listC, ex_listC, ← hl, ← HM.out]
        have e1 : UInt8.ofNat (m - 1) = b0 := by
          apply UInt8.toNat_inj.1
          rw [UInt8.toNat_ofNat']
          have := HB0.out
          omega
        have e2 : x.data.toList.take 128 = (x.data.toList.drop 0).take (m - 0) := by
          rw [List.drop_zero, Nat.sub_zero]
          have := HM.out
          rcases Nat.lt_or_ge x.size 128 with h | h
          · rw [List.take_of_length_le (by omega), List.take_of_length_le (by omega)]
          · rw [show m = 128 by omega]
        have e3 : x.data.toList.drop 128 = (x.data.toList.drop m).take (x.size - m) := by
          rw [List.take_of_length_le (by rw [List.length_drop]; omega)]
          have := HM.out
          rcases Nat.lt_or_ge x.size 128 with h | h
          · rw [List.drop_eq_nil_of_le (by omega), List.drop_eq_nil_of_le (by omega)]
          · rw [show m = 128 by omega]
        rw [e1, e2, e3]
        rfl
      have HLIT := Lib.hid hlit
      have HPZ := Lib.hid hpz
      have HRZ := Lib.hid hrz
      clear hlit hxl
      obtain ⟨q, hq⟩ : ∃ q : ByteArray, (⟨#[b0]⟩ : ByteArray) = q := ⟨_, rfl⟩
      have hcv1 := conv1 b0 wr
      have hcv2 := conv1d b0 wr
      rw [hq] at hcv1 hcv2
      have hqz : q.size = 1 := by rw [← hq]; rfl
      have hql : q.data.toList = [b0] := by rw [← hq]
      have HQL := Lib.hid hql
      have HQZ := Lib.hid hqz
      have b1 : q.size + pc.size ≤ maxLen := by unfold maxLen; omega
      have c1 : ¬ maxLen < q.size + pc.size := by unfold maxLen; omega
      have d1 : q.size + pc.size ≤ 9223372036854775807 := by omega
      have f1 : ¬ 9223372036854775807 < q.size + pc.size := by omega
      have b2 : y.size + (q.size + pc.size) ≤ maxLen := by unfold maxLen; omega
      have c2 : ¬ maxLen < y.size + (q.size + pc.size) := by unfold maxLen; omega
      have d2 : y.size + (q.size + pc.size) ≤ 9223372036854775807 := by omega
      have f2 : ¬ 9223372036854775807 < y.size + (q.size + pc.size) := by omega
      have b3 : y.size + (q ++ pc).size ≤ maxLen := by rw [ByteArray.size_append]; unfold maxLen; omega
      have c3 : ¬ maxLen < y.size + (q ++ pc).size := by rw [ByteArray.size_append]; unfold maxLen; omega
      have d3 : y.size + (q ++ pc).size ≤ 9223372036854775807 := by rw [ByteArray.size_append]; omega
      have f3 : ¬ 9223372036854775807 < y.size + (q ++ pc).size := by rw [ByteArray.size_append]; omega
      clear hq hql hqz
      have hpn : pc.size + 1 ≤ 1000 := by omega
      have hw1 : IntKind.i64.wrap (b0.toNat : Int) = (b0.toNat : Int) := IntWalk.i64_in _ (by have := b0.toNat_lt; omega)
      have hw2 : IntKind.u8.wrap (b0.toNat : Int) = (b0.toNat : Int) := by
        have := b0.toNat_lt
        show (b0.toNat : Int) % 256 = _
        omega
      have fd1 : ((wr.alloc (.cells #[.int .u8 (b0.toNat : Int)] 5)).drew).frozen? ⟨ob, 0, none⟩ = false := (HY.out.old (.cells #[.int .u8 (b0.toNat : Int)] 5)).drw.frozen 0
      have fd2 : (wr.drew.alloc (.cells #[.int .u8 (b0.toNat : Int)] 5)).frozen? ⟨ob, 0, none⟩ = false := (HY.out.drw.old (.cells #[.int .u8 (b0.toNat : Int)] 5)).frozen 0
      go_upto_region 2 with (fail)
      have fd3 : (wr.alloc (.cells #[.int .u8 (b0.toNat : Int)] 5)).frozen? ⟨ob, 0, none⟩ = false := (HY.out.old (.cells #[.int .u8 (b0.toNat : Int)] 5)).frozen 0
      have xd3 : (wr.alloc (.cells #[.int .u8 (b0.toNat : Int)] 5)).cell? ⟨rb, 0, none⟩ = some (.string x) := (cell_old2 (World.block_lt_of_cell? _ _ cx)).trans cx
      have yd3 : (wr.alloc (.cells #[.int .u8 (b0.toNat : Int)] 5)).cell? ⟨ob, 0, none⟩ = some (.string y) := (cell_old2 (World.block_lt_of_cell? _ _ cy)).trans cy
      go_region
      have HY1 := Lib.hid ((HY.out.old (.cells #[.int .u8 (b0.toNat : Int)] 5)).set 0 (.string (y ++ (q ++ pc)))).drw
      have HK1 := Lib.hid (((Kp.refl [rb, ob] wr).alloc (.cells #[.int .u8 (b0.toNat : Int)] 5)).setCell ⟨ob, 0, none⟩ (.string (y ++ (q ++ pc))) (Or.inl (by simp))).drew
      have HX1 := Lib.hid (show Blk _ rb 9 #[.string x] from (((((Kp.refl [ob] wr).alloc (.cells #[.int .u8 (b0.toNat : Int)] 5)).setCell ⟨ob, 0, none⟩ (.string (y ++ (q ++ pc))) (Or.inl (by simp))).drew).blk HX.out (by simpa using hne)))
      clear fd1 fd2 fd3 xd3 yd3 hcv1 hcv2 fx fy cx cy
      generalize (((wr.alloc (.cells #[.int .u8 (b0.toNat : Int)] 5)).setCell ⟨ob, 0, none⟩ (.string (y ++ (q ++ pc)))).drew) = w1 at *
      have cx := HX1.out.cell 0
      have fx := HX1.out.frozen 0
      simp at cx
      obtain ⟨yn, hyn⟩ : ∃ yn, y ++ (q ++ pc) = yn := ⟨_, rfl⟩
      rw [hyn] at HY1
      have HYN := Lib.hid hyn
      clear hyn
      go_wp2_with fail
      go_roundg (gk - 1)
      case measure => have := HPZ.out; omega
      case rel =>
        have e1 : yn.data.toList = y.data.toList ++ ([b0] ++ pc.data.toList) := by rw [← HYN.out, ← HQL.out]; simp
        have e2 : yn.size = y.size + (1 + pc.size) := by rw [← HYN.out, ByteArray.size_append, ByteArray.size_append, HQZ.out]
        have hpz := HPZ.out
        have hrz := HRZ.out
        have k2 : Kp [rb] w1 (w1.setCell ⟨rb, 0, none⟩ (.string rs)) := (Kp.refl _ w1).setCell _ _ (Or.inl (by simp))
        refine ⟨rs, yn, HX1.out.set 0 _, k2.blk HY1.out (by simpa using fun e => hne e.symm), ?_, (HK.out.trans HK1.out).setCell _ _ (Or.inl (by simp)), by omega, by omega, by omega⟩
        rw [← HE.out, HLIT.out, e1]
        simp only [List.append_assoc]
end Go.Proofs.YtobiacdeoeogaaaGreatDoor
