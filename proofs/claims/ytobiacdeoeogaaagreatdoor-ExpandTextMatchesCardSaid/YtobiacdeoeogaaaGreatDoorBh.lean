import Derived.Test.YtobiacdeoeogaaaGreatDoorBg
set_option linter.unusedVariables false
set_option linter.unusedSimpArgs false
namespace Go.Proofs.YtobiacdeoeogaaaGreatDoor
open Go.RowKit Go.Maps Go.MapKept Go.WideElems
/-- all blocks but one, and but those of bytes, are as they were. -/
structure Ku (sb : Nat) (w w' : World) : Prop where
  os : w'.os = w.os
  tape : w'.tape = w.tape
  output : w'.output = w.output
  size : w.heap.size ≤ w'.heap.size
  keep : ∀ k o, w.heap[k]? = some o → k ≠ sb → (∀ cs fr, o ≠ .cells cs 5 fr) → w'.heap[k]? = some o
theorem Ku.refl (sb : Nat) (w : World) : Ku sb w w := ⟨rfl, rfl, rfl, Nat.le_refl _, fun _ _ h _ _ => h⟩
theorem Ku.trans {sb : Nat} {a b c : World} (h : Ku sb a b) (k : Ku sb b c) : Ku sb a c :=
  ⟨k.os.trans h.os, k.tape.trans h.tape, k.output.trans h.output, Nat.le_trans h.size k.size, fun i o ho hi hu => k.keep i o (h.keep i o ho hi hu) hi hu⟩
theorem Ku.kp {sb : Nat} {w w' : World} (k : Kp [sb] w w') : Ku sb w w' :=
  ⟨k.os, k.tape, k.output, k.size, fun i o ho hi _ => (k.block i (lt_of_blk ho) (by simpa using hi)).trans ho⟩
theorem own_nu {w : World} {base e size n g : Nat} {v : Value} {xs : List Value} (h : w.ownsRow base e size v n xs) (hv : v.ownBlock = some g) : ∃ cs, w.heap[g]? = some (.cells cs e (0, 0)) := by
  rcases h.2 with ⟨rfl, _⟩ | ⟨g', cap, cur, rfl, _, hg, _⟩
  · cases hv
  · obtain rfl : g' = g := Option.some.inj hv
    exact ⟨cur, hg⟩
theorem Ku.grown {sb base size n : Nat} {w wr w2 : World} {v : Value} {xs : List Value} (k : Ku sb w wr) (h : wr.ownsRow base 5 size v n xs) (hg : wr.grownBy w2 v.ownBlock) : Ku sb w w2 :=
  ⟨hg.os.trans k.os, hg.tape.trans k.tape, hg.output.trans k.output, Nat.le_trans k.size hg.size, fun i o ho hi hu => by
    have h1 := k.keep i o ho hi hu
    refine (hg.block i (lt_of_blk h1) (fun e => ?_)).trans h1
    obtain ⟨cs, hc⟩ := own_nu h e.symm
    rw [h1] at hc
    injection hc with hc
    exact hu _ _ hc⟩
theorem Ku.blk {sb g : Nat} {t : TypeId} {cs : Array Value} {w w' : World} (k : Ku sb w w') (h : Blk w g t cs) (hg : g ≠ sb) (ht : t ≠ 5) : Blk w' g t cs :=
  k.keep g _ h hg (fun cs fr e => by injection e with _ h2; exact ht h2)
section
variable {H : Type} {P : Program} {k : TypeId} {w w' : World} {base : Nat} {e : TypeId} {q : IntKind} {b n : Nat} {D : DataW H}
theorem shuns_of {No : Nat → Prop} (h : w.Shuns b No) (hb : w'.heap[b]? = w.heap[b]?) : w'.Shuns b No := fun es clock he => h es clock (hb.symm.trans he)
/-- the groups, over whatever turns blocks that no group's row is. -/
theorem groups_kp : ∀ (S : List Nat) (w' : World), Kp S w w' → w.ownsGroups P k base e q b n D → b ∉ S → w.Shuns b (· ∈ S) → w'.ownsGroups P k base e q b n D
  | [], w', hk, h, _, hs => h.kept (row := none) ⟨hk.os, hk.tape, hk.output, hk.size, fun i hi _ => hk.block i hi (by simp)⟩ (by simp) (fun es clock hb x hx => by cases x.val.ownBlock <;> simp)
  | s :: T, w', hk, h, hb, hs => by
    have hbl : b < w.heap.size := by obtain ⟨es, clock, h1, _⟩ := h; exact lt_of_blk h1
    have hbs : b ≠ s := fun e => hb (by simp [e])
    have hbT : b ∉ T := fun e => hb (by simp [e])
    have hsT : w.Shuns b (· ∈ T) := fun es clock h1 x hx g hg hm => hs es clock h1 x hx g hg (by simp [hm])
    by_cases hlt : s < w.heap.size
    · have hk1 : Kp T w { w' with heap := w'.heap.setIfInBounds s w.heap[s] } := ⟨hk.os, hk.tape, hk.output, by simpa using hk.size, fun i hi hn => by
        by_cases his : s = i
        · subst his
          simp [Nat.lt_of_lt_of_le hi hk.size, hi]
        · simp only [Array.getElem?_setIfInBounds, his, if_false]
          exact hk.block i hi (by simp only [List.mem_cons, not_or]; exact ⟨fun e => his e.symm, hn⟩)⟩
      have h1 := groups_kp T _ hk1 h hbT hsT
      refine h1.kept (row := some s) ⟨rfl, rfl, rfl, by simp, fun i hi hn => ?_⟩ (by simpa using hbs) ?_
      · have : s ≠ i := fun e => hn (by rw [e])
        simp [Array.getElem?_setIfInBounds, this]
      · refine World.Shuns.rowsOff (No := (· ∈ s :: T)) (shuns_of hs (hk1.block b hbl hbT)) (fun j hj => ?_)
        cases hj
        simp
    · exact groups_kp T w' ⟨hk.os, hk.tape, hk.output, hk.size, fun i hi hn => hk.block i hi (by simp only [List.mem_cons, not_or]; exact ⟨by omega, hn⟩)⟩ h hbT hsT
end
/-- the groups of places, over a writing of bytes. -/
theorem groups_ku {H : Type} {P : Program} {k : TypeId} {w w' : World} {base : Nat} {q : IntKind} {b n sb : Nat} {D : DataW H} (hu : Ku sb w w') (h : w.ownsGroups P k base 3 q b n D) (hb : b ≠ sb) (hsb : ∃ t cs fr, w.heap[sb]? = some (.cells cs t fr) ∧ t ≠ 3) : w'.ownsGroups P k base 3 q b n D := by
  classical
  have hk : Kp ((List.range w.heap.size).filter (fun i => decide (w'.heap[i]? ≠ w.heap[i]?))) w w' := ⟨hu.os, hu.tape, hu.output, hu.size, fun i hi hn => by
    simp only [List.mem_filter, List.mem_range, not_and] at hn
    have := hn hi
    simpa using this⟩
  have h0 := h
  obtain ⟨es, clock, h1, F, _⟩ := h0
  refine groups_kp _ w' hk h (fun hm => ?_) (fun es' clock' h1' x hx g hg hm => ?_)
  · have h2 := (List.mem_filter.1 hm).2
    have h3 := hu.keep b _ h1 hb (fun _ _ e => by cases e)
    rw [h3, h1] at h2
    simp at h2
  · obtain ⟨rfl, rfl⟩ : es = es' ∧ clock = clock' := by rw [h1] at h1'; simpa using h1'
    obtain ⟨y, hy⟩ := F.reads x hx
    obtain ⟨z, hz, _⟩ := rd_val hy
    obtain ⟨zs, hoi, _⟩ := rowElem_inv hz
    obtain ⟨cs, hc⟩ := own_nu hoi.1 hg
    have hgs : g ≠ sb := fun e => by
      obtain ⟨t, cs2, fr, h4, h5⟩ := hsb
      rw [e, h4] at hc
      injection hc with hc
      injection hc with _ hc
      exact h5 hc
    have h2 := (List.mem_filter.1 hm).2
    have h3 := hu.keep g _ hc hgs (fun _ _ e => by injection e with _ e _; exact absurd e (by decide))
    rw [h3, hc] at h2
    simp at h2
theorem ex_listH (t : ByteArray) (a b : Nat) : (t.extract a b).data.toList = (t.data.toList.drop a).take (b - a) := by
  rw [ByteArray.data_extract, Array.toList_extract]
/-- the bytes between two places. -/
def slB (b : ByteArray) (r e : Nat) : List UInt8 := (b.data.toList.drop r).take (e - r)
theorem slB_nil (b : ByteArray) (r : Nat) : slB b r r = [] := by unfold slB; simp
theorem lits_step (b : ByteArray) (r e c : Nat) (b0 : UInt8) (hlt : r < e) (he : e ≤ b.size) (hc : c = min 128 (e - r)) (hb : (c : Int) - 1 = (b0.toNat : Int)) : lits (slB b r e) = b0 :: ((b.extract r (r + c)).data.toList ++ lits (slB b (r + c) e)) := by
  have hs : b.size = b.data.toList.length := Lib.size_eq b
  have hl : (slB b r e).length = e - r := by unfold slB; simp; omega
  have hne : slB b r e ≠ [] := fun h => by rw [h] at hl; simp at hl; omega
  have e1 : UInt8.ofNat (min 128 (e - r) - 1) = b0 := by
    apply UInt8.toNat_inj.1
    rw [UInt8.toNat_ofNat']
    omega
  have e2 : (slB b r e).take 128 = (b.extract r (r + c)).data.toList := by
    rw [ex_listH]
    unfold slB
    rw [List.take_take]
    congr 1
    omega
  have e3 : (slB b r e).drop 128 = slB b (r + c) e := by
    unfold slB
    rw [List.drop_take, List.drop_drop]
    by_cases h : 128 ≤ e - r
    · rw [show r + c = r + 128 by omega]
      congr 1
    · rw [show e - r - 128 = 0 by omega, show e - (r + c) = 0 by omega]
      simp
  rw [lits_cons hne, hl, e1, e2, e3]
set_option maxRecDepth 100000 in
set_option maxHeartbeats 8000000 in
theorem flush2_ok {B sb n0 r0 : Nat} {b : ByteArray} {pv ov : Value} {l : List UInt8} (e : Nat) (w : World) (hr : r0 ≤ e) (he : e ≤ b.size) (hbs : b.size ≤ 1048576) (hn : n0 ≤ 4194304) (hB : B ≤ w.heap.size) (hsb : B ≤ sb) (hS : Blk w sb 98 (szC b pv ov r0)) (hO : w.ownsRow B 5 1 ov n0 (Lib.byteCells l)) :
    Calls Tryz.prog 49 #[pt sb, .int .i64 e] w fun x w' => x = .returned (.tuple #[]) ∧ (∃ ov' n, n ≤ n0 + 2 * (e - r0) ∧ Blk w' sb 98 (szC b pv ov' e) ∧ w'.ownsRow B 5 1 ov' n (Lib.byteCells (l ++ lits (slB b r0 e)))) ∧ Below B w w' ∧ Ku sb w w' := by
  obtain ⟨i0, hi0, hi1, hi2, hi3⟩ := info_parts info5
  have HS := Lib.hid hS
  have HO := Lib.hid hO
  clear hS hO
  obtain ⟨l0, hl0⟩ : ∃ l0, l = l0 := ⟨_, rfl⟩
  have HL0 := Lib.hid hl0
  clear hl0
  go_enter Tryz.func49, Tryz.ntmps49
  go_wp2_with fail
  go_loopg [] (e - r0) (fun gk wr => ∃ ov, ∃ l : List UInt8, ∃ n r, r0 ≤ r ∧ r ≤ e ∧ e - r ≤ gk ∧ n ≤ n0 + 2 * (r - r0) ∧ Blk wr sb 98 (szC b pv ov r) ∧ wr.ownsRow B 5 1 ov n (Lib.byteCells l) ∧ Below B w wr ∧ Ku sb w wr ∧ l ++ lits (slB b r e) = l0 ++ lits (slB b r0 e))
  case atStart => exact ⟨ov, l, n0, r0, Nat.le_refl _, hr, Nat.le_refl _, by omega, HS.out, HO.out, Below.refl _ _, Ku.refl _ _, by rw [HL0.out]⟩
  case round =>
    clear HS HO
    obtain ⟨ov, l, n, r, hr0, hre, hgk, hnn, hS, hO, hb, hku, hll⟩ := hrel
    have HKU := Lib.hid hku
    have HLL := Lib.hid hll
    clear hku hll
    have HS := Lib.hid hS
    have HO := Lib.hid hO
    have HB := Lib.hid hb
    have hws := Nat.le_trans hB hb.size
    have c0 := hS.cell 0
    have c2 := hS.cell 2
    have c3 := hS.cell 3
    simp at c0 c2 c3
    clear hS hO hb
    by_cases hlt : r < e
    · have hd : decide ((r : Int) < (e : Int)) = true := decide_eq_true (by omega)
      obtain ⟨c, hc⟩ : ∃ c : Nat, c = min 128 (e - r) := ⟨_, rfl⟩
      have hc1 : 1 ≤ c := by omega
      have hc2 : c ≤ 128 := by omega
      have hc3 : r + c ≤ e := by omega
      have hmin : min (128 : Int) ((e : Int) - (r : Int)) = (c : Int) := by omega
      have HC := Lib.hid hc
      clear hc
      obtain ⟨b0, hb0⟩ : ∃ b0 : UInt8, (c : Int) - 1 = (b0.toNat : Int) := by
        obtain ⟨b0, hb0⟩ := byte_of ((c : Int) - 1)
        exact ⟨b0, by omega⟩
      have HB0 := Lib.hid hb0
      have hb1 : (b0.toNat : Int) % 256 = (b0.toNat : Int) := by have := b0.toNat_lt; omega
      go_wp2_with (at_builtin; refine wpList_append_lies _ rfl _ _ 32 rfl B 5 i0 (.int .u8 0) 1 1 Tryz.underlying32 hi0 hi1 hi2 hi3 rfl (by decide) _ _ _ rfl (HO.out.alloc _) _ 1 1 [.int .u8 (b0.toNat : Int)] (by rfl) (by rfl) (World.news_of_block (cs := #[.int .u8 (b0.toNat : Int)]) (t := 5) (fr := (0, 0)) (heap_alloc_new _ _)) (by simp [Value.oneCell']) (by decide) (by unfold maxLen; omega) (by omega) ?c5 _ rfl ?_)
      case c5 => exact Nat.le_trans hws (by simp)
      intro g2 cap2 w2 hown hgrow hat hltg
      have HG := Lib.hid (step_Z (Nat.le_trans hws (by simp)) hsb (HS.out.old _) (HO.out.alloc _) (HB.out.alloc hws _) (l' := l ++ [b0]) (by
        have e : Lib.byteCells (l ++ [b0]) = Lib.byteCells l ++ [.int .u8 (b0.toNat : Int)] := by simp [Lib.byteCells]
        rw [e]; exact hown) hgrow)
      have HU2 := Lib.hid (((HKU.out.trans (Ku.kp ((Kp.refl [sb] wr).alloc _))).grown (HO.out.alloc _) hgrow).trans (Ku.kp ((Kp.refl [sb] w2).setCell ⟨sb, 2, none⟩ (.slice (some ⟨g2, 0, none⟩) (n + 1) cap2) (Or.inl (by simp)))))
      have d2 := HG.out.1.cell 2
      have f2 := HG.out.1.frozen 2
      simp at d2
      clear hown hgrow hat hltg HS HO HB HKU c0 c2 c3 hb0 hb1
      go_upto_region 3 with (fail)
      clear d2 f2
      generalize (w2.setCell ⟨sb, 2, none⟩ _) = w3 at *
      have HS3 := Lib.hid HG.out.2.1
      have HO3 := Lib.hid HG.out.2.2.1
      have HB3 := Lib.hid HG.out.2.2.2
      have hws3 : B ≤ w3.heap.size := Nat.le_trans hB HG.out.2.2.2.size
      clear HG hws
      have c0 := HS3.out.cell 0
      have c2 := HS3.out.cell 2
      have c3 := HS3.out.cell 3
      simp at c0 c2 c3
      have hlt2 := HS3.out.lt
      have HEX := Lib.hid (show (b.extract r (r + c)).size = c from by simp; omega)
      have hrc : (r : Int) + (c : Int) ≤ (b.size : Int) := by omega
      have hrn : ((r : Int) + (c : Int)).toNat = r + c := by omega
      have hr1 : (0 : Int) ≤ (r : Int) + (c : Int) := by omega
      have hwr : IntKind.i64.wrap ((r : Int) + (c : Int)) = (r : Int) + (c : Int) := IntWalk.i64_in _ (by omega)
      have hr2 : (r : Int) ≤ (r : Int) + (c : Int) := by omega
      go_region_law ((refine step_append_str (by rfl) _ _ 32 9 (by rfl) B 5 i0 Tryz.underlying32 Tryz.underlying9 hi0 hi1 hi2 hi3 _ _ _ (by rfl) (HO3.out.drew') (b.extract r (r + c)) (by rfl) ?_ ?_ ?_ ?_; (rw [HEX.out]; unfold maxLen; omega); (rw [HEX.out]; omega); exact hws3; intro v' w4 hown hgrow; rw [HEX.out] at hown; obtain ⟨g4, cap4, rfl⟩ := own_form hown (by omega); have HG := Lib.hid (step_Z (wr := w3.drew) (l' := l ++ [b0] ++ (b.extract r (r + c)).data.toList) hws3 hsb HS3.out.drw HO3.out.drew' HB3.out.drew (by (have e : Lib.byteCells (l ++ [b0] ++ (b.extract r (r + c)).data.toList) = Lib.byteCells (l ++ [b0]) ++ Lib.strCells (b.extract r (r + c)) := by simp [Lib.byteCells, Lib.strCells]); rw [e]; exact hown) hgrow); have HU4 := Lib.hid (((HU2.out.trans (Ku.kp ((Kp.refl [sb] w3).drew))).grown (HO3.out.drew') hgrow).trans (Ku.kp ((Kp.refl [sb] w4).setCell ⟨sb, 2, none⟩ (.slice (some ⟨g4, 0, none⟩) (n + 1 + c) cap4) (Or.inl (by simp))))); have f2 := HG.out.1.frozen 2; have d2 := HG.out.1.cell 2; simp at d2))
      all_goals
        clear hown hgrow f2 d2
        generalize (w4.setCell ⟨sb, 2, none⟩ _) = w5 at *
        have d3 := HG.out.2.1.cell 3
        have f3 := HG.out.2.1.frozen 3
        simp at d3
        go_wp2_with fail
        have k : Kp [sb] w5 (w5.setCell ⟨sb, 3, none⟩ (.int .i64 ((r + c : Nat) : Int))) := (Kp.refl _ w5).setCell _ _ (Or.inl (by simp))
        have e3 : (r : Int) + (c : Int) = ((r + c : Nat) : Int) := by omega
        go_roundg (gk - 1)
        case measure => omega
        case rel =>
          rw [e3]
          exact ⟨_, _, n + 1 + c, r + c, by omega, hc3, by omega, by omega, HG.out.2.1.set 3 _, own_kp HG.out.2.2.1 k (fun x hx => by simpa using own_ne HG.out.2.2.1 HG.out.2.1 (by decide) x hx), HG.out.2.2.2.setCell (p := ⟨sb, 3, none⟩) hsb _, HU4.out.trans (Ku.kp k), by rw [← HLL.out, lits_step b r e c b0 hlt he HC.out HB0.out]; simp [List.append_assoc]⟩
    · have hd : decide ((r : Int) < (e : Int)) = false := decide_eq_false (by omega)
      go_wp2_with fail
      go_end0
      have h : r = e := by omega
      subst h
      have h2 : l = l0 ++ lits (slB b r0 r) := by have := HLL.out; rwa [slB_nil, lits_nil, List.append_nil] at this
      rw [HL0.out, ← h2]
      exact ⟨rfl, ⟨ov, n, by omega, HS.out, HO.out⟩, HB.out, HKU.out⟩
end Go.Proofs.YtobiacdeoeogaaaGreatDoor
