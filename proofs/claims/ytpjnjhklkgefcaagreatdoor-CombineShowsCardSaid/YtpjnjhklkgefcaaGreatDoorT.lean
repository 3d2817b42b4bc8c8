import Derived.Test.YtpjnjhklkgefcaaGreatDoorS
import Derived.Lib.AppendStr
import Derived.Lib.Strings
import Derived.Deep.RegionLaw
import Derived.StillTailTactics
set_option linter.unusedVariables false
set_option linter.unusedSimpArgs false
namespace Go.Proofs.YtpjnjhklkgefcaaGreatDoor
open Go.RowKit
theorem step_append_str {P : Program} {w : World} {ops : Array Oper} {o : Oper} {a : Act} {K : Act → World → Prop} {Q : Exit → Act → World → Prop} {E : Prop} (hgd : o.guard = none) (sl x : Operand) (t u : TypeId)
    (ho : o.op = .call { callee := .builtin .append, args := #[sl, x], argTypes := #[t, u] })
    (base : Nat) (e : TypeId) (i : TypeInfo) (ht : P.underlying t = some (.slice e)) (hu : P.underlying u = some .string) (hi : P.info? e = some i) (hz : i.zero = some (.int .u8 0))
    (hsize : i.size = 1) (hby : i.bytes = 1)
    (v : Value) (n : Nat) (xs : List Value) (hs : a.eval sl = v) (hown : w.ownsRow base e 1 v n xs) (s : ByteArray) (hx : a.eval x = .string s)
    (h63 : n + s.size ≤ maxLen) (hbytes : n + s.size ≤ 140737488355328) (hbase : base ≤ w.heap.size)
    (h : ∀ v' w', w'.ownsRow base e 1 v' (n + s.size) (xs ++ Lib.strCells s) → w.grownBy w' v.ownBlock → K (a.put o.dst v') w') :
    if Region.wanted o (yielded ops a.tmps) = true then Oper.wp P o a w K Q else E := by
  have hw : Region.wanted o (yielded ops a.tmps) = true := by simp [Region.wanted, hgd]
  rw [if_pos hw]
  obtain ⟨v', w', hr, h2, h3, h4⟩ := Lib.run_append_own_string (P := P) w base t u o.type e i ht hu hi hz hsize hby v n xs hown s h63 hbytes hbase
  unfold Oper.wp execOp
  simp only [ho, resolve, invoke, builtin, Sem.run_bind, Sem.run_pure, Result.andThen_ok, List.map_toArray, List.map_cons, List.map_nil, hs, hx, hr]
  exact h v' w' h2 h3
theorem arr_at (g cap : Nat) (w : World) : (Instr.arrayAt 309 (.slice (some ⟨g, 0, none⟩) 64 cap)).run Tryz.prog w = .ok (.pointer (some ⟨g, 0, none⟩)) w := by kernel_rfl
theorem nil_piece (a : Addr) (w : World) : (nilAhead 282 301 (.pointer (some a)) "wherryman/sums.piece").run Tryz.prog w = .ok (some false) w := by kernel_rfl
theorem method_piece (a : Addr) (w : World) : (method 282 301 (.pointer (some a)) "wherryman/sums.piece").run Tryz.prog w = .ok (375, .pointer (some a)) w := by kernel_rfl
def strLen : Value → Nat
  | .string s => s.size
  | _ => 0
/-- the table of SHA-256 holds words. -/
def TabW (w : World) : Prop := ∀ i, i < 64 → ∃ v : Int, w.cell? ⟨11, i, none⟩ = some (.int .u32 v)
theorem TabW.below {B : Nat} {w w' : World} (h : TabW w) (hb : Below B w w') (hB : 11 < B) : TabW w' := fun i hi => by
  obtain ⟨v, hv⟩ := h i hi
  exact ⟨v, (hb.cell (p := ⟨11, i, none⟩) hB).trans hv⟩
theorem own_kp {S : List Nat} {w w' : World} {base e size n : Nat} {v : Value} {xs : List Value} (h : w.ownsRow base e size v n xs) (k : Kp S w w') (hn : ∀ b, v.ownBlock = some b → b ∉ S) : w'.ownsRow base e size v n xs := by
  obtain ⟨h1, h2⟩ := h
  refine ⟨h1, ?_⟩
  rcases h2 with h2 | ⟨g, cap, cur, rfl, hb, hg, r⟩
  · exact Or.inl h2
  · exact Or.inr ⟨g, cap, cur, rfl, hb, blockOf_kp hg k (hn g rfl), r⟩
theorem own_ne {w : World} {base e size n g : Nat} {v : Value} {xs : List Value} {t : TypeId} {cs : Array Value} (h : w.ownsRow base e size v n xs) (hb : Blk w g t cs) (ht : t ≠ e) : ∀ b, v.ownBlock = some b → b ≠ g := by
  intro b hv
  obtain ⟨_, h2⟩ := h
  rcases h2 with ⟨rfl, _⟩ | ⟨g', cap, cur, rfl, _, hg, _⟩
  · cases hv
  · obtain rfl : g' = b := Option.some.inj hv
    rintro rfl
    unfold Blk at hb
    rw [hg] at hb
    injection hb with h1
    injection h1 with _ h3
    exact ht h3.symm
theorem _root_.Go.World.ownsRow.drew' {w : World} {base e size n : Nat} {v : Value} {xs : List Value} (h : w.ownsRow base e size v n xs) : w.drew.ownsRow base e size v n xs := h
theorem own_form {w : World} {base e size n : Nat} {v : Value} {xs : List Value} (h : w.ownsRow base e size v n xs) (hn : 0 < n) : ∃ g cap, v = .slice (some ⟨g, 0, none⟩) n cap := by
  rcases h.2 with ⟨_, h⟩ | ⟨g, cap, cur, h, _⟩
  · omega
  · exact ⟨g, cap, h⟩
theorem own_bytes {w : World} {base n g cap : Nat} {l : List UInt8} (h : w.ownsRow base 5 1 (.slice (some ⟨g, 0, none⟩) n cap) n (Lib.byteCells l)) : BytesAt w g n := by
  intro i hi
  obtain ⟨hl, h2⟩ := h
  have hn : l.length = n := by simpa [Lib.byteCells] using hl
  rcases h2 with ⟨hv, _⟩ | ⟨g', cap', cur, hv, _, hg, _, _, _, ht⟩
  · cases hv
  · injection hv with h1
    injection h1 with h1
    injection h1 with h1
    subst h1
    have hi' : i < l.length := by omega
    refine ⟨(l[i].toNat : Int), ?_⟩
    rw [cell_of_row w _ i cur _ _ hg]
    have h1 : (cur.toList.take (n * 1))[i]? = some (.int .u8 (l[i].toNat : Int)) := by rw [ht]; simp [Lib.byteCells, hi']
    rw [List.getElem?_take, if_pos (by omega)] at h1
    simpa using h1
theorem own_zero {w : World} {base e size n g cap : Nat} {xs : List Value} (h : w.ownsRow base e size (.slice (some ⟨g, 0, none⟩) n cap) n xs) : w.ownsRow base e size (.slice (some ⟨g, 0, none⟩) 0 cap) 0 [] := by
  obtain ⟨hl, h2⟩ := h
  rcases h2 with ⟨hv, _⟩ | ⟨g', cap', cur, hv, hb, hg, hc, hm, hs, ht⟩
  · cases hv
  · injection hv with h1 _ h3
    injection h1 with h1
    injection h1 with h1
    subst h1 h3
    exact ⟨by simp, Or.inr ⟨_, _, cur, rfl, hb, hg, Nat.zero_le _, hm, hs, by simp⟩⟩
theorem SS.setMany {B st eb : Nat} {w : World} (h : SS B st eb w) (x : Int) : SS B st eb (w.setCell ⟨st, 2, none⟩ (.int .i64 x)) := by
  obtain ⟨ov, n, l, many, hS, hO, hn⟩ := h.h
  obtain ⟨E, hE, uE⟩ := h.e
  have k : Kp [st] w (w.setCell ⟨st, 2, none⟩ (.int .i64 x)) := (Kp.refl _ w).setCell _ _ (Or.inl (by simp))
  exact ⟨⟨ov, n, l, x, hS.set 2 _, own_kp hO k (fun b hb => by simpa using own_ne hO hS (by decide) b hb), hn⟩, ⟨E, k.blk hE (by simpa using hE.ne hS (by decide)), uE⟩, h.lst, h.leb⟩
/-- what a stream's writing leaves: the blocks of other types. -/
structure Kt (w w' : World) : Prop where
  h : ∀ g t cs, Blk w g t cs → t ≠ 285 → t ≠ 304 → t ≠ 5 → Blk w' g t cs
theorem Kt.refl (w : World) : Kt w w := ⟨fun _ _ _ h _ _ _ => h⟩
theorem Kt.drew {w wr : World} (k : Kt w wr) : Kt w wr.drew := ⟨fun g t cs h h1 h2 h3 => k.h g t cs h h1 h2 h3⟩
theorem Kt.trans {w wr wx : World} (k : Kt w wr) (l : Kt wr wx) : Kt w wx := ⟨fun g t cs h h1 h2 h3 => l.h g t cs (k.h g t cs h h1 h2 h3) h1 h2 h3⟩
theorem Kt.of_below {w wr : World} (k : Below w.heap.size w wr) : Kt w wr := ⟨fun g t cs h h1 h2 h3 => h.below k h.lt⟩
theorem Kt.setSt {w wr : World} {st : Nat} {cs : Array Value} (k : Kt w wr) (hS : Blk wr st 285 cs) (i : Nat) (u : Value) : Kt w (wr.setCell ⟨st, i, none⟩ u) := ⟨fun g t cs h h1 h2 h3 => by
  have hb := k.h g t cs h h1 h2 h3
  exact ((Kp.refl [st] wr).setCell ⟨st, i, none⟩ u (Or.inl (by simp))).blk hb (by simpa using hb.ne hS h1)⟩
theorem Kt.piece {w wr w' : World} {eb : Nat} {cs : Array Value} (k : Kt w wr) (hE : Blk wr eb 304 cs) (kp : Kp [eb] wr w') : Kt w w' := ⟨fun g t cs h h1 h2 h3 => by
  have hb := k.h g t cs h h1 h2 h3
  exact kp.blk hb (by simpa using hb.ne hE h2)⟩
theorem Kt.grown {w wr w' : World} {base size n : Nat} {v : Value} {xs : List Value} (k : Kt w wr) (hO : wr.ownsRow base 5 size v n xs) (hg : wr.grownBy w' v.ownBlock) : Kt w w' := ⟨fun g t cs h h1 h2 h3 => by
  have hb := k.h g t cs h h1 h2 h3
  exact (hg.block g hb.lt (fun e => own_ne hO hb h3 g e.symm rfl)).trans hb⟩
/-- behind 's.rest = append(s.rest, t...)'. -/
theorem step_S {B st eb n m g cap : Nat} {many : Int} {l : List UInt8} {t : ByteArray} {ov : Value} {w wr w2 : World} (hB : B ≤ w.heap.size) (hbs : w.heap.size ≤ wr.heap.size) (hst : B ≤ st) (heb : B ≤ eb)
    (hS : Blk wr st 285 #[.iface 301 (pt eb), ov, .int .i64 many]) (hO : wr.ownsRow B 5 1 ov n (Lib.byteCells l)) (hE : ∃ E, Blk wr eb 304 E ∧ URow 8 E) (hb : Below B w wr) (hkt : Kt w wr)
    (hown : w2.ownsRow B 5 1 (.slice (some ⟨g, 0, none⟩) m cap) m (Lib.byteCells l ++ Lib.strCells t)) (hgrow : wr.drew.grownBy w2 ov.ownBlock) (hS2 : Blk w2 st 285 #[.iface 301 (pt eb), ov, .int .i64 many]) :
    Blk (w2.setCell ⟨st, 1, none⟩ (.slice (some ⟨g, 0, none⟩) m cap)) st 285 #[.iface 301 (pt eb), .slice (some ⟨g, 0, none⟩) m cap, .int .i64 many] ∧
    (w2.setCell ⟨st, 1, none⟩ (.slice (some ⟨g, 0, none⟩) m cap)).ownsRow B 5 1 (.slice (some ⟨g, 0, none⟩) m cap) m (Lib.byteCells (l ++ t.data.toList)) ∧
    (∃ E, Blk (w2.setCell ⟨st, 1, none⟩ (.slice (some ⟨g, 0, none⟩) m cap)) eb 304 E ∧ URow 8 E) ∧
    Below B w (w2.setCell ⟨st, 1, none⟩ (.slice (some ⟨g, 0, none⟩) m cap)) ∧ Kt w (w2.setCell ⟨st, 1, none⟩ (.slice (some ⟨g, 0, none⟩) m cap)) := by
  obtain ⟨E, hE, uE⟩ := hE
  have k : Kp [st] w2 (w2.setCell ⟨st, 1, none⟩ (.slice (some ⟨g, 0, none⟩) m cap)) := (Kp.refl _ w2).setCell _ _ (Or.inl (by simp))
  have hE2 : Blk w2 eb 304 E := (hgrow.block eb hE.lt (fun e => own_ne hO hE (by decide) eb e.symm rfl)).trans hE
  refine ⟨hS2.set 1 _, ?_, ⟨E, k.blk hE2 (by simpa using hE2.ne hS2 (by decide)), uE⟩, ?_, (hkt.drew.grown hO.drew' hgrow).setSt hS2 1 _⟩
  · have e : Lib.byteCells (l ++ t.data.toList) = Lib.byteCells l ++ Lib.strCells t := by simp [Lib.byteCells, Lib.strCells]
    rw [e]
    exact own_kp hown k (fun b hb => by simpa using own_ne hown hS2 (by decide) b hb)
  · exact (own_grown (hb.drew) hO.drew' hgrow (Nat.le_trans hB hbs)).setCell (p := ⟨st, 1, none⟩) hst _
set_option maxRecDepth 100000 in
set_option maxHeartbeats 8000000 in
theorem write_ok {B st eb : Nat} (text : ByteArray) (w : World) (hB : B ≤ w.heap.size) (hg : 11 < B) (ht : TabW w) (hs : SS B st eb w) (hl : text.size ≤ 1073741824) :
    Calls Tryz.prog 355 #[pt st, .string text] w fun e w' => e = .returned (.tuple #[]) ∧ SS B st eb w' ∧ Below B w w' ∧ Kt w w' := by
  obtain ⟨i0, hi0, hi1, hi2, hi3⟩ := info_parts info5
  have HT := Lib.hid (fun (wx : World) (k : Below B w wx) => ht.below k hg)
  have hst := hs.lst
  have heb := hs.leb
  have HS := Lib.hid hs
  obtain ⟨ov, n, l, many, hS, hO, hn⟩ := hs.h
  have c2 := hS.cell 2
  have f2 := hS.frozen 2
  simp at c2
  have HK0 := Lib.hid ((Kt.refl w).setSt hS 2 (.int .i64 (wrap64 (many + (text.size : Int)))))
  clear hs hS hO ht hn
  go_enter Tryz.func355, Tryz.ntmps355
  go_wp2_with fail
  clear c2 f2
  have HS1 := Lib.hid (HS.out.setMany (wrap64 (many + (text.size : Int))))
  have HB1 := Lib.hid ((Below.refl B w).setCell (p := ⟨st, 2, none⟩) hst (.int .i64 (wrap64 (many + (text.size : Int)))))
  clear HS
  generalize w.setCell ⟨st, 2, none⟩ (.int .i64 (wrap64 (many + (text.size : Int)))) = w1 at *
  go_loopw [1, 4] (fun t _ wr => ∃ tx : ByteArray, t = .string tx ∧ tx.size ≤ 1073741824 ∧ SS B st eb wr ∧ Below B w wr ∧ Kt w wr) (fun t _ _ => strLen t)
  case atStart => exact ⟨text, rfl, hl, HS1.out, HB1.out, HK0.out⟩
  case round =>
    clear HS1 HB1 HK0 hl
    obtain ⟨tx, rfl, hl, hs, hb, hkt⟩ := hrel
    have HKT := Lib.hid hkt
    clear hkt
    have HB := Lib.hid hb
    have hbs := hb.size
    obtain ⟨ov, n, l, many, hS, hO, hn⟩ := hs.h
    have HE := Lib.hid hs.e
    have HS := Lib.hid hS
    have HO := Lib.hid hO
    have c0 := hS.cell 0
    have c1 := hS.cell 1
    have f1 := hS.frozen 1
    simp at c0 c1
    have hol : l.length = n := by simpa [Lib.byteCells] using hO.1
    have hform : (ov = .slice none 0 0 ∧ n = 0) ∨ ∃ g cap, ov = .slice (some ⟨g, 0, none⟩) n cap := by
      rcases hO.2 with h | ⟨g, cap, cur, h, _⟩
      · exact Or.inl h
      · exact Or.inr ⟨g, cap, h⟩
    clear hb hs hS hO hol
    by_cases hz : tx.size = 0
    · have hd : tx.toList.isEmpty = true := by
        rw [Lib.toList_data]
        cases e : tx.data.toList with
        | nil => rfl
        | cons a b => have := Lib.size_eq tx; rw [e, List.length_cons] at this; omega
      go_wp2_with fail
      go_end0
      exact ⟨rfl, ⟨⟨ov, n, l, many, HS.out, HO.out, hn⟩, HE.out, hst, heb⟩, HB.out, HKT.out⟩
    · have hd : tx.toList.isEmpty = false := by
        rw [Lib.toList_data]
        cases e : tx.data.toList with
        | nil => have := Lib.size_eq tx; rw [e, List.length_nil] at this; omega
        | cons a b => rfl
      have hn0 : (0 : Int) ≤ (n : Int) := by omega
      have hn1 : (n : Int) < 64 := by omega
      by_cases hle : tx.size < 64 - n
      · have hcmp : (tx.size : Int) < 64 - (n : Int) := by omega
        rcases hform with ⟨rfl, rfl⟩ | ⟨g, cap, rfl⟩
        all_goals
          have hlt2 := HS.out.lt
          have hne2 : some st ≠ Value.ownBlock _ := fun e => own_ne HO.out HS.out (by decide) st e.symm rfl
          go_wp2_with fail
          go_region_law ((refine step_append_str (by rfl) _ _ 117 9 (by rfl) B 5 i0 Tryz.underlying117 Tryz.underlying9 hi0 hi1 hi2 hi3 _ _ _ (by rfl) (HO.out.drew') _ (by rfl) ?_ ?_ ?_ ?_; (unfold maxLen; (try simp only [Nat.zero_add]); omega); ((try simp only [Nat.zero_add]); omega); exact (Nat.le_trans hB hbs); intro v' w2 hown hgrow; (try simp only [Nat.zero_add] at hown); obtain ⟨g2, cap2, rfl⟩ := own_form hown (by omega); have hS2 := (hgrow.block st hlt2 hne2).trans HS.out; have f2 := Blk.frozen hS2 1; have c2 := Blk.cell hS2 1; simp at c2))
          have HG := Lib.hid (step_S hB hbs hst heb HS.out HO.out HE.out HB.out HKT.out hown hgrow hS2)
          have hlt64 := hle
          clear hown hgrow hS2 f2 c2
          generalize (w2.setCell ⟨st, 1, none⟩ _) = w3 at *
          have c1' := HG.out.1.cell 1
          simp at c1'
          go_wp2_with fail
          go_roundw
          case rel => exact ⟨ByteArray.empty, rfl, by decide, ⟨⟨_, _, _, _, HG.out.1, HG.out.2.1, by omega⟩, HG.out.2.2.1, hst, heb⟩, HG.out.2.2.2.1, HG.out.2.2.2.2⟩
          case measure => simp [strLen]; omega
      · obtain ⟨c, hcn⟩ : ∃ c : Nat, c + n = 64 := ⟨64 - n, by omega⟩
        have hc0 : 0 < c := by omega
        have hct : c ≤ tx.size := by omega
        have hci : (64 : Int) - (n : Int) = (c : Int) := by omega
        have hcmp : ¬ (tx.size : Int) < (c : Int) := by omega
        have hnc : n + c = 64 := by omega
        have hex : (tx.extract 0 c).size = c := by simp; omega
        have NP := nil_piece
        have MP := method_piece
        clear hle
        rcases hform with ⟨rfl, hn00⟩ | ⟨g, cap, rfl⟩
        · obtain rfl : n = 0 := hn00
          obtain rfl : c = 64 := by omega
          have HEX := Lib.hid hex
          have HCN := Lib.hid hcn
          have hlt2 := HS.out.lt
          have hne2 : some st ≠ Value.ownBlock _ := fun e => own_ne HO.out HS.out (by decide) st e.symm rfl
          clear hex hnc hcn hci hn0 hn1
          have hcmp2 : ¬ (tx.size : Int) < 64 := by omega
          go_wp2_with fail
          go_region_law ((refine step_append_str (by rfl) _ _ 117 9 (by rfl) B 5 i0 Tryz.underlying117 Tryz.underlying9 hi0 hi1 hi2 hi3 _ _ _ (by rfl) (HO.out.drew') (tx.extract 0 64) (by rfl) ?_ ?_ ?_ ?_; (rw [HEX.out]; unfold maxLen; omega); (rw [HEX.out]; omega); exact (Nat.le_trans hB hbs); intro v' w2 hown hgrow; rw [HEX.out] at hown; (simp only [Nat.zero_add] at hown); obtain ⟨g2, cap2, rfl⟩ := own_form hown (by omega); have hS2 := (hgrow.block st hlt2 hne2).trans HS.out; have f2 := Blk.frozen hS2 1; have c2 := Blk.cell hS2 1; simp at c2))
          have HG := Lib.hid (step_S hB hbs hst heb HS.out HO.out HE.out HB.out HKT.out hown hgrow hS2)
          clear hown hgrow hS2 f2 c2
          generalize (w2.setCell ⟨st, 1, none⟩ _) = w3 at *
          have c1' := HG.out.1.cell 1
          have c0' := HG.out.1.cell 0
          simp at c1' c0'
          go_wp2_with fail
          refine wp_region_still_tail 11 (by kernel_rfl) (by kernel_rfl) ?_
          simp only [List.take_succ_cons, List.take_zero, List.drop_succ_cons, List.drop_zero]
          have haa := arr_at g2 cap2
          iterate 11 ((with_reducible refine wpStill_step (fun K hK => ?_)); go_simp; (with_reducible refine hK _ ?_); clear hK K)
          (with_reducible refine wpStill_nil ?_)
          change wpList _ _ _ _ _ w3.drew
          clear haa c0' c1'
          go_wp2_with fail
          obtain ⟨E, hE, uE⟩ := HG.out.2.2.1
          have hge : g2 ≠ eb := own_ne HG.out.2.1 hE (by decide) g2 rfl
          have hse : st ≠ eb := HG.out.1.ne hE (by decide)
          have hgs : g2 ≠ st := own_ne HG.out.2.1 HG.out.1 (by decide) g2 rfl
          refine (piece_ok eb g2 E _ (HT.out _ HG.out.2.2.2.1.drew) hE.drw uE (own_bytes HG.out.2.1) hge (by omega)).mono ?_
          rintro e w4 ⟨rfl, hwo⟩
          have HS4 := Lib.hid (hwo.kp.blk HG.out.1.drw (by simpa using hse))
          have HO4 := Lib.hid (own_kp HG.out.2.1.drew' hwo.kp (fun b hb => by obtain rfl : g2 = b := Option.some.inj hb; simpa using hge))
          have HE4 := Lib.hid hwo.row
          have HK4 := Lib.hid ((HG.out.2.2.2.2.drew).piece hE.drw hwo.kp)
          have HB4 := Lib.hid (HG.out.2.2.2.1.drew.trans (hwo.kp.below (Nat.le_trans hB (HG.out.2.2.2.1.size)) (by simpa using heb)))
          clear hwo hE uE HG
          have c1' := HS4.out.cell 1
          have f1' := HS4.out.frozen 1
          simp at c1'
          go_wp2_with fail
          obtain ⟨E', hE', uE'⟩ := HE4.out
          have k : Kp [st] w4 (w4.setCell ⟨st, 1, none⟩ (.slice (some ⟨g2, 0, none⟩) 0 cap2)) := (Kp.refl _ w4).setCell _ _ (Or.inl (by simp))
          go_roundw
          case rel => exact ⟨_, rfl, by simp; omega, ⟨⟨.slice (some ⟨g2, 0, none⟩) 0 cap2, 0, [], many, HS4.out.set 1 _, own_kp (own_zero HO4.out) k (fun b hb => by obtain rfl : g2 = b := Option.some.inj hb; simpa using hgs), by omega⟩, ⟨E', k.blk hE' (by simpa using hse.symm), uE'⟩, hst, heb⟩, HB4.out.setCell (p := ⟨st, 1, none⟩) hst _, HK4.out.setSt HS4.out 1 _⟩
          case measure => simp [strLen]; omega
        · have HEX := Lib.hid hex
          have HNC := Lib.hid hnc
          have HCN := Lib.hid hcn
          have hlt2 := HS.out.lt
          have hne2 : some st ≠ Value.ownBlock _ := fun e => own_ne HO.out HS.out (by decide) st e.symm rfl
          clear hex hnc hcn
          go_wp2_with fail
          go_region_law ((refine step_append_str (by rfl) _ _ 117 9 (by rfl) B 5 i0 Tryz.underlying117 Tryz.underlying9 hi0 hi1 hi2 hi3 _ _ _ (by rfl) (HO.out.drew') (tx.extract 0 c) (by rfl) ?_ ?_ ?_ ?_; (rw [HEX.out]; unfold maxLen; omega); (rw [HEX.out]; omega); exact (Nat.le_trans hB hbs); intro v' w2 hown hgrow; rw [HEX.out, HNC.out] at hown; obtain ⟨g2, cap2, rfl⟩ := own_form hown (by omega); have hS2 := (hgrow.block st hlt2 hne2).trans HS.out; have f2 := Blk.frozen hS2 1; have c2 := Blk.cell hS2 1; simp at c2))
          have HG := Lib.hid (step_S hB hbs hst heb HS.out HO.out HE.out HB.out HKT.out hown hgrow hS2)
          clear hown hgrow hS2 f2 c2
          generalize (w2.setCell ⟨st, 1, none⟩ _) = w3 at *
          have c1' := HG.out.1.cell 1
          have c0' := HG.out.1.cell 0
          simp at c1' c0'
          go_wp2_with fail
          refine wp_region_still_tail 11 (by kernel_rfl) (by kernel_rfl) ?_
          simp only [List.take_succ_cons, List.take_zero, List.drop_succ_cons, List.drop_zero]
          have haa := arr_at g2 cap2
          iterate 11 ((with_reducible refine wpStill_step (fun K hK => ?_)); go_simp; (with_reducible refine hK _ ?_); clear hK K)
          (with_reducible refine wpStill_nil ?_)
          change wpList _ _ _ _ _ w3.drew
          clear haa c0' c1'
          go_wp2_with fail
          obtain ⟨E, hE, uE⟩ := HG.out.2.2.1
          have hge : g2 ≠ eb := own_ne HG.out.2.1 hE (by decide) g2 rfl
          have hse : st ≠ eb := HG.out.1.ne hE (by decide)
          have hgs : g2 ≠ st := own_ne HG.out.2.1 HG.out.1 (by decide) g2 rfl
          refine (piece_ok eb g2 E _ (HT.out _ HG.out.2.2.2.1.drew) hE.drw uE (own_bytes HG.out.2.1) hge (by omega)).mono ?_
          rintro e w4 ⟨rfl, hwo⟩
          have HS4 := Lib.hid (hwo.kp.blk HG.out.1.drw (by simpa using hse))
          have HO4 := Lib.hid (own_kp HG.out.2.1.drew' hwo.kp (fun b hb => by obtain rfl : g2 = b := Option.some.inj hb; simpa using hge))
          have HE4 := Lib.hid hwo.row
          have HK4 := Lib.hid ((HG.out.2.2.2.2.drew).piece hE.drw hwo.kp)
          have HB4 := Lib.hid (HG.out.2.2.2.1.drew.trans (hwo.kp.below (Nat.le_trans hB (HG.out.2.2.2.1.size)) (by simpa using heb)))
          clear hwo hE uE HG
          have c1' := HS4.out.cell 1
          have f1' := HS4.out.frozen 1
          simp at c1'
          go_wp2_with fail
          obtain ⟨E', hE', uE'⟩ := HE4.out
          have k : Kp [st] w4 (w4.setCell ⟨st, 1, none⟩ (.slice (some ⟨g2, 0, none⟩) 0 cap2)) := (Kp.refl _ w4).setCell _ _ (Or.inl (by simp))
          go_roundw
          case rel => exact ⟨_, rfl, by simp; omega, ⟨⟨.slice (some ⟨g2, 0, none⟩) 0 cap2, 0, [], many, HS4.out.set 1 _, own_kp (own_zero HO4.out) k (fun b hb => by obtain rfl : g2 = b := Option.some.inj hb; simpa using hgs), by omega⟩, ⟨E', k.blk hE' (by simpa using hse.symm), uE'⟩, hst, heb⟩, HB4.out.setCell (p := ⟨st, 1, none⟩) hst _, HK4.out.setSt HS4.out 1 _⟩
          case measure => simp [strLen]; omega
end Go.Proofs.YtpjnjhklkgefcaaGreatDoor
