import Derived.Test.YtobiacdeoeogaaaGreatDoorBr
import Derived.Laws.AppendOwn
set_option linter.unusedVariables false
set_option linter.unusedSimpArgs false
namespace Go.Proofs.YtobiacdeoeogaaaGreatDoor
open Go.RowKit
theorem dec_nil_inv {l o : List UInt8} (h : Dec l [] o) : l = o := by cases h; rfl
theorem dec_lit_inv {l t o : List UInt8} {c : UInt8} (h : Dec l (c :: t) o) (hc : c.toNat < 128) : c.toNat + 1 ≤ t.length ∧ Dec (l ++ t.take (c.toNat + 1)) (t.drop (c.toNat + 1)) o := by
  generalize hs : c :: t = s0 at h
  cases h with
  | nil => cases hs
  | lit _ c2 l2 s2 _ hc2 hl2 h2 =>
    injection hs with e1 e2
    subst e1
    subst e2
    rw [← hl2]
    refine ⟨by simp, ?_⟩
    rw [List.take_left, List.drop_left]
    exact h2
  | copy _ c2 x y s2 _ hc2 hb2 h2 =>
    injection hs with e1 e2
    subst e1
    omega
theorem dec_copy_inv {l t o : List UInt8} {c : UInt8} (h : Dec l (c :: t) o) (hc : 128 ≤ c.toNat) : 2 ≤ t.length ∧ (t.getD 0 0).toNat * 256 + (t.getD 1 0).toNat + 1 ≤ l.length ∧ Dec (rep l ((t.getD 0 0).toNat * 256 + (t.getD 1 0).toNat + 1) (c.toNat - 124)) (t.drop 2) o := by
  generalize hs : c :: t = s0 at h
  cases h with
  | nil => cases hs
  | lit _ c2 l2 s2 _ hc2 hl2 h2 =>
    injection hs with e1 e2
    subst e1
    omega
  | copy _ c2 x y s2 _ hc2 hb2 h2 =>
    injection hs with e1 e2
    subst e1
    subst e2
    exact ⟨by simp, hb2, h2⟩
theorem rep_more (l : List UInt8) (back n : Nat) : rep l back (n + 1) = rep (l ++ [l.getD (l.length - back) 0]) back n := rfl
/-- what stands of a block that is being read. -/
def Ex (s : List UInt8) (size : Nat) (l r : List UInt8) : Prop := ∀ o, Dec [] s o → o.length = size → Dec l r o
theorem Ex.start (s : List UInt8) (size : Nat) : Ex s size [] s := fun _ h _ => h
theorem Ex.lit {s l t : List UInt8} {size : Nat} {c : UInt8} (h : Ex s size l (c :: t)) (hc : c.toNat < 128) : Ex s size (l ++ t.take (c.toNat + 1)) (t.drop (c.toNat + 1)) := fun o ho hl => (dec_lit_inv (h o ho hl) hc).2
theorem Ex.copy {s l t : List UInt8} {size : Nat} {c : UInt8} (h : Ex s size l (c :: t)) (hc : 128 ≤ c.toNat) : Ex s size (rep l ((t.getD 0 0).toNat * 256 + (t.getD 1 0).toNat + 1) (c.toNat - 124)) (t.drop 2) := fun o ho hl => (dec_copy_inv (h o ho hl) hc).2.2
theorem Ex.len {s l r : List UInt8} {size : Nat} (h : Ex s size l r) (hl : size < l.length) : ∀ o, Dec [] s o → o.length = size → False := fun o ho he => by
  have := (h o ho he).len
  omega
theorem own_slice {w : World} {base e size n : Nat} {v : Value} {xs : List Value} (h : w.ownsRow base e size v n xs) : ∃ p c, v = .slice p n c := by
  rcases h.2 with ⟨rfl, rfl⟩ | ⟨g, cap, cur, rfl, _⟩
  · exact ⟨_, _, rfl⟩
  · exact ⟨_, _, rfl⟩
theorem own_at {w : World} {base n g cap i : Nat} {l : List UInt8} {b : UInt8} (h : w.ownsRow base 5 1 (.slice (some ⟨g, 0, none⟩) n cap) n (Lib.byteCells l)) (hb : l[i]? = some b) : w.cell? ⟨g, i, none⟩ = some (.int .u8 (b.toNat : Int)) := by
  obtain ⟨hl, h2⟩ := h
  have hn : l.length = n := by simpa [Lib.byteCells] using hl
  have hi := (List.getElem?_eq_some_iff.1 hb).1
  rcases h2 with ⟨hv, _⟩ | ⟨g', cap', cur, hv, _, hg, _, _, _, ht⟩
  · cases hv
  · injection hv with h1
    injection h1 with h1
    injection h1 with h1
    subst h1
    rw [cell_of_row w _ i cur _ _ hg]
    have h1 : (cur.toList.take (n * 1))[i]? = some (.int .u8 (b.toNat : Int)) := by rw [ht]; simp [Lib.byteCells, hb]
    rw [List.getElem?_take, if_pos (by omega)] at h1
    simpa using h1
/-- what reading a block answers. -/
structure XPost (s : ByteArray) (size : Nat) (w : World) (e : Ending) (w' : World) : Prop where
  h : ∃ x : ByteArray, ∃ ok : Bool, e = .returned (.tuple #[.string x, .bool ok]) ∧ (ok = true → x.size = size) ∧ x.size ≤ 32768 ∧ ∀ o, Dec [] s.data.toList o → o.length = size → x.data.toList = o ∧ ok = true
  b : Below w.heap.size w w'
set_option maxRecDepth 100000 in
set_option maxHeartbeats 8000000 in
theorem expandBlock_ok (s : ByteArray) (size : Nat) (w : World) (h1 : size ≤ 16384) (h2 : s.size ≤ 2097152) : Calls Tryz.prog 62 #[.string s, .int .i64 (size : Int)] w fun e w' => XPost s size w e w' := by
  obtain ⟨i0, hi0, hi1, hi2, hi3⟩ := info_parts info5
  go_enter Tryz.func62, Tryz.ntmps62
  go_wp2_with fail
  go_loopg [0, 6, 7, 8] s.size (fun gk x v _ _ wr => ∃ r : ByteArray, ∃ l : List UInt8, x = .string r ∧ wr.ownsRow w.heap.size 5 1 v l.length (Lib.byteCells l) ∧ Below w.heap.size w wr ∧ Ex s.data.toList size l r.data.toList ∧ l.length ≤ size ∧ r.size ≤ gk ∧ r.size ≤ 2097152)
  case atStart => exact ⟨s, [], rfl, World.ownsRow_nil _ _ _ _, Below.refl _ _, Ex.start _ _, Nat.zero_le _, Nat.le_refl _, h2⟩
  case round =>
    obtain ⟨r, l, rfl, hO, hB, hE, hl, hgk, hr2⟩ := hrel
    have HO := Lib.hid hO
    have HB := Lib.hid hB
    have HE := Lib.hid hE
    have hbs := hB.size
    clear hO hB hE
    by_cases hz : r.size = 0
    · have hd : decide ((r.size : Int) > 0) = false := decide_eq_false (by omega)
      have hcv := own_conv HO.out
      obtain ⟨p, cp, hv⟩ := own_slice HO.out
      have hnil := nil_of_size hz
      have hend : ∀ o, Dec [] s.data.toList o → o.length = size → l = o := fun o ho he => by
        have := HE.out o ho he
        rw [hnil] at this
        exact dec_nil_inv this
      have HEND := Lib.hid hend
      have hxz : (⟨l.toArray⟩ : ByteArray).size = l.length := by rw [Lib.size_eq]
      have hxl : (⟨l.toArray⟩ : ByteArray).data.toList = l := rfl
      generalize (⟨l.toArray⟩ : ByteArray) = x at *
      subst hv
      have HXL := Lib.hid hxl
      have HXZ := Lib.hid hxz
      clear HO HE hnil hend hxl hxz
      by_cases hls : l.length = size
      · have hde : ((l.length : Int) == (size : Int)) = true := by simp [hls]
        have HLS := Lib.hid hls
        clear hls
        go_wp2_with fail
        go_ret2
        exact ⟨⟨x, true, rfl, fun _ => HXZ.out.trans HLS.out, by rw [HXZ.out]; omega, fun o ho he => ⟨HXL.out.trans (HEND.out o ho he), rfl⟩⟩, HB.out⟩
      · have hde : ((l.length : Int) == (size : Int)) = false := by simp; omega
        go_wp2_with fail
        go_ret2
        exact ⟨⟨x, false, rfl, (fun h => nomatch h), by rw [HXZ.out]; omega, fun o ho he => absurd (by rw [HEND.out o ho he]; exact he) hls⟩, HB.out⟩
    · have hd : decide ((r.size : Int) > 0) = true := decide_eq_true (by omega)
      have hdn : decide (0 < r.size) = true := decide_eq_true (by omega)
      have hd' : (0 : Int) < (r.size : Int) := by omega
      obtain ⟨c, t, hct⟩ : ∃ c t, r.data.toList = c :: t := by
        cases e : r.data.toList with
        | nil => exact absurd (by rw [Lib.size_eq, e]; rfl) hz
        | cons a b => exact ⟨a, b, rfl⟩
      have hcb := c.toNat_lt
      have hix : ∀ w : World, (Instr.index 9 (.string r) (.int .i64 0)).run Tryz.prog w = .ok (.int .u8 (c.toNat : Int)) w := index_at r 0 c (by rw [hct]; rfl)
      by_cases hc : c.toNat < 128
      · have hdc : decide ((c.toNat : Int) < 128) = true := decide_eq_true (by omega)
        have htl : r.size = t.length + 1 := by rw [Lib.size_eq, hct]; rfl
        have HCT := Lib.hid hct
        obtain ⟨n, hn⟩ : ∃ n, c.toNat = n := ⟨_, rfl⟩
        have HN := Lib.hid hn
        rw [hn] at hix hc hdc hcb
        by_cases hsh : r.size < n + 2
        · have hds : decide ((r.size : Int) < (n : Int) + 2) = true := decide_eq_true (by omega)
          have HBAD := Lib.hid (show ∀ o, Dec [] s.data.toList o → o.length = size → False from fun o ho he => by
            have := HE.out o ho he
            rw [HCT.out] at this
            have := (dec_lit_inv this (by rw [HN.out]; exact hc)).1
            rw [HN.out] at this
            omega)
          clear HE HO hn hct
          go_wp2_with fail
          go_ret2
          exact ⟨⟨⟨#[]⟩, false, rfl, (fun h => nomatch h), by decide, fun o ho he => (HBAD.out o ho he).elim⟩, HB.out⟩
        · have hds : decide ((r.size : Int) < (n : Int) + 2) = false := decide_eq_false (by omega)
          have hn2 : (n : Int) + 2 ≤ (r.size : Int) := by omega
          have hn3 : ((n : Int) + 2).toNat = n + 2 := by omega
          have hn4 : (1 : Int) ≤ (n : Int) + 2 := by omega
          have hn5 : (0 : Int) ≤ (n : Int) + 2 := by omega
          obtain ⟨ex, hex⟩ : ∃ ex, r.extract 1 (n + 2) = ex := ⟨_, rfl⟩
          obtain ⟨r2, hr⟩ : ∃ r2, r.extract (n + 2) r.size = r2 := ⟨_, rfl⟩
          have hexl : ex.data.toList = t.take (n + 1) := by rw [← hex, ex_listH, HCT.out, show n + 2 - 1 = n + 1 by omega]; rfl
          have hr2l : r2.data.toList = t.drop (n + 1) := by
            rw [← hr, ex_listH, HCT.out, List.take_of_length_le (by rw [List.length_drop, List.length_cons]; omega)]
            rfl
          have hexz : ex.size = n + 1 := by rw [Lib.size_eq, hexl, List.length_take]; omega
          have hr2z : r2.size + (n + 2) = r.size := by rw [Lib.size_eq, hr2l, List.length_drop]; omega
          have hE2 := HE.out
          rw [HCT.out] at hE2
          have hE3 := hE2.lit (by rw [HN.out]; exact hc)
          rw [HN.out, ← hexl, ← hr2l] at hE3
          have HE3 := Lib.hid hE3
          clear hE2 hE3 HE hexl hr2l hct hn htl
          go_wp2_with (at_builtin; refine Lib.wpList_append_own_string _ rfl _ _ 32 9 rfl w.heap.size 5 i0 Tryz.underlying32 Tryz.underlying9 hi0 hi1 hi2 hi3 _ _ _ rfl HO.out ex rfl ?c1 ?c2 ?c3 ?_)
          case c1 => unfold maxLen; omega
          case c2 => omega
          case c3 => exact hbs
          intro v' w2 hown hgrow _
          obtain ⟨l2, hl2⟩ : ∃ l2, l ++ ex.data.toList = l2 := ⟨_, rfl⟩
          have hl2z : l2.length = l.length + ex.size := by rw [← hl2, List.length_append, ← Lib.size_eq]
          have hown2 : w2.ownsRow w.heap.size 5 1 v' l2.length (Lib.byteCells l2) := by
            rw [hl2z, ← hl2, byteCells_app, hexz]
            exact hown
          rw [hl2] at HE3
          obtain ⟨p, cp, rfl⟩ := own_slice hown2
          have HO2 := Lib.hid hown2
          have HB2 := Lib.hid (own_grown HB.out HO.out hgrow hbs)
          clear hown hown2 hgrow HO HB hl2
          by_cases hgt : size < l2.length
          · have hdg : decide ((l2.length : Int) > (size : Int)) = true := decide_eq_true (by omega)
            have hdg2 : (size : Int) < (l2.length : Int) := by omega
            have HBAD := Lib.hid (HE3.out.len hgt)
            clear HE3
            go_wp2_with fail
            go_ret2
            exact ⟨⟨⟨#[]⟩, false, rfl, (fun h => nomatch h), by decide, fun o ho he => (HBAD.out o ho he).elim⟩, HB2.out⟩
          · have hdg : decide ((l2.length : Int) > (size : Int)) = false := decide_eq_false (by omega)
            go_wp2_with fail
            go_roundg (gk - 1)
            case measure => omega
            case rel => exact ⟨r2, l2, rfl, HO2.out, HB2.out, HE3.out, by omega, by omega, by omega⟩
      · have hdc : decide ((c.toNat : Int) < 128) = false := decide_eq_false (by omega)
        have htl : r.size = t.length + 1 := by rw [Lib.size_eq, hct]; rfl
        have HCT := Lib.hid hct
        by_cases h3 : r.size < 3
        · have hds : decide ((r.size : Int) < 3) = true := decide_eq_true (by omega)
          have HBAD := Lib.hid (show ∀ o, Dec [] s.data.toList o → o.length = size → False from fun o ho he => by
            have := HE.out o ho he
            rw [HCT.out] at this
            have := (dec_copy_inv this (by omega)).1
            omega)
          clear HE HO hct htl
          go_wp2_with fail
          go_ret2
          exact ⟨⟨⟨#[]⟩, false, rfl, (fun h => nomatch h), by decide, fun o ho he => (HBAD.out o ho he).elim⟩, HB.out⟩
        · have hds : decide ((r.size : Int) < 3) = false := decide_eq_false (by omega)
          have hix1 : ∀ w : World, (Instr.index 9 (.string r) (.int .i64 1)).run Tryz.prog w = .ok (.int .u8 ((t.getD 0 0).toNat : Int)) w := index_at r 1 (t.getD 0 0) (by
            rw [hct, List.getElem?_cons_succ, List.getElem?_eq_getElem (by omega), List.getD_eq_getElem?_getD, List.getElem?_eq_getElem (by omega)]
            rfl)
          have hix2 : ∀ w : World, (Instr.index 9 (.string r) (.int .i64 2)).run Tryz.prog w = .ok (.int .u8 ((t.getD 1 0).toNat : Int)) w := index_at r 2 (t.getD 1 0) (by
            rw [hct, show (2 : Nat) = 1 + 1 from rfl, List.getElem?_cons_succ, List.getElem?_eq_getElem (by omega), List.getD_eq_getElem?_getD, List.getElem?_eq_getElem (by omega)]
            rfl)
          have hxl := (t.getD 0 0).toNat_lt
          have hyl := (t.getD 1 0).toNat_lt
          have hE2 := HE.out
          rw [HCT.out] at hE2
          have HE2 := Lib.hid (hE2.copy (by omega))
          have HBK := Lib.hid (show ∀ o, Dec [] s.data.toList o → o.length = size → (t.getD 0 0).toNat * 256 + (t.getD 1 0).toNat + 1 ≤ l.length from fun o ho he => (dec_copy_inv (hE2 o ho he) (by omega)).2.1)
          have hor := or4_3 (t.getD 0 0).toNat (t.getD 1 0).toNat (by omega) (by omega)
          generalize (t.getD 0 0).toNat = x at *
          generalize (t.getD 1 0).toNat = y at *
          have hor' : bits .or .i64 ((x : Int) * 256) (y : Int) = (x : Int) * 256 + (y : Int) := by
            have e1 : ((x * 256 : Nat) : Int) = (x : Int) * 256 := by omega
            have e2 : ((x * 256 + y : Nat) : Int) = (x : Int) * 256 + (y : Int) := by omega
            rw [e1, e2] at hor
            exact hor
          obtain ⟨p, cp, hv⟩ := own_slice HO.out
          subst hv
          clear hE2 HE hct htl hor
          go_wp2_with fail
          go_quiet (fail)
          have HO1 := Lib.hid (own_kp HO.out ((Kp.refl [] wr).drewN nq) (fun _ _ => by simp))
          have HB1 := Lib.hid (HB.out.trans (((Kp.refl [] wr).drewN nq).below hbs (by simp)))
          have hbs1 := HB1.out.size
          clear HO HB hbs
          generalize wr.drewN nq = w1 at *
          by_cases hbk : l.length < x * 256 + y + 1
          · have hdb : decide ((x : Int) * 256 + (y : Int) + 1 > (l.length : Int)) = true := decide_eq_true (by omega)
            have hdb2 : (l.length : Int) < (x : Int) * 256 + (y : Int) + 1 := by omega
            have HBAD := Lib.hid (show ∀ o, Dec [] s.data.toList o → o.length = size → False from fun o ho he => by
              have := HBK.out o ho he
              omega)
            clear HE2
            go_wp2_with fail
            go_ret2
            exact ⟨⟨⟨#[]⟩, false, rfl, (fun h => nomatch h), by decide, fun o ho he => (HBAD.out o ho he).elim⟩, HB1.out⟩
          · have hdb : decide ((x : Int) * 256 + (y : Int) + 1 > (l.length : Int)) = false := decide_eq_false (by omega)
            obtain ⟨bk, hbkd⟩ : ∃ bk, bk = x * 256 + y + 1 := ⟨_, rfl⟩
            obtain ⟨m, hm⟩ : ∃ m, m = c.toNat - 124 := ⟨_, rfl⟩
            have HBKD := Lib.hid hbkd
            have HM := Lib.hid hm
            rw [← hbkd, ← hm] at HE2
            have hbkl : bk ≤ l.length := by omega
            have hbk1 : 1 ≤ bk := by omega
            have hm131 : m ≤ 131 := by omega
            obtain ⟨r2, hr⟩ : ∃ r2, r.extract 3 r.size = r2 := ⟨_, rfl⟩
            have hr2l : r2.data.toList = t.drop 2 := by
              rw [← hr, ex_listH, HCT.out, List.take_of_length_le (by rw [List.length_drop, List.length_cons]; have := Lib.size_eq r; rw [HCT.out, List.length_cons] at this; omega)]
              rfl
            have hr2z : r2.size + 3 = r.size := by
              have := Lib.size_eq r
              rw [HCT.out, List.length_cons] at this
              rw [Lib.size_eq, hr2l, List.length_drop]; omega
            rw [← hr2l] at HE2
            clear hr2l hbkd hm
            obtain ⟨g0, rfl⟩ : ∃ g, gk = g + 1 := ⟨gk - 1, by omega⟩
            go_wp2_with fail
            go_loopg [6, 50] m (fun g2 v k wx => ∃ i : Nat, ∃ l' : List UInt8, k = .int .i64 (i : Int) ∧ i + g2 = m ∧ wx.ownsRow w.heap.size 5 1 v l'.length (Lib.byteCells l') ∧ Below w.heap.size w wx ∧ l'.length = l.length + i ∧ rep l' bk g2 = rep l bk m)
            case atStart => exact ⟨0, l, rfl, by omega, HO1.out, HB1.out, rfl, rfl⟩
            case round =>
              clear HO1 HB1
              obtain ⟨i, l', rfl, him, hO, hB, hll, hrep⟩ := hrel
              have HRP := Lib.hid hrep
              have HO := Lib.hid hO
              have HB := Lib.hid hB
              have hbs := hB.size
              clear hrep hB
              by_cases hlt : 0 < gk
              · obtain ⟨k, rfl⟩ : ∃ k, gk = k + 1 := ⟨gk - 1, by omega⟩
                obtain ⟨g, cap, rfl⟩ := own_form hO (by omega)
                have hdi : decide ((i : Int) < (c.toNat : Int) - 124) = true := decide_eq_true (by have := HM.out; omega)
                obtain ⟨j, hj⟩ : ∃ j : Nat, (l'.length : Int) - ((x : Int) * 256 + (y : Int) + 1) = (j : Int) := ⟨l'.length - bk, by have := HBKD.out; omega⟩
                have hjl : j < l'.length := by omega
                have hjb : j = l'.length - bk := by have := HBKD.out; omega
                have hcell := own_at hO (List.getElem?_eq_getElem hjl)
                have hbd : l'[j] = l'.getD (l'.length - bk) 0 := by rw [← hjb, List.getD_eq_getElem?_getD, List.getElem?_eq_getElem hjl]; rfl
                obtain ⟨b0, hb0⟩ : ∃ b0, l'[j] = b0 := ⟨_, rfl⟩
                rw [hb0] at hcell hbd
                have HBD := Lib.hid hbd
                have hjl2 : (j : Int) < (l'.length : Int) := by omega
                have hjt : ((l'.length : Int) - ((x : Int) * 256 + (y : Int) + 1)).toNat = j := by omega
                have HLL := Lib.hid hll
                have HHI := Lib.hid him
                have hln : l'.length ≤ 100000 := by omega
                have hib : i ≤ 1000 := by omega
                clear hO hb0 hjb hbd hll him hbkl
                go_wp2_with (at_builtin; refine wpList_append_lies _ rfl _ _ 32 rfl w.heap.size 5 i0 (.int .u8 0) 1 1 Tryz.underlying32 hi0 hi1 hi2 hi3 rfl (by decide) _ _ _ rfl (HO.out.alloc _) _ 1 1 [.int .u8 (b0.toNat : Int)] (by rfl) (by rfl) (World.news_of_block (cs := #[.int .u8 (b0.toNat : Int)]) (t := 5) (fr := (0, 0)) (heap_alloc_new _ _)) (by simp [Value.oneCell']) (by decide) (by unfold maxLen; omega) (by omega) ?c5 _ rfl ?_)
                case c5 => exact Nat.le_trans hbs (by simp)
                intro g2 cap2 w4 hown hgrow hat hltg
                have HB4 := Lib.hid (own_grown (HB.out.alloc hbs _) (HO.out.alloc _) hgrow (Nat.le_trans hbs (by simp)))
                have HO4 := Lib.hid (show w4.ownsRow w.heap.size 5 1 (.slice (some ⟨g2, 0, none⟩) (l'.length + 1) cap2) (l' ++ [b0]).length (Lib.byteCells (l' ++ [b0])) from by
                  rw [List.length_append, byteCells_app]; exact hown)
                clear hown hgrow hat hltg HO HB hcell
                go_wp2_with fail
                go_roundg k
                case measure => omega
                case rel => exact ⟨i + 1, l' ++ [b0], by go_num, by have := HHI.out; omega, HO4.out, HB4.out, by rw [List.length_append, List.length_singleton]; have := HLL.out; omega, by rw [← HRP.out, rep_more, HBD.out]⟩
              · have hdi : decide ((i : Int) < (c.toNat : Int) - 124) = false := decide_eq_false (by have := HM.out; omega)
                obtain rfl : gk = 0 := by omega
                have hl2 : l' = rep l bk m := HRP.out
                rw [← hl2] at HE2
                clear hl2 HRP
                obtain ⟨p, cp, rfl⟩ := own_slice hO
                clear hO
                by_cases hgt : size < l'.length
                · have hdg : decide ((l'.length : Int) > (size : Int)) = true := decide_eq_true (by omega)
                  have hdg2 : (size : Int) < (l'.length : Int) := by omega
                  have HBAD := Lib.hid (HE2.out.len hgt)
                  clear HE2
                  go_wp2_with fail
                  go_ret2
                  exact ⟨⟨⟨#[]⟩, false, rfl, (fun h => nomatch h), by decide, fun o ho he => (HBAD.out o ho he).elim⟩, HB.out⟩
                · have hdg : decide ((l'.length : Int) > (size : Int)) = false := decide_eq_false (by omega)
                  go_wp2_with fail
                  go_roundg g0
                  case measure => omega
                  case rel => exact ⟨r2, l', rfl, HO.out, HB.out, HE2.out, by omega, by omega, by omega⟩
end Go.Proofs.YtobiacdeoeogaaaGreatDoor
