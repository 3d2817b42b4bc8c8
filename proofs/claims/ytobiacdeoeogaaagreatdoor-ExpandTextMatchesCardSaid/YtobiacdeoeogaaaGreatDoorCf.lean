import Derived.Test.YtobiacdeoeogaaaGreatDoorCe
set_option linter.unusedVariables false
set_option linter.unusedSimpArgs false
namespace Go.Proofs.YtobiacdeoeogaaaGreatDoor
open Go.RowKit
theorem decC_nil {l o : List UInt8} (h : Dec l [] o) : l = o := by cases h; rfl
theorem decC_lit {l t o : List UInt8} {c : UInt8} (h : Dec l (c :: t) o) (hc : c.toNat < 128) : c.toNat + 1 ≤ t.length ∧ Dec (l ++ t.take (c.toNat + 1)) (t.drop (c.toNat + 1)) o := by
  generalize hs : c :: t = s0 at h
  cases h with
  | nil => cases hs
  | lit _ c2 l2 s2 _ hc2 hl2 h2 =>
    injection hs with e1 e2
    subst e1
    subst e2
    rw [← hl2]
    refine ⟨by simp, ?_⟩
    rw [List.take_left, List.drop_left]
    exact h2
  | copy _ c2 x y s2 _ hc2 hb2 h2 =>
    injection hs with e1 e2
    subst e1
    omega
theorem decC_copy {l t o : List UInt8} {c : UInt8} (h : Dec l (c :: t) o) (hc : 128 ≤ c.toNat) : 2 ≤ t.length ∧ (t.getD 0 0).toNat * 256 + (t.getD 1 0).toNat + 1 ≤ l.length ∧ Dec (rep l ((t.getD 0 0).toNat * 256 + (t.getD 1 0).toNat + 1) (c.toNat - 124)) (t.drop 2) o := by
  generalize hs : c :: t = s0 at h
  cases h with
  | nil => cases hs
  | lit _ c2 l2 s2 _ hc2 hl2 h2 =>
    injection hs with e1 e2
    subst e1
    omega
  | copy _ c2 x y s2 _ hc2 hb2 h2 =>
    injection hs with e1 e2
    subst e1
    subst e2
    exact ⟨by simp, hb2, h2⟩
theorem repC_more (l : List UInt8) (back n : Nat) : rep l back (n + 1) = rep (l ++ [l.getD (l.length - back) 0]) back n := rfl
/-- what stands of a block that is being read. -/
def Ey (s : List UInt8) (most : Nat) (l r : List UInt8) : Prop := ∀ o, Dec [] s o → o.length ≤ most → Dec l r o
theorem Ey.start (s : List UInt8) (most : Nat) : Ey s most [] s := fun _ h _ => h
theorem Ey.lit {s l t : List UInt8} {most : Nat} {c : UInt8} (h : Ey s most l (c :: t)) (hc : c.toNat < 128) : Ey s most (l ++ t.take (c.toNat + 1)) (t.drop (c.toNat + 1)) := fun o ho hl => (decC_lit (h o ho hl) hc).2
theorem Ey.copy {s l t : List UInt8} {most : Nat} {c : UInt8} (h : Ey s most l (c :: t)) (hc : 128 ≤ c.toNat) : Ey s most (rep l ((t.getD 0 0).toNat * 256 + (t.getD 1 0).toNat + 1) (c.toNat - 124)) (t.drop 2) := fun o ho hl => (decC_copy (h o ho hl) hc).2.2
theorem Ey.len {s l r : List UInt8} {most : Nat} (h : Ey s most l r) (hl : most < l.length) : ∀ o, Dec [] s o → o.length ≤ most → False := fun o ho he => by
  have := (h o ho he).len
  omega
/-- what reading a block answers (the document). -/
structure YPost (s : ByteArray) (most : Nat) (w : World) (e : Ending) (w' : World) : Prop where
  h : ∃ x : ByteArray, ∃ ok : Bool, e = .returned (.tuple #[.string x, .bool ok]) ∧ x.size ≤ most ∧ ∀ o, Dec [] s.data.toList o → o.length ≤ most → x.data.toList = o ∧ ok = true
  b : Below w.heap.size w w'
theorem YPost.bad {s : ByteArray} {most : Nat} {w w' : World} (h : ∀ o, Dec [] s.data.toList o → o.length ≤ most → False) (b : Below w.heap.size w w') : YPost s most w (.returned (.tuple #[.string ⟨#[]⟩, .bool false])) w' :=
  ⟨⟨⟨#[]⟩, false, rfl, Nat.zero_le _, fun o ho he => (h o ho he).elim⟩, b⟩
set_option maxRecDepth 100000 in
set_option maxHeartbeats 16000000 in
theorem unsqueezed_ok (s : ByteArray) (most : Nat) (w : World) (h1 : most ≤ 16384) (h2 : s.size ≤ 2097152) : Calls Tryz.prog 38 #[.string s, .int .i64 (most : Int)] w fun e w' => YPost s most w e w' := by
  obtain ⟨S, hS⟩ : ∃ S, s.data.toList = S := ⟨_, rfl⟩
  have hSl : s.size = S.length := by rw [← hS]; exact Lib.size_eq s
  have HS := Lib.hid hS
  have HSL := Lib.hid hSl
  clear hS hSl
  go_enter Tryz.func38, Tryz.ntmps38
  go_wp2_with fail
  go_loopg [6, 7] s.size (fun gk o6 i7 wr => ∃ out : ByteArray, ∃ i : Nat, o6 = .string out ∧ i7 = .int .i64 (i : Int) ∧ i ≤ s.size ∧ s.size ≤ i + gk ∧ Ey S most out.data.toList (S.drop i) ∧ out.size ≤ most ∧ Below w.heap.size w wr)
  case atStart => exact ⟨⟨#[]⟩, 0, rfl, rfl, Nat.zero_le _, by omega, Ey.start _ _, Nat.zero_le _, Below.refl _ _⟩
  case round =>
    obtain ⟨out, i, rfl, rfl, hi, hgk, hE, ho, hB⟩ := hrel
    have HE := Lib.hid hE
    have HB := Lib.hid hB
    have hbs := hB.size
    clear hE hB
    by_cases hlt : i < s.size
    · have hd : decide ((i : Int) < (s.size : Int)) = true := decide_eq_true (by omega)
      have hd2 : decide (i < s.size) = true := decide_eq_true hlt
      have hlS : i < S.length := by rw [← HSL.out]; exact hlt
      obtain ⟨c, t, hct⟩ : ∃ c t, S.drop i = c :: t := ⟨_, _, List.drop_eq_getElem_cons hlS⟩
      have htd : t = S.drop (i + 1) := by
        have := congrArg (List.drop 1) hct
        rw [List.drop_drop] at this
        exact this.symm
      have htl : t.length + (i + 1) = s.size := by rw [htd, List.length_drop, HSL.out]; omega
      have hcb := c.toNat_lt
      have hix : ∀ w : World, (Instr.index 9 (.string s) (.int .i64 (i : Int))).run Tryz.prog w = .ok (.int .u8 (c.toNat : Int)) w := index_at s i c (by
        rw [HS.out]
        have := congrArg (·[0]?) hct
        simpa using this)
      have HCT := Lib.hid hct
      have HTD := Lib.hid htd
      clear hct htd
      obtain ⟨n, hn⟩ : ∃ n, c.toNat = n := ⟨_, rfl⟩
      have HN := Lib.hid hn
      rw [hn] at hix hcb
      have hE0 := HE.out
      rw [HCT.out] at hE0
      have HE0 := Lib.hid hE0
      clear HE hE0 hn
      by_cases hc : n < 128
      · have hdc : decide ((n : Int) < 128) = true := decide_eq_true (by omega)
        by_cases hsh : s.size < i + 2 + n
        · have hds : decide ((i : Int) + 2 + (n : Int) > (s.size : Int)) = true := decide_eq_true (by omega)
          have hds2 : (s.size : Int) < (i : Int) + 2 + (n : Int) := by omega
          have HBAD := Lib.hid (show ∀ o, Dec [] s.data.toList o → o.length ≤ most → False from fun o ho he => by
            rw [HS.out] at ho
            have := (decC_lit (HE0.out o ho he) (by rw [HN.out]; exact hc)).1
            rw [HN.out] at this
            omega)
          clear HE0
          go_wp2_with fail
          go_ret2
          exact YPost.bad HBAD.out HB.out
        · have hds : decide ((i : Int) + 2 + (n : Int) > (s.size : Int)) = false := decide_eq_false (by omega)
          have hds2 : ¬ (s.size : Int) < (i : Int) + 2 + (n : Int) := by omega
          have q1 : (i : Int) + 2 + (n : Int) ≤ (s.size : Int) := by omega
          have q2 : (0 : Int) ≤ (i : Int) + 1 := by omega
          have q3 : (i : Int) + 1 ≤ (i : Int) + 2 + (n : Int) := by omega
          have q4 : ((i : Int) + 2 + (n : Int)).toNat = i + 2 + n := by omega
          have q5 : ((i : Int) + 1).toNat = i + 1 := by omega
          obtain ⟨ex, hex⟩ : ∃ ex, s.extract (i + 1) (i + 2 + n) = ex := ⟨_, rfl⟩
          have hexl : ex.data.toList = t.take (n + 1) := by rw [← hex, ex_listC, HS.out, HTD.out, show i + 2 + n - (i + 1) = n + 1 by omega]
          have hexz : ex.size = n + 1 := by rw [Lib.size_eq, hexl, List.length_take]; omega
          have hE3 := HE0.out.lit (by rw [HN.out]; exact hc)
          rw [HN.out, ← hexl, HTD.out, List.drop_drop, show i + 1 + (n + 1) = i + 2 + n by omega] at hE3
          have HE3 := Lib.hid hE3
          have hoz : out.size + ex.size ≤ 100000 := by omega
          have hoz2 : (out ++ ex).size = out.size + ex.size := ByteArray.size_append
          have HEXZ := Lib.hid hexz
          clear hE3 HE0 hexl
          by_cases hgt : most < out.size + ex.size
          · have hdg : decide ((out.size : Int) + (ex.size : Int) > (most : Int)) = true := decide_eq_true (by omega)
            have hdg2 : decide (most < out.size + ex.size) = true := decide_eq_true hgt
            have hdg3 : (most : Int) < (out.size : Int) + (ex.size : Int) := by omega
            have HBAD := Lib.hid (show ∀ o, Dec [] s.data.toList o → o.length ≤ most → False from fun o ho he => by
              rw [HS.out] at ho
              refine HE3.out.len ?_ o ho he
              rw [List.length_append, ← Lib.size_eq, ← Lib.size_eq]
              exact hgt)
            clear HE3
            go_wp2_with fail
            go_ret2
            exact YPost.bad HBAD.out HB.out
          · have hdg : decide ((out.size : Int) + (ex.size : Int) > (most : Int)) = false := decide_eq_false (by omega)
            have hdg2 : decide (most < out.size + ex.size) = false := decide_eq_false hgt
            have hdg3 : ¬ (most : Int) < (out.size : Int) + (ex.size : Int) := by omega
            go_wp2_with fail
            go_roundg (gk - 1)
            case measure => omega
            case rel =>
              refine ⟨out ++ ex, i + 2 + n, rfl, by first | go_num | (congr 1; omega), by omega, by omega, ?_, by rw [ByteArray.size_append]; omega, HB.out⟩
              have : (out ++ ex).data.toList = out.data.toList ++ ex.data.toList := by simp
              rw [this]
              exact HE3.out
      · have hdc : decide ((n : Int) < 128) = false := decide_eq_false (by omega)
        by_cases h3 : s.size < i + 3
        · have hds : decide ((i : Int) + 3 > (s.size : Int)) = true := decide_eq_true (by omega)
          have hds2 : (s.size : Int) < (i : Int) + 3 := by omega
          have HBAD := Lib.hid (show ∀ o, Dec [] s.data.toList o → o.length ≤ most → False from fun o ho he => by
            rw [HS.out] at ho
            have := (decC_copy (HE0.out o ho he) (by rw [HN.out]; omega)).1
            omega)
          clear HE0
          go_wp2_with fail
          go_ret2
          exact YPost.bad HBAD.out HB.out
        · have hds : decide ((i : Int) + 3 > (s.size : Int)) = false := decide_eq_false (by omega)
          have hds2 : ¬ (s.size : Int) < (i : Int) + 3 := by omega
          have hix1 : ∀ w : World, (Instr.index 9 (.string s) (.int .i64 ((i : Int) + 1))).run Tryz.prog w = .ok (.int .u8 ((t.getD 0 0).toNat : Int)) w := index_at s (i + 1) (t.getD 0 0) (by
            rw [HS.out, HTD.out, List.getD_eq_getElem?_getD, List.getElem?_drop, List.getElem?_eq_getElem (by rw [← HSL.out]; omega)]
            rfl)
          have hix2 : ∀ w : World, (Instr.index 9 (.string s) (.int .i64 ((i : Int) + 2))).run Tryz.prog w = .ok (.int .u8 ((t.getD 1 0).toNat : Int)) w := index_at s (i + 2) (t.getD 1 0) (by
            rw [HS.out, HTD.out, List.getD_eq_getElem?_getD, List.getElem?_drop, List.getElem?_eq_getElem (by rw [← HSL.out]; omega)]
            rfl)
          have hxl := (t.getD 0 0).toNat_lt
          have hyl := (t.getD 1 0).toNat_lt
          have HE2 := Lib.hid (HE0.out.copy (by rw [HN.out]; omega))
          have HBK := Lib.hid (show ∀ o, Dec [] S o → o.length ≤ most → (t.getD 0 0).toNat * 256 + (t.getD 1 0).toNat + 1 ≤ out.size from fun o ho he => by
            have := (decC_copy (HE0.out o ho he) (by rw [HN.out]; omega)).2.1
            rw [← Lib.size_eq] at this
            exact this)
          rw [HN.out] at HE2
          generalize (t.getD 0 0).toNat = x at *
          generalize (t.getD 1 0).toNat = y at *
          have p1 : IntKind.i64.wrap ((i : Int) + 1) = (i : Int) + 1 := IntWalk.i64_in _ (by omega)
          have p2 : IntKind.i64.wrap ((i : Int) + 2) = (i : Int) + 2 := IntWalk.i64_in _ (by omega)
          clear HE0
          go_wp2_with fail
          go_quiet (fail)
          have HB1 := Lib.hid (HB.out.trans (((Kp.refl [] wr).drewN nq).below hbs (by simp)))
          have hbs1 := HB1.out.size
          clear HB hbs p1 p2 hix hix1 hix2
          generalize wr.drewN nq = w1 at *
          obtain ⟨bk, hbk⟩ : ∃ bk, bk = x * 256 + y + 1 := ⟨_, rfl⟩
          rw [show (x : Int) * 256 + (y : Int) + 1 = (bk : Int) by omega]
          rw [← hbk] at HE2 HBK
          have hbk1 : 1 ≤ bk := by omega
          have hbk2 : bk ≤ 100000 := by omega
          clear hbk
          by_cases hbo : out.size < bk
          · have hdb : decide ((bk : Int) > (out.size : Int)) = true := decide_eq_true (by omega)
            have hdb2 : decide (out.size < bk) = true := decide_eq_true hbo
            have HBAD := Lib.hid (show ∀ o, Dec [] s.data.toList o → o.length ≤ most → False from fun o ho he => by
              rw [HS.out] at ho
              have := HBK.out o ho he
              omega)
            clear HE2 HBK
            go_wp2_with fail
            go_ret2
            exact YPost.bad HBAD.out HB1.out
          · have hdb : decide ((bk : Int) > (out.size : Int)) = false := decide_eq_false (by omega)
            have hdb2 : decide (out.size < bk) = false := decide_eq_false hbo
            obtain ⟨m, hm⟩ : ∃ m, m = n - 124 := ⟨_, rfl⟩
            have hm131 : m ≤ 131 := by omega
            have HM := Lib.hid hm
            rw [← hm] at HE2
            clear hm HBK
            obtain ⟨g0, hg0⟩ : ∃ g, g = gk := ⟨_, rfl⟩
            subst hg0
            go_wp2_with fail
            go_loopg [6, 65] m (fun g2 o6 j wx => ∃ k : Nat, ∃ out' : ByteArray, o6 = .string out' ∧ j = .int .i64 (k : Int) ∧ k + g2 = m ∧ out'.size = out.size + k ∧ rep out'.data.toList bk g2 = rep out.data.toList bk m ∧ wx = w1)
            case atStart => exact ⟨0, out, rfl, rfl, by omega, rfl, rfl, rfl⟩
            case round =>
              obtain ⟨k, o2, rfl, rfl, hkm, hoz, hrp, rfl⟩ := hrel
              have HRP := Lib.hid hrp
              clear hrp
              have ho2 : o2.size ≤ 20000 := by omega
              have hoge : out.size ≤ o2.size := by omega
              have HOZ := Lib.hid hoz
              clear hoz
              by_cases hg2 : 0 < gk
              · obtain ⟨g2, rfl⟩ : ∃ g, gk = g + 1 := ⟨gk - 1, by omega⟩
                have hdk : decide ((k : Int) < (n : Int) - 124) = true := decide_eq_true (by have := HM.out; omega)
                have hk1000 : k ≤ 1000 := by omega
                obtain ⟨j, hj⟩ : ∃ j : Nat, (o2.size : Int) - (bk : Int) = (j : Int) := ⟨o2.size - bk, by omega⟩
                have hjn : j = o2.size - bk := by omega
                have hj1 : j + 1 ≤ o2.size := by omega
                have q1 : (j : Int) + 1 ≤ (o2.size : Int) := by omega
                have q2 : (0 : Int) ≤ (j : Int) + 1 := by omega
                have q3 : (j : Int) ≤ (j : Int) + 1 := by omega
                have q4 : ((j : Int) + 1).toNat = j + 1 := by omega
                obtain ⟨ex, hex⟩ : ∃ ex, o2.extract j (j + 1) = ex := ⟨_, rfl⟩
                have hjl : j < o2.data.toList.length := by rw [← Lib.size_eq]; omega
                have hexl : ex.data.toList = [o2.data.toList.getD j 0] := by
                  rw [← hex, ex_listC, show j + 1 - j = 1 by omega, List.drop_eq_getElem_cons hjl, List.getD_eq_getElem?_getD, List.getElem?_eq_getElem hjl]
                  rfl
                have hexz : ex.size = 1 := by rw [Lib.size_eq, hexl]; rfl
                have HEXL := Lib.hid hexl
                have HJN := Lib.hid hjn
                have hsz : o2.size + ex.size ≤ 100000 := by omega
                have HEXZ := Lib.hid hexz
                clear hexl hjn hexz
                go_wp2_with fail
                go_roundg g2
                case measure => omega
                case rel =>
                  refine ⟨k + 1, o2 ++ ex, rfl, by go_num, by omega, by rw [ByteArray.size_append, HEXZ.out, HOZ.out]; omega, ?_, rfl⟩
                  rw [← HRP.out, repC_more]
                  have : (o2 ++ ex).data.toList = o2.data.toList ++ ex.data.toList := by simp
                  rw [this, HEXL.out, HJN.out, Lib.size_eq]
              · have hdk : decide ((k : Int) < (n : Int) - 124) = false := decide_eq_false (by have := HM.out; omega)
                obtain rfl : gk = 0 := by omega
                have hl2 : o2.data.toList = rep out.data.toList bk m := HRP.out
                rw [← hl2, HTD.out, List.drop_drop] at HE2
                rw [show i + 1 + 2 = i + 3 by omega] at HE2
                clear hl2 HRP
                by_cases hgt : most < o2.size
                · have hdg : decide ((o2.size : Int) > (most : Int)) = true := decide_eq_true (by omega)
                  have hdg2 : decide (most < o2.size) = true := decide_eq_true hgt
                  have HBAD := Lib.hid (show ∀ o, Dec [] s.data.toList o → o.length ≤ most → False from fun o ho he => by
                    rw [HS.out] at ho
                    refine HE2.out.len ?_ o ho he
                    rw [← Lib.size_eq]
                    exact hgt)
                  clear HE2
                  go_wp2_with fail
                  go_ret2
                  exact YPost.bad HBAD.out HB1.out
                · have hdg : decide ((o2.size : Int) > (most : Int)) = false := decide_eq_false (by omega)
                  have hdg2 : decide (most < o2.size) = false := decide_eq_false hgt
                  go_wp2_with fail
                  go_roundg (g0 - 1)
                  case measure => omega
                  case rel => exact ⟨o2, i + 3, rfl, by go_num, by omega, by omega, HE2.out, by omega, HB1.out⟩
    · have hd : decide ((i : Int) < (s.size : Int)) = false := decide_eq_false (by omega)
      have hd2 : decide (i < s.size) = false := decide_eq_false hlt
      have HEND := Lib.hid (show ∀ o, Dec [] s.data.toList o → o.length ≤ most → out.data.toList = o from fun o ho he => by
        rw [HS.out] at ho
        have := HE.out o ho he
        rw [List.drop_eq_nil_of_le (by rw [← HSL.out]; omega)] at this
        exact decC_nil this)
      clear HE
      go_wp2_with fail
      go_ret2
      exact ⟨⟨out, true, rfl, ho, fun o ho he => ⟨HEND.out o ho he, rfl⟩⟩, HB.out⟩
end Go.Proofs.YtobiacdeoeogaaaGreatDoor
