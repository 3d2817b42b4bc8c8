import Derived.Test.YtdfloglicjocbaaMf
import Derived.RegionTactic
import Derived.BigRegion
import Derived.Laws.OwnMore
set_option linter.unusedVariables false
set_option linter.unusedSimpArgs false
namespace Go.Proofs.Ytdfloglicjocbaa
open Go.RowKit

theorem covers_take (ns : List (Nat × Nat)) (k i X Y : Nat) (h : k < ns.length) (e : ns.getD k (0, 0) = (X, Y)) : covers (ns.take (k + 1)) i = (covers (ns.take k) i || (decide (X ≤ i) && decide (i < Y))) := by
  rw [List.take_succ_eq_append_getElem h]
  have : ns[k] = (X, Y) := by rw [← e]; simp [List.getElem?_eq_getElem h]
  rw [this]
  simp [covers]
theorem rest_len (cov : Nat → Bool) (k : Nat) : (rest cov k).length ≤ k := by
  induction k with
  | zero => simp [rest]
  | succ k ih =>
    rw [rest]
    split
    · omega
    · unfold restStep
      split
      · split
        · simp; omega
        · simp; omega
      · simp; omega
theorem rest_no (cov : Nat → Bool) (i : Nat) (h : cov i = true) : rest cov (i + 1) = rest cov i := by rw [rest, if_pos h]
theorem rest_more (cov : Nat → Bool) (i : Nat) (o' : List (Nat × Nat)) (q1 : Nat) (h : cov i = false) (e : rest cov i = o' ++ [(q1, i)]) : rest cov (i + 1) = o' ++ [(q1, i + 1)] := by
  rw [rest, if_neg (by simp [h]), restStep, e]; simp
theorem rest_new (cov : Nat → Bool) (i : Nat) (o' : List (Nat × Nat)) (q : Nat × Nat) (h : cov i = false) (e : rest cov i = o' ++ [q]) (hq : q.2 ≠ i) : rest cov (i + 1) = o' ++ [q] ++ [(i, i + 1)] := by
  rw [rest, if_neg (by simp [h]), restStep, e]; simp [hq]
theorem rest_first (cov : Nat → Bool) (i : Nat) (h : cov i = false) (e : rest cov i = []) : rest cov (i + 1) = [(i, i + 1)] := by
  rw [rest, if_neg (by simp [h]), restStep, e]; simp
theorem prC_set (o' : List (Int × Int)) (a b c : Int) : (prC (o' ++ [(a, b)])).set (o'.length * 2 + 1) (.int .i64 c) = prC (o' ++ [(a, c)]) := by
  rw [prC_append, prC_append, List.set_append_right _ _ (by rw [prC_len]; omega), prC_len, show o'.length * 2 + 1 - o'.length * 2 = 1 by omega]
  rfl

theorem own_snoc2 {w : World} {base n : Nat} {v : Value} {o : List (Nat × Nat)} {L : List (Int × Int)} {p : Nat × Nat} (hn : o.length = n) (hL : o.map castP = L) (h : w.ownsRow base 40 2 v (n + 1) (prC L ++ [.int .i64 (p.1 : Int), .int .i64 (p.2 : Int)])) : w.ownsRow base 40 2 v (o ++ [p]).length (prC ((o ++ [p]).map castP)) := by
  subst hn hL
  exact own_snoc h
theorem own_last {w : World} {base g cap m : Nat} {o' : List (Nat × Nat)} {q1 q2 r : Nat} (hm : o'.length = m) (h : w.ownsRow base 40 2 (.slice (some ⟨g, 0, none⟩) (m + 1) cap) (m + 1) (prC ((o' ++ [(q1, q2)]).map castP))) :
    (w.setCell ⟨g, m * 2 + 1, none⟩ (.int .i64 (r : Int))).ownsRow base 40 2 (.slice (some ⟨g, 0, none⟩) (m + 1) cap) (o' ++ [(q1, r)]).length (prC ((o' ++ [(q1, r)]).map castP)) := by
  have h2 := (h.stored (m * 2 + 1) (.int .i64 (r : Int))).1
  subst hm
  have e := prC_set (o'.map castP) (q1 : Int) (q2 : Int) (r : Int)
  rw [castP_len] at e
  simp only [List.map_append, List.map_cons, List.map_nil, castP, List.length_append, List.length_cons, List.length_nil] at h2 ⊢
  rw [e] at h2
  exact h2

def RRel (cov : Nat → Bool) (size : Nat) (w : World) (ov iv : Value) (wr : World) : Prop :=
  ∃ (i : Nat) (o : List (Nat × Nat)), i ≤ size ∧ iv = .int .i64 i ∧ wr.ownsRow w.heap.size 40 2 ov o.length (prC (o.map castP)) ∧ Below w.heap.size w wr ∧ Hid (rest cov i = o)

def RestPost (L : List (Int × Int)) (w : World) (e : Ending) (w' : World) : Prop :=
  ∃ a cap, e = .returned (.slice a L.length cap) ∧ PRow w' w'.heap.size a L ∧ Below w.heap.size w w'

set_option maxHeartbeats 4000000 in
set_option maxRecDepth 100000 in
theorem rest46 (size : Nat) (a : Option Addr) (cap : Nat) (ns : List (Nat × Nat)) (w : World) (hx : PRow w w.heap.size a (ns.map castP)) (h1 : size ≤ 3000) (hn : ns.length ≤ 2000) :
    Calls Try.prog 46 #[.int .i64 (size : Int), .slice a ns.length cap] w (RestPost ((rest (covers ns) size).map castP) w) := by
  obtain ⟨i0, hi, hz0, hz1, hz2⟩ := info_parts pair_info
  have HX := Lib.hid hx
  clear hx
  go_enter Try.func46, Try.ntmps46
  go_wp2_with fail
  go_loopw [5, 12] (fun ov iv wr => RRel (covers ns) size w ov iv wr) (fun _ iv _ => size - (intOf iv).toNat)
  case atStart => exact ⟨0, [], by omega, rfl, World.ownsRow_nil _ _ _ _, Below.refl _ _, rfl⟩
  case round =>
    obtain ⟨i, o, hik, rfl, hown, hbel, HR⟩ := hrel
    have HBel := Lib.hid hbel
    have HOwn := Lib.hid hown
    clear hbel hown
    by_cases hlt : i < size
    · have hd1 : (i : Int) < (size : Int) := by omega
      have hd2 : decide (i < size) = true := decide_eq_true hlt
      go_wp2_with fail
      go_loopw [7, 17] (fun tv kv w1 => ∃ (k : Nat) (t : Bool), k ≤ ns.length ∧ kv = .int .i64 k ∧ tv = .bool t ∧ w1.ownsRow w.heap.size 40 2 (u5) o.length (prC (o.map castP)) ∧ Below w.heap.size w w1 ∧ Hid (t = covers (ns.take k) i)) (fun _ kv _ => ns.length - (intOf kv).toNat)
      case atStart => exact ⟨0, false, by omega, rfl, rfl, HOwn.out, HBel.out, by show _ = _; simp [covers]⟩
      case round =>
        obtain ⟨k, t, hk, rfl, rfl, hown1, hbel1, HT⟩ := hrel
        have HOwn1 := Lib.hid hown1
        have HBel1 := Lib.hid hbel1
        have hsz1 := hbel1.size
        clear hown1 hbel1 HOwn HBel
        by_cases hkl : k < ns.length
        · obtain ⟨b, off, rfl, hbB, c0, c1⟩ := (HX.out.below HBel1.out) k (by simpa using hkl)
          have hbl : b < wr.heap.size := by omega
          have hk1 : (k : Int) < (ns.length : Int) := by omega
          have hk2 : decide (k < ns.length) = true := decide_eq_true hkl
          rw [castP_getD ns k hkl] at c0 c1
          obtain ⟨p, hp⟩ : ∃ p, ns.getD k (0, 0) = p := ⟨_, rfl⟩
          rw [hp] at c0 c1
          obtain ⟨X, Y⟩ := p
          have HC := Lib.hid (covers_take ns k i X Y hkl hp)
          clear hp
          simp only [castP] at c0 c1
          have HBA := Lib.hid (HBel1.out.alloc hsz1 (.cells #[.int .i64 (X : Int), .int .i64 (Y : Int)] 40))
          have HOA := Lib.hid (HOwn1.out.alloc (.cells #[.int .i64 (X : Int), .int .i64 (Y : Int)] 40))
          clear HOwn1 HBel1
          by_cases hXi : X ≤ i
          · have d1 : (X : Int) ≤ (i : Int) := by omega
            have d2 : decide (X ≤ i) = true := decide_eq_true hXi
            by_cases hiY : i < Y
            · have d3 : (i : Int) < (Y : Int) := by omega
              have d4 : decide (i < Y) = true := decide_eq_true hiY
              have HN := Lib.hid (show true = covers (ns.take (k + 1)) i by rw [HC.out, d2, d4]; simp)
              go_wp2_with fail
              go_roundw
              case rel => exact ⟨k + 1, true, by omega, by go_num, rfl, HOA.out, HBA.out, HN.out⟩
              case measure => simp [intOf]; omega
            · have d3 : ¬ (i : Int) < (Y : Int) := by omega
              have d4 : decide (i < Y) = false := decide_eq_false hiY
              have HN := Lib.hid (show t = covers (ns.take (k + 1)) i by rw [HC.out, d4, HT.out]; simp)
              go_wp2_with fail
              go_roundw
              case rel => exact ⟨k + 1, t, by omega, by go_num, rfl, HOA.out, HBA.out, HN.out⟩
              case measure => simp [intOf]; omega
          · have d1 : ¬ (X : Int) ≤ (i : Int) := by omega
            have d2 : decide (X ≤ i) = false := decide_eq_false hXi
            have HN := Lib.hid (show t = covers (ns.take (k + 1)) i by rw [HC.out, d2, HT.out]; simp)
            go_wp2_with fail
            go_roundw
            case rel => exact ⟨k + 1, t, by omega, by go_num, rfl, HOA.out, HBA.out, HN.out⟩
            case measure => simp [intOf]; omega
        · have hd : ¬ (k : Int) < (ns.length : Int) := by omega
          have hk2 : decide (k < ns.length) = false := decide_eq_false hkl
          have HC := Lib.hid (show covers ns i = t by rw [HT.out, List.take_of_length_le (by omega)])
          have hol : o.length ≤ i := by rw [← HR.out]; exact rest_len _ _
          cases t
          · obtain ⟨a1, cap1, hv, hr1⟩ := own_to _ _ _ _ HOwn1.out
            clear hr1
            rw [castP_len] at hv
            have HV := Lib.hid hv
            rw [hv]
            clear hv
            rcases List.eq_nil_or_concat o with ho | ⟨o', q, ho⟩
            · have HR2 := Lib.hid (rest_first (covers ns) i HC.out (by rw [HR.out, ho]))
              have HO2 := Lib.hid (show wr.ownsRow w.heap.size 40 2 (.slice a1 0 cap1) 0 [] by have := HOwn1.out; rw [HV.out, ho] at this; exact this)
              rw [ho]
              clear ho HR HV HOwn1
              go_wp2_with (at_builtin; refine wpList_append_own_at _ rfl (.tmp 56) (.tmp 61) 36 rfl w.heap.size 40 i0 (.agg #[.int .i64 0, .int .i64 0]) 2 16 Try.underlying36 hi hz0 hz1 hz2 rfl (by decide) _ _ _ rfl (HO2.out.alloc _) ⟨wr.heap.size, 0, none⟩ 1 1 [.int .i64 (i : Int), .int .i64 ((i : Int) + 1)] rfl rfl (cells_new _ _ _) (by simp [Value.oneCell']) (by unfold maxLen; omega) (by omega) (by simp; omega) ?_)
              intro v' w3 hown3 hg3 _ _
              have HB3 := Lib.hid (grow_below HBel1.out HO2.out (Nat.le_refl _) hsz1 hg3)
              have HO3 := Lib.hid (own_snoc (o := []) (p := (i, i + 1)) hown3)
              clear hown3 hg3
              go_wp2_with fail
              go_roundw
              case rel => exact ⟨i + 1, [(i, i + 1)], by omega, by go_num, HO3.out, HB3.out, HR2.out⟩
              case measure => simp [intOf]; omega
            · have hol2 : o'.length + 1 ≤ i := by rw [ho] at hol; simpa using hol
              have hlen : o.length = o'.length + 1 := by rw [ho]; simp
              rw [List.concat_eq_append] at ho
              obtain ⟨g, hg, hgw⟩ : ∃ g, a1 = some ⟨g, 0, none⟩ ∧ w.heap.size ≤ g := by
                have h := HOwn1.out.2
                rw [HV.out] at h
                rcases h with ⟨e, _⟩ | ⟨g, cp, cur, e, hb, _⟩
                · injection e with e1 e2; omega
                · injection e with e1; exact ⟨g, e1, hb⟩
              subst hg
              have HO2 := Lib.hid (show wr.ownsRow w.heap.size 40 2 (.slice (some ⟨g, 0, none⟩) (o'.length + 1) cap1) (o'.length + 1) (prC ((o' ++ [q]).map castP)) by have := HOwn1.out; rw [HV.out, hlen, ho] at this; exact this)
              have hgl : g < wr.heap.size := (HO2.out.lt g rfl).2
              obtain ⟨q1, q2⟩ := q
              have hcell : wr.cell? ⟨g, o'.length * 2 + 1, none⟩ = some (.int .i64 (q2 : Int)) := by
                rw [HO2.out.cellAt _ (by omega)]
                have := (prC_at ((o' ++ [(q1, q2)]).map castP) o'.length (by simp)).2
                rw [this]; simp [castP]
              have hfr := HO2.out.frozenAt (o'.length * 2 + 1)
              rw [hlen]
              have HO := Lib.hid ho
              clear ho HV HOwn1 hlen
              generalize hm : o'.length = m at *
              have HM := Lib.hid hm
              clear hm
              have e1 : ((m + 1 : Nat) : Int) - 1 = (m : Int) := by omega
              have e2 : (0 : Int) < (m : Int) + 1 := by omega
              have e3 : (m : Int) < (m : Int) + 1 := by omega
              by_cases hq : q2 = i
              · subst hq
                have HR2 := Lib.hid (rest_more (covers ns) q2 o' q1 HC.out (by rw [HR.out, HO.out]))
                go_wp2_with fail
                go_region
                all_goals go_wp2_with fail
                all_goals refine ⟨⟨q2 + 1, o' ++ [(q1, q2 + 1)], by omega, by go_num, ?_, (HBel1.out.setCell hgw _).drew, HR2.out⟩, by simp [intOf]; omega⟩
                all_goals exact own_last HM.out HO2.out
              · have hne : ¬ (q2 : Int) = (i : Int) := by omega
                have hne2 : ((q2 : Int) == (i : Int)) = false := by simp; omega
                have hne3 : (q2 == i) = false := by simp; omega
                have HR2 := Lib.hid (rest_new (covers ns) i o' (q1, q2) HC.out (by rw [HR.out, HO.out]) hq)
                clear hq
                go_wp2_with (at_builtin; refine wpList_append_own_at _ rfl (.tmp 56) (.tmp 61) 36 rfl w.heap.size 40 i0 (.agg #[.int .i64 0, .int .i64 0]) 2 16 Try.underlying36 hi hz0 hz1 hz2 rfl (by decide) _ _ _ rfl (HO2.out.alloc _) ⟨wr.heap.size, 0, none⟩ 1 1 [.int .i64 (i : Int), .int .i64 ((i : Int) + 1)] rfl rfl (cells_new _ _ _) (by simp [Value.oneCell']) (by unfold maxLen; omega) (by omega) (by simp; omega) ?_)
                intro v' w3 hown3 hg3 _ _
                have HB3 := Lib.hid (grow_below HBel1.out HO2.out (Nat.le_refl _) hsz1 hg3)
                have HO3 := Lib.hid (own_snoc2 (o := o' ++ [(q1, q2)]) (p := (i, i + 1)) (by simp [HM.out]) (by simp) hown3)
                clear hown3 hg3
                go_wp2_with fail
                go_roundw
                case rel => exact ⟨i + 1, o' ++ [(q1, q2)] ++ [(i, i + 1)], by omega, by go_num, HO3.out, HB3.out, HR2.out⟩
                case measure => simp [intOf]; omega
          · have HR2 := Lib.hid (rest_no (covers ns) i HC.out)
            go_wp2_with fail
            go_roundw
            case rel => exact ⟨i + 1, o, by omega, by go_num, HOwn1.out, HBel1.out, by show _ = _; rw [HR2.out]; exact HR.out⟩
            case measure => simp [intOf]; omega
    · obtain rfl : i = size := by omega
      have hd1 : ¬ (i : Int) < (i : Int) := by omega
      obtain ⟨a1, cap1, hv, hr1⟩ := own_to _ _ _ _ HOwn.out
      have HR1 := Lib.hid hr1
      rw [hv]
      clear hv hr1 HOwn
      go_wp2_with fail
      go_ret
      exact ⟨a1, cap1, by rw [HR.out]; first | rfl | (rw [castP_len]; rfl), by rw [HR.out]; exact HR1.out, HBel.out⟩
end Go.Proofs.Ytdfloglicjocbaa
