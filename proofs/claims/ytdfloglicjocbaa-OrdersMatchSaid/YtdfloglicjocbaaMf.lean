import Derived.Test.YtdfloglicjocbaaMe
set_option linter.unusedVariables false
set_option linter.unusedSimpArgs false
namespace Go.Proofs.Ytdfloglicjocbaa
open Go.RowKit

theorem castP_getD (ns : List (Nat × Nat)) (k : Nat) (h : k < ns.length) : (ns.map castP).getD k (0, 0) = castP (ns.getD k (0, 0)) := by
  simp [List.getElem?_eq_getElem h]
theorem castP_len (ns : List (Nat × Nat)) : (ns.map castP).length = ns.length := by simp
/-- behind the sort: the row that Missing goes through. -/
def SortedPost (ns : List (Nat × Nat)) (w : World) (v : Value) (w' : World) : Prop :=
  ∃ (ns' : List (Nat × Nat)) (a : Option Addr) (cap : Nat), v = .slice a ns'.length cap ∧ ns'.Perm ns ∧ (ns'.Pairwise fun a b => a.1 ≤ b.1) ∧ PRow w' w'.heap.size a (ns'.map castP) ∧ Below w.heap.size w w'
def SortPost2 (ns : List (Nat × Nat)) (v : Value) (w : World) (e : Ending) (w' : World) : Prop := e = .returned (.tuple #[]) ∧ SortedPost ns w v w'
theorem sort66v (v : Value) (ns : List (Nat × Nat)) (w0 w : World) (hown : w.ownsRow w0.heap.size 40 2 v ns.length (prC (ns.map castP))) (hb : Below w0.heap.size w0 w) (hm : ∀ p ∈ ns, p.1 ≤ 1048576) (hl : ns.length ≤ 2000) :
    Calls Try.prog 66 #[v, .func (.func 67) #[] #[]] w (SortPost2 ns v w0) := by
  rcases hown.2 with ⟨rfl, h0⟩ | ⟨g, cap, cur, rfl, _⟩
  · refine (AnyF.slices_SortFunc_none Try.laysSlF06_f66 none 0 (.func (.func 67) #[] #[]) w).mono ?_
    rintro e w' ⟨rfl, rfl⟩
    have hns : ns = [] := List.eq_nil_of_length_eq_zero h0
    subst hns
    exact ⟨rfl, [], none, 0, rfl, List.Perm.refl _, List.Pairwise.nil, fun i hi => by simp at hi, hb⟩
  · refine (sort66 g cap ns.length w0.heap.size ns w hown rfl hm hl hb.size).mono ?_
    rintro e w' ⟨rfl, ns', h1, h2, h3, h4⟩
    exact ⟨rfl, ns', _, cap, by rw [h1.length_eq], h1, h2, h3, hb.trans h4⟩

theorem fold_take (l : List (Nat × Nat)) (k : Nat) (h : k < l.length) (s : List (Nat × Nat) × Nat) : (l.take (k + 1)).foldl missStep s = missStep ((l.take k).foldl missStep s) (l.getD k (0, 0)) := by
  rw [List.take_succ_eq_append_getElem h, List.foldl_append]
  simp [List.getElem?_eq_getElem h]

def MissPost (L : List (Int × Int)) (w : World) (e : Ending) (w' : World) : Prop :=
  ∃ a cap, e = .returned (.tuple #[.slice a L.length cap, .int .i64 0]) ∧ PRow w' w'.heap.size a L ∧ Below w.heap.size w w'

def MRel (size : Nat) (l : List (Nat × Nat)) (w2 : World) (ov av iv : Value) (wr : World) : Prop :=
  ∃ (k x : Nat) (o : List (Nat × Nat)), k ≤ l.length ∧ iv = .int .i64 k ∧ av = .int .i64 x ∧ x ≤ size ∧ o.length ≤ k ∧ wr.ownsRow w2.heap.size 40 2 ov o.length (prC (o.map castP)) ∧ Below w2.heap.size w2 wr ∧ Hid ((l.take k).foldl missStep ([], 0) = (o, x))

theorem own_to (w : World) (base : Nat) (v : Value) (o : List (Nat × Nat)) (h : w.ownsRow base 40 2 v o.length (prC (o.map castP))) : ∃ a cap, v = .slice a (o.map castP).length cap ∧ PRow w w.heap.size a (o.map castP) :=
  PRow.of_own h (by simp)
theorem own_snoc {w : World} {base : Nat} {v : Value} {o : List (Nat × Nat)} {p : Nat × Nat} (h : w.ownsRow base 40 2 v (o.length + 1) (prC (o.map castP) ++ [.int .i64 (p.1 : Int), .int .i64 (p.2 : Int)])) : w.ownsRow base 40 2 v (o ++ [p]).length (prC ((o ++ [p]).map castP)) := by
  rw [List.map_append, prC_append, List.length_append]
  exact h

theorem cells_new2 (w : World) (o : Obj) (cs : List Value) (t : TypeId) : ∀ j u, cs[j]? = some u → ((w.alloc o).alloc (.cells cs.toArray t)).cell? ((⟨w.heap.size + 1, 0, none⟩ : Addr).add j) = some u := by
  have h := cells_new (w.alloc o) cs t
  have e : (w.alloc o).heap.size = w.heap.size + 1 := by simp
  rwa [e] at h
theorem box_kept {wr w3 : World} {base n size : Nat} {e t : TypeId} {v : Value} {xs : List Value} {A : Array Value} {o : Obj} (hown : wr.ownsRow base e size v n xs) (hg : ((wr.alloc (.cells A t)).alloc o).grownBy w3 v.ownBlock) : Blk w3 wr.heap.size t A := by
  have h : Blk ((wr.alloc (.cells A t)).alloc o) wr.heap.size t A := (Blk.new wr t A).below ((Below.refl _ _).alloc (Nat.le_refl _) o) (by simp)
  refine (hg.block wr.heap.size (by simp; omega) ?_).trans h
  intro e'
  have := (hown.lt _ e'.symm).2
  omega
set_option maxHeartbeats 2000000 in
set_option maxRecDepth 100000 in
theorem missing45_ok (size : Nat) (a : Option Addr) (cap : Nat) (ns : List (Nat × Nat)) (w : World) (hx : PRow w w.heap.size a (ns.map castP)) (h1 : size ≤ 1048576) (hn : ns.length ≤ 2000) (hg : ∀ p ∈ ns, p.1 ≤ p.2 ∧ p.2 ≤ size) :
    Calls Try.prog 45 #[.int .i64 (size : Int), .slice a ns.length cap] w (MissPost ((rest (covers ns) size).map castP) w) := by
  obtain ⟨i0, hi, hz0, hz1, hz2⟩ := info_parts pair_info
  have HX := Lib.hid hx
  have HG := Lib.hid hg
  have hz : ¬ (2000 : Int) < (ns.length : Int) := by omega
  clear hx hg
  go_enter Try.func45, Try.ntmps45
  go_wp2_with fail
  go_loopw [24] (fun iv wr => ∃ k : Nat, k ≤ ns.length ∧ iv = .int .i64 k ∧ Below w.heap.size w wr) (fun iv _ => ns.length - (intOf iv).toNat)
  case atStart => exact ⟨0, by omega, rfl, Below.refl _ _⟩
  case round =>
    obtain ⟨k, hk, rfl, hbel⟩ := hrel
    have HBel := Lib.hid hbel
    have hsz := hbel.size
    clear hbel
    by_cases hlt : k < ns.length
    · obtain ⟨b, off, rfl, hbB, c0, c1⟩ := (HX.out.below HBel.out) k (by simpa using hlt)
      have hbl : b < wr.heap.size := by omega
      have hk1 : (k : Int) < (ns.length : Int) := by omega
      rw [castP_getD ns k hlt] at c0 c1
      obtain ⟨g1, g2⟩ := HG.out (ns.getD k (0, 0)) (by simp [List.getElem?_eq_getElem hlt])
      simp only [castP] at c0 c1
      have HBA := Lib.hid (HBel.out.alloc hsz (.cells #[.int .i64 ((ns.getD k (0, 0)).1 : Int), .int .i64 ((ns.getD k (0, 0)).2 : Int)] 40))
      generalize (ns.getD k (0, 0)).1 = X at *
      generalize (ns.getD k (0, 0)).2 = Y at *
      have q1 : ¬ (Y : Int) < (X : Int) := by omega
      have q2 : ¬ (size : Int) < (Y : Int) := by omega
      have q3 : decide (Y < X) = false := decide_eq_false (by omega)
      have q4 : decide (size < Y) = false := decide_eq_false (by omega)
      go_wp2_with fail
      go_roundw
      case rel => exact ⟨k + 1, by omega, by go_num, HBA.out⟩
      case measure => simp [intOf]; omega
    · have hd : ¬ (k : Int) < (ns.length : Int) := by omega
      have CL := Lib.hid (clone65 a cap (ns.map castP) wr (HX.out.below HBel.out |>.more hsz) (by simpa using hn))
      have hlm : (ns.map castP).length = ns.length := by simp
      rw [hlm] at CL
      clear hlm
      go_wp2_with fail
      refine CL.out.mono ?_
      rintro e w1 ⟨v, rfl, hown, hb1⟩
      rw [castP_len] at hown
      have HS := Lib.hid (sort66v v ns wr w1 hown hb1 (fun p hp => by have := HG.out p hp; omega) hn)
      clear hown hb1 CL
      go_wp2_with fail
      refine HS.out.mono ?_
      rintro e w2 ⟨rfl, l, a2, cap2, rfl, hperm, hsort, hrow, hb2⟩
      have HB2 := Lib.hid (below_step HBel.out (Nat.le_refl _) hb2)
      have HROW := Lib.hid hrow
      have hll : l.length ≤ 2000 := by rw [hperm.length_eq]; exact hn
      have HGL := Lib.hid (show ∀ p ∈ l, p.1 ≤ p.2 ∧ p.2 ≤ size from fun p hp => HG.out p (hperm.mem_iff.1 hp))
      have HRES := Lib.hid (missing_rest size l ns hperm hsort (fun h hh => ((HG.out h (hperm.mem_iff.1 hh)).2)))
      clear hb2 hrow hperm hsort HS HX HBel HG hsz hd hlt hk
      go_wp2_with fail
      go_loopw [9, 10, 51] (fun ov av iv wr => MRel size l w2 ov av iv wr) (fun _ _ iv _ => l.length - (intOf iv).toNat)
      case atStart => exact ⟨0, 0, [], by omega, rfl, rfl, by omega, by simp, World.ownsRow_nil _ _ _ _, Below.refl _ _, rfl⟩
      case round =>
        obtain ⟨k, x, o, hk, rfl, rfl, hxs, hol, hown, hbel, HF⟩ := hrel
        have HBel := Lib.hid hbel
        have HOwn := Lib.hid hown
        have hsz := hbel.size
        clear hbel hown
        by_cases hlt : k < l.length
        · obtain ⟨b, off, rfl, hbB, c0, c1⟩ := (HROW.out.below HBel.out) k (by simpa using hlt)
          have hbl : b < wr.heap.size := by omega
          have hk1 : (k : Int) < (l.length : Int) := by omega
          rw [castP_getD l k hlt] at c0 c1
          obtain ⟨g1, g2⟩ := HGL.out (l.getD k (0, 0)) (by simp [List.getElem?_eq_getElem hlt])
          have hft := fold_take l k hlt ([], 0)
          rw [HF.out] at hft
          have HFT := Lib.hid hft
          clear hft HF
          simp only [castP] at c0 c1
          obtain ⟨p, hp⟩ : ∃ p, l.getD k (0, 0) = p := ⟨_, rfl⟩
          rw [hp] at c0 c1 g1 g2 HFT
          clear hp
          obtain ⟨X, Y⟩ := p
          simp only at c0 c1 g1 g2
          have HBA := Lib.hid (HBel.out.alloc hsz (.cells #[.int .i64 (X : Int), .int .i64 (Y : Int)] 40))
          have HOA := Lib.hid (HOwn.out.alloc (.cells #[.int .i64 (X : Int), .int .i64 (Y : Int)] 40))
          by_cases hXY : X < Y
          · have d1 : (X : Int) < (Y : Int) := by omega
            have d2 : decide (X < Y) = true := decide_eq_true hXY
            obtain ⟨z, hzz⟩ : ∃ z : Nat, z = max x Y := ⟨_, rfl⟩
            have HZ := Lib.hid hzz
            have hzs : z ≤ size := by omega
            clear hzz
            by_cases hxX : x < X
            · have d3 : (x : Int) < (X : Int) := by omega
              have d4 : decide (x < X) = true := decide_eq_true hxX
              go_wp2_with (at_builtin; refine wpList_append_own_at _ rfl (.tmp 66) (.tmp 71) 36 rfl w2.heap.size 40 i0 (.agg #[.int .i64 0, .int .i64 0]) 2 16 Try.underlying36 hi hz0 hz1 hz2 rfl (by decide) _ _ _ rfl (HOA.out.alloc _) ⟨wr.heap.size + 1, 0, none⟩ 1 1 [.int .i64 (x : Int), .int .i64 (X : Int)] rfl rfl ?c1 ?c2 ?c3 ?c4 ?c5 ?_)
              case c1 => exact cells_new2 _ _ _ _
              case c2 => simp [Value.oneCell']
              case c3 => unfold maxLen; omega
              case c4 => omega
              case c5 => simp; omega
              intro v' w3 hown3 hg3 _ _
              have HK := Lib.hid (box_kept HOwn.out hg3)
              have HB3 := Lib.hid ((HBA.out.alloc (by simp; omega) _).grown hg3 (by simp; omega) (fun k hk => (HOwn.out.lt k hk).1))
              have HO3 := Lib.hid (own_snoc (p := (x, X)) hown3)
              have hbx := HK.out.cell
              have hs3 := HB3.out.size
              have HN := Lib.hid (show (l.take (k + 1)).foldl missStep ([], 0) = (o ++ [(x, X)], z) by rw [HFT.out, missStep, HZ.out]; simp [hxX, hXY])
              clear hown3 hg3 HOwn HOA HBA HBel HFT
              go_wp2_with fail
              go_roundw
              case rel => exact ⟨k + 1, z, o ++ [(x, X)], by omega, by go_num, by have := HZ.out; congr 1; omega, hzs, by simp; omega, HO3.out, HB3.out, HN.out⟩
              case measure => simp [intOf]; omega
            · have d3 : ¬ (x : Int) < (X : Int) := by omega
              have d4 : decide (x < X) = false := decide_eq_false hxX
              have HN := Lib.hid (show (l.take (k + 1)).foldl missStep ([], 0) = (o, z) by rw [HFT.out, missStep, HZ.out]; simp [hxX, hXY])
              go_wp2_with fail
              go_roundw
              case rel => exact ⟨k + 1, z, o, by omega, by go_num, by have := HZ.out; congr 1; omega, hzs, by omega, HOA.out, HBA.out, HN.out⟩
              case measure => simp [intOf]; omega
          · have d1 : ¬ (X : Int) < (Y : Int) := by omega
            have d2 : decide (X < Y) = false := decide_eq_false hXY
            have HN := Lib.hid (show (l.take (k + 1)).foldl missStep ([], 0) = (o, x) by rw [HFT.out, missStep]; simp [hXY])
            by_cases hxX : x < X
            · have d3 : (x : Int) < (X : Int) := by omega
              have d4 : decide (x < X) = true := decide_eq_true hxX
              go_wp2_with fail
              go_roundw
              case rel => exact ⟨k + 1, x, o, by omega, by go_num, rfl, hxs, by omega, HOA.out, HBA.out, HN.out⟩
              case measure => simp [intOf]; omega
            · have d3 : ¬ (x : Int) < (X : Int) := by omega
              have d4 : decide (x < X) = false := decide_eq_false hxX
              go_wp2_with fail
              go_roundw
              case rel => exact ⟨k + 1, x, o, by omega, by go_num, rfl, hxs, by omega, HOA.out, HBA.out, HN.out⟩
              case measure => simp [intOf]; omega
        · have hd : ¬ (k : Int) < (l.length : Int) := by omega
          obtain rfl : k = l.length := by omega
          have HT := Lib.hid (show l.foldl missStep ([], 0) = (o, x) by have := HF.out; rwa [List.take_length] at this)
          have HBW := Lib.hid (below_step HB2.out (Nat.le_refl _) HBel.out)
          by_cases hxS : x < size
          · have d3 : (x : Int) < (size : Int) := by omega
            have d4 : decide (x < size) = true := decide_eq_true hxS
            have HL := Lib.hid (show rest (covers ns) size = o ++ [(x, size)] by rw [← HRES.out, missing, HT.out]; simp [hxS])
            go_wp2_with (at_builtin; refine wpList_append_own_at _ rfl (.tmp 86) (.tmp 90) 36 rfl w2.heap.size 40 i0 (.agg #[.int .i64 0, .int .i64 0]) 2 16 Try.underlying36 hi hz0 hz1 hz2 rfl (by decide) _ _ _ rfl (HOwn.out.alloc _) ⟨wr.heap.size, 0, none⟩ 1 1 [.int .i64 (x : Int), .int .i64 (size : Int)] rfl rfl (cells_new _ _ _) (by simp [Value.oneCell']) (by unfold maxLen; omega) (by omega) (by simp; omega) ?_)
            intro v' w3 hown3 hg3 _ _
            have HB3 := Lib.hid (grow_below HBW.out (HOwn.out) (by have := HB2.out.size; omega) (by have := HBW.out.size; omega) hg3)
            obtain ⟨a3, cap3, rfl, hr3⟩ := own_to _ _ _ _ (own_snoc (p := (x, size)) hown3)
            have HR3 := Lib.hid hr3
            clear hown3 hg3 hr3
            go_wp2_with fail
            go_ret2
            exact ⟨a3, cap3, by rw [HL.out]; rfl, by rw [HL.out]; exact HR3.out, HB3.out⟩
          · have d3 : ¬ (x : Int) < (size : Int) := by omega
            have d4 : decide (x < size) = false := decide_eq_false hxS
            have HL := Lib.hid (show rest (covers ns) size = o by rw [← HRES.out, missing, HT.out]; simp [hxS])
            obtain ⟨a3, cap3, rfl, hr3⟩ := own_to _ _ _ _ HOwn.out
            have HR3 := Lib.hid hr3
            clear hr3
            go_wp2_with fail
            go_ret2
            exact ⟨a3, cap3, by rw [HL.out, castP_len]; rfl, by rw [HL.out]; exact HR3.out, HBW.out⟩
end Go.Proofs.Ytdfloglicjocbaa
