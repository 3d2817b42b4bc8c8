/-
  Keeper.Entries: what is kept, sorted by the order of trees.
-/
import Derived.Test.YtfcnmdmbkoekcaaGreatDoorYa
import Derived.Test.YtfcnmdmbkoekcaaGreatDoorYi
import Derived.Test.YtfcnmdmbkoekcaaGreatDoorKe
import Derived.Test.YtfcnmdmbkoekcaaGreatDoorSort
import Derived.Shelf.SlSortCmp.NoneTotal
import Derived.Maps.RangeWalk
import Derived.Deep.CutRange
set_option linter.unusedVariables false
set_option linter.unusedSimpArgs false
namespace Go.Proofs.YtfcnmdmbkoekcaaGreatDoor
open Go.RowKit Go.Proofs.Kl
theorem grow_two (W : World) (o1 o2 : Obj) (q : Nat) : ((W.alloc o1).alloc o2).drewN q = Sort.grow (W.drewN q) #[o1, o2] := by
  rw [Sort.alloc_eq_grow, Sort.alloc_eq_grow, Sort.grow_grow]
  rfl
set_option maxRecDepth 100000 in
set_option maxHeartbeats 4000000 in
theorem cmpEnt_ok (x y : EntB) (W : World) : Calls Tryz.prog 35 #[.agg (encE x).toArray, .agg (encE y).toArray] W fun e w' => e = .returned (.int .i64 (cfE x y)) ∧ ∃ q os', w' = Sort.grow (W.drewN q) os' := by
  obtain ⟨⟨p, sz, tm, sv, l⟩, hp, hsv⟩ := x
  obtain ⟨⟨p2, sz2, tm2, tv, l2⟩, hp2, htv⟩ := y
  show Calls Tryz.prog 35 #[.agg #[.string p, .int .i64 sz, .int .i64 tm, sv], .agg #[.string p2, .int .i64 sz2, .int .i64 tm2, tv]] W fun e w' => e = .returned (.int .i64 (cmpL p.data.toList p2.data.toList)) ∧ ∃ q os', w' = Sort.grow (W.drewN q) os'
  simp only at hp hp2 hsv htv
  have C := Lib.hid (fun w => compare_ok p p2 w (by omega) (by omega))
  clear hp hp2
  generalize cmpL p.data.toList p2.data.toList = cm at *
  go_enter Tryz.func35, Tryz.ntmps35
  go_wp2_with fail
  refine (C.out _).mono ?_
  rintro e w1 ⟨rfl, q, hw1⟩
  have HW := Lib.hid hw1
  clear hw1 C
  go_wp2_with fail
  go_ret
  exact ⟨rfl, q, _, by rw [HW.out]; exact grow_two _ _ _ _⟩
theorem aggKept (w : World) : (isAgg 40).run Tryz.prog w = .ok true w := Tryz.isAgg40 w
theorem sizeKept (w : World) : (Go.sizeOf 40).run Tryz.prog w = .ok 4 w := Tryz.sizeOf40 w
theorem sortKept_ok (blk cap : Nat) (d : Array EntB) (w : World) (hH : Sort.HoldsK encE 4 w blk 0 d) (hblk : blk < w.heap.size) (hsz : d.size ≤ 1048576) :
    Calls Tryz.prog 34 #[.slice (some ⟨blk, 0, none⟩) d.size cap, .func (.func 35) #[] #[]] w fun e w' => e = .returned (.tuple #[]) ∧ ∃ d' n os, Sort.PermIn 0 d.size d d' ∧ Sort.SortedIn (ltOf cfE) 0 d.size d' ∧ w' = sortWorldK encE 4 w blk 0 n d' os :=
  AnyQ.slices_SortFunc Tryz.sortKept 4 aggKept sizeKept encE (fun _ => rfl) (fun x v hv => by
    simp only [encE, List.mem_cons, List.not_mem_nil, or_false] at hv
    rcases hv with rfl | rfl | rfl | rfl
    · rfl
    · rfl
    · rfl
    · exact x.2.2) cfE swoE 35 #[] blk 0 cap d w (enters_of Tryz.func35 (by kernel_rfl) rfl)
    (fun m os dk _ x y => cmpEnt_ok x y _) hH hblk (by omega)
theorem sortNone_ok (w : World) : Calls Tryz.prog 34 #[.slice none 0 0, .func (.func 35) #[] #[]] w fun e w' => e = .returned (.tuple #[]) ∧ w' = w :=
  AnyF.slices_SortFunc_none Tryz.sortKept none 0 _ w
theorem infoKept : (Tryz.prog.info? 40).map (fun i => (i.zero, i.size, i.bytes)) = some (some (.agg #[.string ⟨#[]⟩, .int .i64 0, .int .i64 0, .slice none 0 0]), 4, 56) := by kernel_rfl
/-- the loop of Entries under way. -/
structure EnS (w : World) (mb n : Nat) (D : DataW Value) (vs : List Ent) (v : Value) (wr : World) (left : Lit → Bool) (cnt : Nat) (out : Array EntB) (rem : List Ent) : Prop where
  rg : wr.ranges Tryz.prog 9 RH mb w.heap.size n D left cnt
  rm : Rem left rem
  pm : (out.toList.map (·.1.e) ++ rem.map Ent.e).Perm (vs.map Ent.e)
  sub : ∀ x ∈ rem, x ∈ vs
  row : wr.ownsRow (w.heap.size + 1) 40 4 v out.size (Sort.flatK encE 4 out).toList
  sv : ∀ x ∈ out.toList, EntS wr v x.1
  lo : ∀ x ∈ out.toList, ∃ g m c, x.1.sv = .slice (some ⟨g, 0, none⟩) m c ∧ w.heap.size < g
  nil : v = .slice none 0 0 ↔ out.size = 0
  bel : Below w.heap.size w wr
theorem key_string {key : Value} {kl : Lit} (h : keyOf Tryz.prog 9 key = some kl) : ∃ x, key = .string x := by
  cases key <;> simp [keyOf, Tryz.underlying9, mapKey] at h
  exact ⟨_, rfl⟩
theorem grownBy_setCell2 (w : World) (p : Addr) (u : Value) : w.grownBy (w.setCell p u) (some p.block) := by
  have h := (Kp.refl [p.block] w).setCell p u (Or.inl (by simp))
  exact ⟨h.os, h.tape, h.output, h.size, fun k hk hne => h.block k hk (by simp; intro e; exact hne (by rw [e]))⟩
theorem four_new (w : World) (t : TypeId) (a b c d : Value) : ∀ j u, [a, b, c, d][j]? = some u → (w.alloc (.cells #[a, b, c, d] t)).cell? ((⟨w.heap.size, 0, none⟩ : Addr).add j) = some u := by
  intro j u hu
  rw [addr_add, Nat.zero_add, (Blk.new w t #[a, b, c, d]).cell j]
  simpa using hu
set_option maxRecDepth 100000 in
set_option maxHeartbeats 8000000 in
theorem entries_ok (kb mb n : Nat) (D : DataW Value) (vs : List Ent) (ls : List E) (w : World) (hk : w.cell? ⟨kb, 13, none⟩ = some (.map (some mb))) (hown : w.ownsMap Tryz.prog 9 RH mb n D) (hM : MapI D vs) (hvs : vs.map Ent.e = ls)
    (hs : ls.Pairwise (fun x y => cmpL x.path.data.toList y.path.data.toList < 0)) (hsv : ∀ x ∈ vs, SumVal w x.sv x.sums) (h2 : ∀ x ∈ vs, x.sums.length = 2) (hp : ∀ x ∈ vs, x.path.size ≤ 1048576) (hn : vs.length ≤ 1048576) :
    Calls Tryz.prog 16 #[pt kb] w fun e w' => ∃ a c, ∃ out : List Ent, e = .returned (.slice a out.length c) ∧ out.map Ent.e = ls ∧ KRow w' a out ∧ Below w.heap.size w w' := by
  have hap : vs.Pairwise (fun x y => x.path ≠ y.path) := by
    rw [← hvs, List.pairwise_map] at hs
    exact hs.imp (fun {a b} h e => by
      have h' : cmpL a.path.data.toList b.path.data.toList < 0 := h
      rw [e, cmpL_refl] at h'
      cases h')
  have KS := Lib.hid (Maps.string_keyed (P := Tryz.prog) Tryz.underlying9)
  have HM := Lib.hid hM
  have HVS := Lib.hid hvs
  have HS := Lib.hid hs
  have HSV := Lib.hid hsv
  have H2 := Lib.hid h2
  have HP := Lib.hid hp
  have HAP := Lib.hid hap
  have HMB := Lib.hid hown.lt
  clear hM hvs hs hsv h2 hp hap
  go_enter Tryz.func16, Tryz.ntmps16
  go_wp2_with (first
    | (at_range; refine wpList_range_own _ rfl _ 90 rfl 9 40 KS.out Tryz.underlying90 RH mb n D rfl hown ?_; intro w0 hrg0 hg0 hs0)
    | go_in)
  go_frame
  obtain ⟨i0, hi, hz0, hz1, hz2⟩ := info_parts infoKept
  go_loopw [3] (fun v wr => ∃ left cnt out rem, EnS w mb n D vs v wr left cnt out rem) (fun _ wr => wr.rangeLeft mb w.heap.size)
  case atStart =>
    exact ⟨_, _, #[], vs, ⟨hrg0, Rem.start HM.out HAP.out, by simp, fun _ h => h, by have h := World.ownsRow_nil w0 (w.heap.size + 1) 40 4; simpa [Sort.flatK] using h, by simp, by simp, by simp, (Below.refl w.heap.size w).grown hg0 (Nat.le_refl _) (fun j hj => by cases hj)⟩⟩
  case round =>
    obtain ⟨left, cnt, out, rem, hS⟩ := hrel
    have HSS := Lib.hid hS
    clear hS hrg0 hg0 hs0
    go_wp2_with (first
      | (at_next; refine wpList_next_ranges _ rfl _ rfl 9 KS.out RH Value.string (fun c => c) (fun key kl h => key_string h) (fun v y _ => ⟨v, rfl⟩) mb w.heap.size n D left cnt rfl HSS.out.rg ?_ ?_)
      | go_in)
    · intro hc0 hl0
      have hrem : rem = [] := HSS.out.rm.done hl0
      have HP0 := Lib.hid (show (out.toList.map (·.1.e)).Perm ls from by
        have h := HSS.out.pm
        rw [hrem, HVS.out] at h
        simpa using h)
      have hlen : out.size = ls.length := by have h := HP0.out.length_eq; simpa using h
      have hlv : ls.length = vs.length := by rw [← HVS.out]; simp
      have HLN := Lib.hid hlen
      have hle : out.size ≤ 1048576 := by omega
      have HBW := Lib.hid HSS.out.bel
      have hrow := HSS.out.row
      have hsv := HSS.out.sv
      clear hc0 hl0 hrem hlen hlv HSS
      rcases hrow.2 with ⟨hv, h0⟩ | ⟨g, cap, cur, hv, _⟩
      · subst hv
        have H0 := Lib.hid h0
        clear h0 hrow hsv
        go_wp2_with fail
        refine (sortNone_ok wr).mono ?_
        rintro e w' ⟨rfl, rfl⟩
        go_wp2_with fail
        go_ret
        have hl : ls = [] := List.eq_nil_of_length_eq_zero (by rw [← HLN.out]; exact H0.out)
        exact ⟨none, 0, [], rfl, (by rw [hl]; rfl), (fun i e he => (by cases he)), HBW.out⟩
      · rw [hv] at hrow hsv
        obtain ⟨hH, hgl, _, hbg⟩ := holdsK_of_row hrow
        have CS := Lib.hid (sortKept_ok g cap out wr hH hgl hle)
        have HH := Lib.hid hH
        have HGL := Lib.hid hgl
        have HSE := Lib.hid hsv
        have HBG := Lib.hid hbg
        subst hv
        clear hrow hsv hH hgl hbg
        go_wp2_with fail
        refine CS.out.mono ?_
        rintro e w' ⟨rfl, d', nn, os, hp, hs, hw⟩
        have HPP := Lib.hid hp
        have HSS2 := Lib.hid hs
        have HW := Lib.hid hw
        clear hp hs hw CS
        go_wp2_with fail
        go_ret
        obtain ⟨s1, s2, s3⟩ := sort_list HPP.out HSS2.out
        have hle2 : d'.toList.map (·.1.e) = ls := sorted_is (s1.trans HP0.out) HS.out s2
        refine ⟨some ⟨g, 0, none⟩, cap, d'.toList.map (·.1), ?_, ?_, ?_, ?_⟩
        · show Ending.returned _ = Ending.returned (.slice (some ⟨g, 0, none⟩) (d'.toList.map (·.1)).length cap)
          rw [List.length_map, Array.length_toList, s3]
          rfl
        · rw [List.map_map]; exact hle2
        · rw [HW.out]
          exact krow_sorted HH.out HGL.out HPP.out HSE.out
        · rw [HW.out]
          exact HBW.out.grown (grownBy_sortK _) HBW.out.size (fun j hj => by cases hj; have := HBG.out; omega)
    · intro xk c kl y yp w1 cnt1 hkey hlk hRy hat hrg1 hlt hg1 hs1 hen
      obtain ⟨x, r1, r2, hrem, rfl, hrm⟩ := HSS.out.rm.step hlk
      have hxv : x ∈ vs := HSS.out.sub x (by rw [hrem]; simp)
      have hc : c = valE x := by
        have h1 := HM.out.at_ x hxv .nil
        have h3 : (DataW.held c, []) = (y, yp) := Option.some.inj hRy
        have h4 : DataW.held c = y := congrArg Prod.fst h3
        rw [hat, ← h4] at h1
        exact DataW.held.inj h1
      subst hc
      have hsx := HSV.out x hxv
      have h2x := H2.out x hxv
      have hpx := HP.out x hxv
      have HRM := Lib.hid hrm
      have HREM := Lib.hid hrem
      have HRG := Lib.hid hrg1
      have HG1 := Lib.hid hg1
      have HLT := Lib.hid hlt
      have HB1 := Lib.hid (HSS.out.bel.grown hg1 HSS.out.bel.size (fun j hj => by cases hj; exact Nat.le_refl _))
      have HS1 := Lib.hid hs1
      clear hrm hrem hrg1 hg1 hlt hlk hRy hat hkey hxv hs1
      obtain ⟨p, sz, tm, sv, l⟩ := x
      simp only at hsx h2x hpx
      have CL := Lib.hid (fun (wx : World) (hb : Below w.heap.size w wx) => cloneSums_ok l sv wx (hsx.below hb) h2x)
      obtain ⟨aa, cp, hsv, _⟩ := hsx
      rw [h2x] at hsv
      subst hsv
      have H2X := Lib.hid h2x
      clear h2x
      have hen' : (Instr.entry (.pointer (some ⟨w.heap.size, 0, none⟩))).run Tryz.prog w1 = .ok (.tuple #[.string xk, .agg #[.string p, .int .i64 sz, .int .i64 tm, .slice aa 2 cp]]) w1 := hen
      clear hen
      have HBA := Lib.hid (HB1.out.alloc HB1.out.size (.cells #[.string p, .int .i64 sz, .int .i64 tm, .slice aa 2 cp] 40))
      have HXA := Lib.hid (Blk.new w1 40 #[.string p, .int .i64 sz, .int .i64 tm, .slice aa 2 cp])
      go_wp2_with fail
      refine (CL.out _ HBA.out).mono ?_
      rintro e w2 ⟨nv, rfl, hsv2, ⟨g2, c2, hnv, hg2⟩, hb2⟩
      subst hnv
      have HX2 := Lib.hid (HXA.out.below hb2 (by simp))
      have x3 := HX2.out.cell 3
      have f3 := HX2.out.frozen 3
      simp at x3
      have hg2' : w1.heap.size < g2 := by simp at hg2; omega
      have HSV2 := Lib.hid hsv2
      have HB2 := Lib.hid hb2
      clear hsv2 hb2 hg2 hen' CL
      go_upto_region 6 with (fail)
      have HX3 := Lib.hid (show Blk (w2.setCell ⟨w1.heap.size, 3, none⟩ (.slice (some ⟨g2, 0, none⟩) 2 c2)) w1.heap.size 40 #[.string p, .int .i64 sz, .int .i64 tm, .slice (some ⟨g2, 0, none⟩) 2 c2] from HX2.out.set 3 _)
      have HG3 := Lib.hid (grownBy_setCell2 w2 ⟨w1.heap.size, 3, none⟩ (.slice (some ⟨g2, 0, none⟩) 2 c2))
      have HSV3 := Lib.hid (HSV2.out.grown (by rw [H2X.out]) HG3.out (show some g2 ≠ some w1.heap.size from by intro e; have := Option.some.inj e; omega))
      have HB3 := Lib.hid (((Below.refl w1.heap.size w1).alloc (Nat.le_refl _) (.cells #[.string p, .int .i64 sz, .int .i64 tm, .slice aa 2 cp] 40)).trans (((HB2.out.mono (by simp)).setCell (p := ⟨w1.heap.size, 3, none⟩) (Nat.le_refl _) (.slice (some ⟨g2, 0, none⟩) 2 c2))))
      clear x3 f3 HX2 HSV2 HB2 HG3 HXA HBA
      generalize (w2.setCell ⟨w1.heap.size, 3, none⟩ (.slice (some ⟨g2, 0, none⟩) 2 c2)) = w3 at *
      have x0 := HX3.out.cell 0
      have x1 := HX3.out.cell 1
      have x2 := HX3.out.cell 2
      have x3 := HX3.out.cell 3
      simp at x0 x1 x2 x3
      have hpl : out.size + rem.length = vs.length := by
        have := HSS.out.pm.length_eq
        simpa using this
      have hrl : 1 ≤ rem.length := by rw [HREM.out, List.length_append, List.length_cons]; omega
      have hgr : wr.grownBy w3 (some w.heap.size) := HG1.out.andThen (below_grown HB3.out none) (by simp)
      have hrow4 := (HSS.out.row.kept hgr (Or.inr (fun e => row_ne_low HSS.out.row (Nat.lt_succ_self _) e.symm))).alloc (.cells #[.string p, .int .i64 sz, .int .i64 tm, .slice (some ⟨g2, 0, none⟩) 2 c2] 40)
      have HGR := Lib.hid hgr
      have HS3 := Lib.hid hgr.size
      clear hgr
      go_wp2_with (first
        | (at_builtin; refine wpList_append_own_at _ rfl _ _ 22 rfl (w.heap.size + 1) 40 i0 (.agg #[.string ⟨#[]⟩, .int .i64 0, .int .i64 0, .slice none 0 0]) 4 56 Tryz.underlying22 hi hz0 hz1 hz2 rfl (by decide) _ _ _ rfl hrow4 ⟨w3.heap.size, 0, none⟩ 1 1 [.string p, .int .i64 sz, .int .i64 tm, .slice (some ⟨g2, 0, none⟩) 2 c2] rfl rfl (four_new w3 _ _ _ _ _) (by simp [Value.oneCell']) (by simp only [maxLen]; omega) (by omega) (by have := HS3.out; have := HSS.out.rg.lt; simp; omega) ?_; intro v' w5 hown5 hgrow hnil hat)
        | go_in)
      have hgr4 : wr.grownBy (w3.alloc (.cells #[.string p, .int .i64 sz, .int .i64 tm, .slice (some ⟨g2, 0, none⟩) 2 c2] 40)) (some w.heap.size) := HGR.out.andThen (World.grownBy_alloc w3 _ none) (by simp)
      have hvl : ∀ k, u3.ownBlock = some k → w.heap.size + 1 ≤ k ∧ k < wr.heap.size := fun k hk => HSS.out.row.lt k hk
      have hB4 := (HB1.out.trans (HB3.out.mono HB1.out.size)).alloc (HB1.out.trans (HB3.out.mono HB1.out.size)).size (.cells #[.string p, .int .i64 sz, .int .i64 tm, .slice (some ⟨g2, 0, none⟩) 2 c2] 40)
      have hB5 := hB4.grown hgrow hB4.size (fun j hj => by have := (hvl j hj).1; omega)
      have hrg4 := (HRG.out.kept (below_grown HB3.out none) (by simp) (by simp)).alloc (.cells #[.string p, .int .i64 sz, .int .i64 tm, .slice (some ⟨g2, 0, none⟩) 2 c2] 40)
      have hrg5 := hrg4.kept hgrow (fun e => by have := (hvl mb e.symm).1; have := HMB.out; omega) (fun e => by have := (hvl _ e.symm).1; omega)
      obtain ⟨xN, hxN⟩ : ∃ xN : EntB, xN = ⟨⟨p, sz, tm, .slice (some ⟨g2, 0, none⟩) 2 c2, l⟩, hpx, rfl⟩ := ⟨_, rfl⟩
      have hse : EntS (w3.alloc (.cells #[.string p, .int .i64 sz, .int .i64 tm, .slice (some ⟨g2, 0, none⟩) 2 c2] 40)) u3 xN.1 := by
        rw [hxN]
        have hlt3 : g2 < w3.heap.size := by
          obtain ⟨a3, c3, hv3, hc3⟩ := HSV3.out
          obtain ⟨z1, z2, hz⟩ : ∃ z1 z2, l = [z1, z2] := by
            match l, H2X.out with
            | [z1, z2], _ => exact ⟨z1, z2, rfl⟩
          obtain ⟨b3, o3, ha3, hb3, _⟩ := hc3 z1 z2 hz
          rw [ha3] at hv3
          simp only [Value.slice.injEq, Option.some.injEq, Addr.mk.injEq] at hv3
          omega
        refine ⟨SumVal.below HSV3.out ((Below.refl _ _).alloc (Nat.le_refl _) _), g2, c2, by show Value.slice (some ⟨g2, 0, none⟩) 2 c2 = Value.slice (some ⟨g2, 0, none⟩) l.length c2; rw [H2X.out], ?_, by simp; omega⟩
        intro e
        have h1 := (hvl g2 e).2
        have h2 := HG1.out.size
        omega
      refine ⟨⟨_, cnt1, out.push xN, r1 ++ r2, ⟨hrg5, HRM.out, ?_, ?_, ?_, ?_, ?_, ?_, hB5⟩⟩, ?_⟩
      · have hp0 := HSS.out.pm
        rw [HREM.out, List.map_append, List.map_cons] at hp0
        have hxe : xN.1.e = Ent.e ⟨p, sz, tm, .slice aa 2 cp, l⟩ := by rw [hxN]; rfl
        rw [Array.toList_push, List.map_append, List.map_append, List.map_cons, List.map_nil, hxe, List.append_assoc]
        refine (List.Perm.append_left _ ?_).trans hp0
        show (Ent.e ⟨p, sz, tm, .slice aa 2 cp, l⟩ :: (r1.map Ent.e ++ r2.map Ent.e)).Perm _
        exact List.perm_middle.symm
      · intro y hy
        refine HSS.out.sub y ?_
        rw [HREM.out]
        rcases List.mem_append.1 hy with h | h
        · simp [h]
        · simp [h]
      · rw [flat_push, Array.size_push, hxN]
        exact hown5
      · intro y hy
        rw [Array.toList_push] at hy
        rcases List.mem_append.1 hy with h | h
        · have h1 := HSS.out.sv y h
          have h2 := HSS.out.lo y h
          refine (h1.keep hgr4 (fun g m c he => ?_)).step hgrow ?_
          · obtain ⟨g', m', c', he', hlo⟩ := h2
            rw [he'] at he
            simp only [Value.slice.injEq, Option.some.injEq, Addr.mk.injEq] at he
            intro e
            have := Option.some.inj e
            omega
          · exact hat
        · obtain rfl : y = xN := by simpa using h
          exact hse.step hgrow hat
      · intro y hy
        rw [Array.toList_push] at hy
        rcases List.mem_append.1 hy with h | h
        · exact HSS.out.lo y h
        · obtain rfl : y = xN := by simpa using h
          rw [hxN]
          exact ⟨g2, 2, c2, rfl, by have := HB1.out.size; omega⟩
      · rw [hnil]
        simp
      · rw [hrg5.left_eq, HSS.out.rg.left_eq]; exact HLT.out
end Go.Proofs.YtfcnmdmbkoekcaaGreatDoor
