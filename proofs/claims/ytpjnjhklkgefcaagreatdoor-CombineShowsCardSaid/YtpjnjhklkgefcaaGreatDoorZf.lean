/-
  A store in memory whose files all lie in its root: a file is made, or gets new contents.
-/
import Derived.Test.YtpjnjhklkgefcaaGreatDoorZe
set_option linter.unusedVariables false
set_option linter.unusedSimpArgs false
namespace Go.Proofs.YtpjnjhklkgefcaaGreatDoor
open Go.RowKit Go.Maps Go.Proofs.Zl
/-- the files behind a Put of x. -/
def putL (L : List Fl) (x : Fl) : List Fl := L.map fun z => if z.name = x.name then x else z
/-- L' are the files behind a Put of x: x was there in its block, or is new, in a block from N on. -/
def PutAs (N : Nat) (L L' : List Fl) (x : Fl) : Prop :=
  ((∃ y ∈ L, y.name = x.name ∧ y.blk = x.blk ∧ y.id = x.id) ∧ L' = putL L x) ∨ ((∀ y ∈ L, y.name ≠ x.name) ∧ N ≤ x.blk ∧ L' = L ++ [x])
theorem apart_ne : ∀ {L : List Fl}, L.Pairwise (fun x y => x.blk ≠ y.blk ∧ x.name ≠ y.name) → ∀ {z y : Fl}, z ∈ L → y ∈ L → z ≠ y → z.blk ≠ y.blk ∧ z.name ≠ y.name
  | [], _, _, _, hz, _, _ => by cases hz
  | a :: l, h, z, y, hz, hy, hne => by
    obtain ⟨h1, h2⟩ := List.pairwise_cons.1 h
    rcases List.mem_cons.1 hz with rfl | hz'
    · rcases List.mem_cons.1 hy with rfl | hy'
      · exact absurd rfl hne
      · exact h1 y hy'
    · rcases List.mem_cons.1 hy with rfl | hy'
      · have := h1 z hz'
        exact ⟨this.1.symm, this.2.symm⟩
      · exact apart_ne h2 hz' hy' hne
/-- a file's block gets new contents. -/
theorem MemC.setNode {B : Nat} {f : Ft} {clk : Int} {q : Mm} {L : List Fl} {made : Nat} {w w' : World} {x y : Fl} (h : MemC B f clk q L made w) (hy : y ∈ L) (h1 : y.name = x.name) (h2 : y.blk = x.blk) (k : Kp [x.blk] w w') (hs : x.data.size ≤ 100000)
    (hx : Blk w' x.blk 90 (nodeC x.name false (pt q.r) (.map none) x.data x.time (.slice none 0 0) x.id)) : MemC B f clk q (putL L x) made w' := by
  obtain ⟨X, hX, iX⟩ := h.hca
  obtain ⟨Y, hY, iY⟩ := h.hsi
  obtain ⟨D, hD, hp⟩ := h.hk
  have hyb := h.hn y hy
  rw [h2] at hyb
  have key : ∀ {g : Nat} {t : TypeId} {cs : Array Value}, Blk w g t cs → t ≠ 90 → Blk w' g t cs := fun hg ht => k.blk hg (by
    simp only [List.mem_cons, List.not_mem_nil, or_false]
    exact hg.ne hyb ht)
  have hz : ∀ z ∈ L, z.name ≠ x.name → z.blk ≠ x.blk := fun z hz hne => by
    have hzy : z ≠ y := fun e => hne (by rw [e, h1])
    have := apart_ne h.apart hz hy hzy
    rw [← h2]
    exact this.1
  have hlen : (putL L x).length = L.length := by simp [putL]
  have hnb : ∀ z ∈ L, (if z.name = x.name then x else z).blk = z.blk ∧ (if z.name = x.name then x else z).name = z.name := by
    intro z hz'
    by_cases e : z.name = x.name
    · rw [if_pos e]
      have hzy : z = y := by
        by_cases e2 : z = y
        · exact e2
        · have := apart_ne h.apart hz' hy e2
          exact absurd (e.trans h1.symm) this.2
      exact ⟨by rw [hzy, h2], e.symm⟩
    · rw [if_neg e]
      exact ⟨rfl, rfl⟩
  refine ⟨?_, k.blk h.hr (by simp only [List.mem_cons, List.not_mem_nil, or_false]; rw [← h2]; exact (h.root y hy).symm), ⟨D, ?_, ?_⟩, ?_, key h.hcl (by decide), ⟨X, key hX (by decide), iX⟩, ⟨Y, key hY (by decide), iY⟩, h.ne, ?_, ?_, ?_, ?_, h.clo, h.gl1, h.gl2⟩
  · rw [hlen]
    exact key h.hm (by decide)
  · rw [hlen]
    exact ownsMap_kp hD k (by simp only [List.mem_cons, List.not_mem_nil, or_false]; exact (ownsMap_ne hyb hD).symm)
  · refine ⟨fun z hz' zd => ?_, fun kl hk => ?_, hp.isMap⟩
    · obtain ⟨z0, hz0, rfl⟩ := List.mem_map.1 hz'
      rw [(hnb z0 hz0).1, (hnb z0 hz0).2]
      exact hp.at_ z0 hz0 zd
    · obtain ⟨z0, hz0, he⟩ := hp.has_ kl hk
      exact ⟨_, List.mem_map.2 ⟨z0, hz0, rfl⟩, by rw [(hnb z0 hz0).2]; exact he⟩
  · intro z hz'
    obtain ⟨z0, hz0, rfl⟩ := List.mem_map.1 hz'
    by_cases e : z0.name = x.name
    · rw [if_pos e]; exact hx
    · rw [if_neg e]
      exact k.blk (h.hn z0 hz0) (by simp only [List.mem_cons, List.not_mem_nil, or_false]; exact hz z0 hz0 e)
  · intro z hz'
    obtain ⟨z0, hz0, rfl⟩ := List.mem_map.1 hz'
    rw [(hnb z0 hz0).1]
    exact h.root z0 hz0
  · refine List.pairwise_map.2 (List.Pairwise.imp_of_mem (fun {a b} ha hb hab => ?_) h.apart)
    rw [(hnb a ha).1, (hnb a ha).2, (hnb b hb).1, (hnb b hb).2]
    exact hab
  · intro z hz'
    obtain ⟨z0, hz0, rfl⟩ := List.mem_map.1 hz'
    by_cases e : z0.name = x.name
    · rw [if_pos e]; exact hs
    · rw [if_neg e]; exact h.sized z0 hz0
  · intro b hb
    have : foot q (putL L x) = foot q L := by
      unfold foot putL
      rw [List.map_map]
      congr 5
      refine List.map_congr_left (fun z hz' => ?_)
      exact (hnb z hz').1
    rw [this] at hb
    exact h.lo b hb
end Go.Proofs.YtpjnjhklkgefcaaGreatDoor

set_option linter.unusedVariables false
set_option linter.unusedSimpArgs false
namespace Go.Proofs.YtpjnjhklkgefcaaGreatDoor
open Go.RowKit Go.Maps Go.Proofs.Zl
theorem MemC.setMade {B : Nat} {f : Ft} {clk : Int} {q : Mm} {L : List Fl} {made : Nat} {w : World} (h : MemC B f clk q L made w) (d : Nat) : MemC B f clk q L d (w.setCell ⟨q.m, 12, none⟩ (.int .i64 (d : Int))) := by
  obtain ⟨X, hX, iX⟩ := h.hca
  obtain ⟨Y, hY, iY⟩ := h.hsi
  obtain ⟨D, hD, hp⟩ := h.hk
  have k : Kp [q.m] w (w.setCell ⟨q.m, 12, none⟩ (.int .i64 (d : Int))) := (Kp.refl _ w).setCell _ _ (Or.inl (by simp))
  have key : ∀ {g : Nat} {t : TypeId} {cs : Array Value}, Blk w g t cs → t ≠ 95 → Blk (w.setCell ⟨q.m, 12, none⟩ (.int .i64 (d : Int))) g t cs := fun hg ht => k.blk hg (by
    simp only [List.mem_cons, List.not_mem_nil, or_false]
    exact hg.ne h.hm ht)
  exact ⟨h.hm.set 12 (.int .i64 (d : Int)), key h.hr (by decide), ⟨D, ownsMap_kp hD k (by simp only [List.mem_cons, List.not_mem_nil, or_false]; exact (ownsMap_ne h.hm hD).symm), hp⟩, fun x hx => key (h.hn x hx) (by decide), key h.hcl (by decide), ⟨X, key hX (by decide), iX⟩, ⟨Y, key hY (by decide), iY⟩, h.ne, h.root, h.apart, h.sized, h.lo, h.clo, h.gl1, h.gl2⟩
/-- the store ahead of a file's new contents. -/
structure MidF (B : Nat) (f : Ft) (clk : Int) (q : Mm) (L : List Fl) (s : ByteArray) (n : Nat) (id : ByteArray) (w w' : World) : Prop where
  mid : ∃ L1 d0 t0, MemX B f clk q L1 w' ∧ (⟨s, n, d0, t0, id⟩ : Fl) ∈ L1 ∧ (L1 = L ∨ ((∀ y ∈ L, y.name ≠ s) ∧ w.heap.size ≤ n ∧ L1 = L ++ [⟨s, n, d0, t0, id⟩]))
  kp : ∀ w'' : World, Kp [n] w' w'' → Kp (foot q L) w w''
theorem MidF.node {B : Nat} {f : Ft} {clk : Int} {q : Mm} {L : List Fl} {s : ByteArray} {n : Nat} {id : ByteArray} {w w' : World} (h : MidF B f clk q L s n id w w') : ∃ d0 t0, Blk w' n 90 (nodeC s false (pt q.r) (.map none) d0 t0 (.slice none 0 0) id) := by
  obtain ⟨L1, d0, t0, h1, h2, _⟩ := h.mid
  exact ⟨d0, t0, h1.hn _ h2⟩
theorem MidF.has {B : Nat} {f : Ft} {clk : Int} {q : Mm} {L : List Fl} {s : ByteArray} {n : Nat} {id : ByteArray} {w w' w'' : World} (h : MidF B f clk q L s n id w w') (k : Kp [n] w' w'') : Calls Tryz.prog 55 #[pt q.m, .int .i64 256] w'' fun e w3 => e = .returned (.bool (bits .and .i64 f.has 256 != 0)) ∧ w3 = w'' := by
  obtain ⟨L1, d0, t0, h1, h2, _⟩ := h.mid
  exact has_x q.m 256 f.has _ w'' (k.blk h1.hm (by simp only [List.mem_cons, List.not_mem_nil, or_false]; exact h1.hm.ne (h1.hn _ h2) (by decide))) rfl
theorem MidF.done {B : Nat} {f : Ft} {clk : Int} {q : Mm} {L : List Fl} {s : ByteArray} {n : Nat} {id : ByteArray} {w w' w'' : World} {data : ByteArray} {t : Int} (h : MidF B f clk q L s n id w w') (k : Kp [n] w' w'') (hN : Blk w'' n 90 (nodeC s false (pt q.r) (.map none) data t (.slice none 0 0) id)) (hd : data.size ≤ 100000) :
    ∃ L', MemX B f clk q L' w'' ∧ Kp (foot q L) w w'' ∧ PutAs w.heap.size L L' ⟨s, n, data, t, id⟩ := by
  obtain ⟨L1, d0, t0, h1, h2, h3⟩ := h.mid
  have hlen : (putL L1 ⟨s, n, data, t, id⟩).length = L1.length := by simp [putL]
  refine ⟨putL L1 ⟨s, n, data, t, id⟩, ?_, h.kp _ k, ?_⟩
  · unfold MemX
    rw [hlen]
    exact MemC.setNode (x := ⟨s, n, data, t, id⟩) h1 h2 rfl rfl k hd hN
  · rcases h3 with rfl | ⟨ha, hn, rfl⟩
    · exact Or.inl ⟨⟨_, h2, rfl, rfl, rfl⟩, rfl⟩
    · refine Or.inr ⟨ha, hn, ?_⟩
      unfold putL
      rw [List.map_append]
      congr 1
      · conv => rhs; rw [← List.map_id L]
        exact List.map_congr_left (fun z hz => if_neg (ha z hz))
      · simp
set_option maxRecDepth 100000 in
set_option maxHeartbeats 4000000 in
theorem setFile_x {B : Nat} {f : Ft} {clk : Int} {q : Mm} {L : List Fl} (s data : ByteArray) (t : Int) (w : World) (g : Gl w) (h : Nm s) (hf : FtOK f) (hki : KeyIs f.has s) (hL : L.length ≤ 90) (hd : data.size ≤ 100000) (hq : MemX B f clk q L w) (hB : B ≤ w.heap.size) :
    Calls Tryz.prog 108 #[pt q.m, .string s, .string data, .int .i64 t, .slice none 0 0] w fun e w' => ∃ n id L', e = .returned (pt n) ∧ MemX B f clk q L' w' ∧ Kp (foot q L) w w' ∧ PutAs w.heap.size L L' ⟨s, n, data, t, id⟩ := by
  obtain ⟨v, hv⟩ : ∃ v, Fnd L s v := by
    by_cases e : ∃ x ∈ L, x.name = s
    · obtain ⟨x, hx, hxs⟩ := e
      exact ⟨_, Or.inl ⟨x, hx, hxs, rfl⟩⟩
    · exact ⟨_, Or.inr ⟨fun x hx hxs => e ⟨x, hx, hxs⟩, rfl⟩⟩
  have HF := Lib.hid (find_x s v w g h hki hv hq)
  have HQ := Lib.hid hq
  have GG := Lib.hid g
  have HS := Lib.hid h
  have HFT := Lib.hid hf
  have HKI := Lib.hid hki
  have HV := Lib.hid hv
  have hv2 := hv.two
  clear hq g h hf hki hv
  go_enter Tryz.func108, Tryz.ntmps108
  go_wp2_with fail
  refine HF.out.mono ?_
  rintro e w0 ⟨rfl, hb0⟩
  have HQ0 := Lib.hid (HQ.out.below hb0)
  have HB0 := Lib.hid hb0
  clear hb0 HF
  rcases HV.out with ⟨x, hx, hxs, rfl⟩ | ⟨hno, rfl⟩
  · have HKP := Lib.hid (keep_x (pt x.blk) w0 HFT.out HQ0.out)
    have hxm : (⟨s, x.blk, x.data, x.time, x.id⟩ : Fl) ∈ L := by rw [← hxs]; exact hx
    have HM := Lib.hid (show MidF B f clk q L s x.blk x.id w w0 from ⟨⟨L, x.data, x.time, HQ0.out, hxm, Or.inl rfl⟩, fun w'' k => (Kp.of_below HB0.out).trans (k.mono (fun b hb => by
      rw [List.mem_singleton] at hb
      subst hb
      simp only [foot, List.mem_cons, List.mem_map]
      exact Or.inr (Or.inr (Or.inr (Or.inr (Or.inr ⟨x, hx, rfl⟩))))))⟩)
    clear hx hv2 hxs hxm
    go_wp2_with fail
    refine HKP.out.mono ?_
    rintro e w1 ⟨rfl, rfl⟩
    clear HKP HV
    generalize x.id = id at *
    generalize x.blk = n at *
    have HM := HM
    generalize w1 = w5 at *
    obtain ⟨d0, t0, hN5⟩ := HM.out.node
    have HN5 := Lib.hid hN5
    have nf4 := hN5.frozen 4
    have nf5 := hN5.frozen 5
    have nf6 := hN5.frozen 6
    have n4 := hN5.cell 4
    have n5 := hN5.cell 5
    have n6 := hN5.cell 6
    simp at n4 n5 n6
    clear hN5
    go_upto_region 7 with (fail)
    have K6 : Kp [n] w5 (((w5.setCell ⟨n, 4, none⟩ (.string data)).setCell ⟨n, 5, none⟩ (.int .i64 t)).setCell ⟨n, 6, none⟩ (.slice none 0 0)) := (((Kp.refl _ w5).setCell _ _ (Or.inl (by simp))).setCell _ _ (Or.inl (by simp))).setCell _ _ (Or.inl (by simp))
    have N6 := Lib.hid (show Blk _ n 90 (nodeC s false (pt q.r) (.map none) data t (.slice none 0 0) id) from ((HN5.out.set 4 (.string data)).set 5 (.int .i64 t)).set 6 (.slice none 0 0))
    have HH := Lib.hid (HM.out.has K6)
    have HK6 := Lib.hid K6
    clear K6 nf4 nf5 nf6 n4 n5 n6 HN5
    generalize (((w5.setCell ⟨n, 4, none⟩ (.string data)).setCell ⟨n, 5, none⟩ (.int .i64 t)).setCell ⟨n, 6, none⟩ (.slice none 0 0)) = w6 at *
    obtain ⟨b6, hb6⟩ : ∃ b, (bits .and .i64 f.has 256 != 0) = b := ⟨_, rfl⟩
    rw [hb6] at HH
    clear hb6
    cases b6
    · go_wp2_with fail
      refine HH.out.mono ?_
      rintro e w7 ⟨rfl, rfl⟩
      go_wp2_with fail
      go_ret
      obtain ⟨L', a1, a2, a3⟩ := HM.out.done HK6.out N6.out hd
      exact ⟨n, id, L', rfl, a1, a2, a3⟩
    · go_wp2_with fail
      refine HH.out.mono ?_
      rintro e w7 ⟨rfl, rfl⟩
      go_wp2_with fail
      refine (cloneMeta_nil _).mono ?_
      rintro e w7 ⟨rfl, rfl⟩
      have n6 : w7.cell? ⟨n, 6, none⟩ = some (.slice none 0 0) := N6.out.cell 6
      have nf6 := N6.out.frozen 6
      go_wp2_with fail
      go_ret
      have K7 : Kp [n] w7 (w7.setCell ⟨n, 6, none⟩ (.slice none 0 0)) := (Kp.refl _ w7).setCell _ _ (Or.inl (by simp))
      have N7 : Blk (w7.setCell ⟨n, 6, none⟩ (.slice none 0 0)) n 90 (nodeC s false (pt q.r) (.map none) data t (.slice none 0 0) id) := N6.out.set 6 (.slice none 0 0)
      obtain ⟨L', a1, a2, a3⟩ := HM.out.done (HK6.out.trans K7) N7 hd
      exact ⟨n, id, L', rfl, a1, a2, a3⟩
  · have HN := Lib.hid hno
    obtain ⟨c, hc⟩ : ∃ c : Nat, L.length = c := ⟨_, rfl⟩
    have HC := Lib.hid hc
    have m12 : w0.cell? ⟨q.m, 12, none⟩ = some (.int .i64 (c : Int)) := by
      have h := HQ0.out.hm.cell 12
      rw [hc] at h
      exact h
    have mf := HQ0.out.hm.frozen 12
    obtain ⟨d, hd'⟩ : ∃ d : Nat, d = c + 1 := ⟨_, rfl⟩
    have hle : IntKind.i64.wrap ((c : Int) + 1) = (d : Int) := by
      rw [hd']
      exact IntWalk.i64_in _ (by omega)
    have HD := Lib.hid hd'
    clear hno hv2 hc hd' HV
    go_upto_region 4 with (fail)
    have K1 : Kp [q.m] w0 (w0.setCell ⟨q.m, 12, none⟩ (.int .i64 (d : Int))) := (Kp.refl _ w0).setCell _ _ (Or.inl (by simp))
    have hq1 := HQ0.out.setMade d
    have hmlo : B ≤ q.m := HQ0.out.lo _ (by simp [foot])
    have g1 : Gl (w0.setCell ⟨q.m, 12, none⟩ (.int .i64 (d : Int))) := (GG.out.below HB0.out).kp K1 (by have := HQ0.out.gl1; simp only [List.mem_singleton]; omega) (by have := HQ0.out.gl2; simp only [List.mem_singleton]; omega)
    have HK1 := Lib.hid K1
    clear K1 m12 mf hle
    generalize w0.setCell ⟨q.m, 12, none⟩ (.int .i64 (d : Int)) = w1 at *
    have HQ1 := Lib.hid (fun wx (hb : Below w1.heap.size w1 wx) => hq1.below hb)
    have HG1 := Lib.hid (fun wx (hb : Below w1.heap.size w1 wx) => grow_x s wx (g1.below hb) HS.out (hq1.below hb))
    have hlt := hq1.hm.lt
    have HI := Lib.hid (fun w => Tryz.strconv_Itoa_small d (by have := HD.out; have := HC.out; omega) w)
    have m12 : w1.cell? ⟨q.m, 12, none⟩ = some (.int .i64 (d : Int)) := hq1.hm.cell 12
    have hs1 : w.heap.size ≤ w1.heap.size := Nat.le_trans HB0.out.size HK1.out.size
    have HMQ := Lib.hid (fun (wx : World) (hb : Below w1.heap.size w1 wx) => show wx.cell? ⟨q.m, 12, none⟩ = some (.int .i64 (d : Int)) from (hq1.below hb).hm.cell 12)
    have HFL := Lib.hid hq1.mLt
    clear g1 hq1
    go_cut [11] from 24 to 37 (fun u wx => ∃ n id, u = pt n ∧ MidF B f clk q L s n id w wx)
    case first =>
      go_region_held3 (fun wx => wx.cell? ⟨q.m, 12, none⟩ = some (.int .i64 (d : Int)))
        (first
          | assumption
          | exact (hb3.cell (p := ⟨q.m, 12, none⟩) (by simpa using hlt)).trans (by assumption)
          | exact hM.hm.cell 12
          | exact (cell_old2 (World.block_lt_of_cell? _ _ (by assumption))).trans (by assumption))
        (first
          | (go_at_call 147; refine (HG1.out _ ((Below.refl _ _).drew)).mono ?_; rintro e w3 ⟨rfl, hb3⟩)
          | (go_at_call 148; refine (last_ok s _ HS.out).mono ?_; rintro e w4 ⟨rfl, rfl⟩)
          | (go_at_call 149; refine (HI.out _).mono ?_; rintro e w4 ⟨rfl, rfl⟩)
          | (go_at_call 146; have hbl := Below.trans (Below.drew (Below.refl w1.heap.size w1)) hb3; refine (add_x _ s _ _ HS.out HKI.out HN.out hL (HQ1.out _ (hbl.alloc hbl.size _)) (Blk.newAt rfl) ?_ ?_).mono ?_; (exact fun hb => by have h1 := HFL.out _ hb; have h2 := hbl.size; omega); (have := hbl.size; omega); rintro e w5 ⟨rfl, hM, hK⟩))
      all_goals
        have hbl := Below.trans (Below.drew (Below.refl w1.heap.size w1)) hb3
        have hs4 : w1.heap.size ≤ w4.heap.size := hbl.size
        have KA : Kp (foot q L) w w4 := ((Kp.of_below HB0.out).trans (HK1.out.mono (by simp [foot]))).trans (Kp.of_below hbl)
        have KB : Kp (foot q L) w w5 := (KA.alloc _).trans_new hK (by omega)
        have hlo : w.heap.size ≤ w4.heap.size := by omega
        go_wp2_with fail
        go_meet
        refine ⟨w4.heap.size, ⟨(Lib.decDigits d).toArray⟩, rfl, ⟨⟨L ++ [⟨s, w4.heap.size, ⟨#[]⟩, 0, ⟨(Lib.decDigits d).toArray⟩⟩], ⟨#[]⟩, 0, ?_, by simp, Or.inr ⟨HN.out, hlo, rfl⟩⟩, fun w'' k => KB.trans_new (k.mono (by simp)) hlo⟩⟩
        have e : (L ++ [(⟨s, w4.heap.size, ⟨#[]⟩, 0, ⟨(Lib.decDigits d).toArray⟩⟩ : Fl)]).length = d := by rw [List.length_append, HC.out, HD.out]; rfl
        unfold MemX
        rw [e]
        exact hM
    case rest =>
      obtain ⟨n, id, rfl, hm⟩ := hcut
      have HM := Lib.hid hm
      clear hm m12 HQ1 HG1 HI HMQ HFL
      generalize wc = w5 at *
      obtain ⟨d0, t0, hN5⟩ := HM.out.node
      have HN5 := Lib.hid hN5
      have nf4 := hN5.frozen 4
      have nf5 := hN5.frozen 5
      have nf6 := hN5.frozen 6
      have n4 := hN5.cell 4
      have n5 := hN5.cell 5
      have n6 := hN5.cell 6
      simp at n4 n5 n6
      clear hN5
      go_upto_region 7 with (fail)
      have K6 : Kp [n] w5 (((w5.setCell ⟨n, 4, none⟩ (.string data)).setCell ⟨n, 5, none⟩ (.int .i64 t)).setCell ⟨n, 6, none⟩ (.slice none 0 0)) := (((Kp.refl _ w5).setCell _ _ (Or.inl (by simp))).setCell _ _ (Or.inl (by simp))).setCell _ _ (Or.inl (by simp))
      have N6 := Lib.hid (show Blk _ n 90 (nodeC s false (pt q.r) (.map none) data t (.slice none 0 0) id) from ((HN5.out.set 4 (.string data)).set 5 (.int .i64 t)).set 6 (.slice none 0 0))
      have HH := Lib.hid (HM.out.has K6)
      have HK6 := Lib.hid K6
      clear K6 nf4 nf5 nf6 n4 n5 n6 HN5
      generalize (((w5.setCell ⟨n, 4, none⟩ (.string data)).setCell ⟨n, 5, none⟩ (.int .i64 t)).setCell ⟨n, 6, none⟩ (.slice none 0 0)) = w6 at *
      obtain ⟨b6, hb6⟩ : ∃ b, (bits .and .i64 f.has 256 != 0) = b := ⟨_, rfl⟩
      rw [hb6] at HH
      clear hb6
      cases b6
      · go_wp2_with fail
        refine HH.out.mono ?_
        rintro e w7 ⟨rfl, rfl⟩
        go_wp2_with fail
        go_ret
        obtain ⟨L', a1, a2, a3⟩ := HM.out.done HK6.out N6.out hd
        exact ⟨n, id, L', rfl, a1, a2, a3⟩
      · go_wp2_with fail
        refine HH.out.mono ?_
        rintro e w7 ⟨rfl, rfl⟩
        go_wp2_with fail
        refine (cloneMeta_nil _).mono ?_
        rintro e w7 ⟨rfl, rfl⟩
        have n6 : w7.cell? ⟨n, 6, none⟩ = some (.slice none 0 0) := N6.out.cell 6
        have nf6 := N6.out.frozen 6
        go_wp2_with fail
        go_ret
        have K7 : Kp [n] w7 (w7.setCell ⟨n, 6, none⟩ (.slice none 0 0)) := (Kp.refl _ w7).setCell _ _ (Or.inl (by simp))
        have N7 : Blk (w7.setCell ⟨n, 6, none⟩ (.slice none 0 0)) n 90 (nodeC s false (pt q.r) (.map none) data t (.slice none 0 0) id) := N6.out.set 6 (.slice none 0 0)
        obtain ⟨L', a1, a2, a3⟩ := HM.out.done (HK6.out.trans K7) N7 hd
        exact ⟨n, id, L', rfl, a1, a2, a3⟩
end Go.Proofs.YtpjnjhklkgefcaaGreatDoor
