/-
  A store in memory whose files all lie in its root: Get; and a whole file.
-/
import Derived.Test.YtpjnjhklkgefcaaGreatDoorZh
set_option linter.unusedVariables false
set_option linter.unusedSimpArgs false
namespace Go.Proofs.YtpjnjhklkgefcaaGreatDoor
open Go.RowKit Go.Proofs.Zl
theorem own_lt {w : World} {base e size n g : Nat} {v : Value} {xs : List Value} (h : w.ownsRow base e size v n xs) (hv : v.ownBlock = some g) : base ≤ g ∧ g < w.heap.size := by
  rcases h.2 with ⟨rfl, _⟩ | ⟨g', cap, cur, rfl, hb, hg, _⟩
  · cases hv
  · obtain rfl : g' = g := Option.some.inj hv
    exact ⟨hb, lt_of_blk hg⟩
theorem own_same {w w' : World} {base e size n : Nat} {v : Value} {xs : List Value} (h : w.ownsRow base e size v n xs) (hb : ∀ g, v.ownBlock = some g → w'.heap[g]? = w.heap[g]?) : w'.ownsRow base e size v n xs := by
  obtain ⟨h1, h2⟩ := h
  refine ⟨h1, ?_⟩
  rcases h2 with h2 | ⟨g, cap, cur, rfl, hb', hg, r⟩
  · exact Or.inl h2
  · exact Or.inr ⟨g, cap, cur, rfl, hb', (hb g rfl).trans hg, r⟩
/-- a builder by itself. -/
def OB (B b : Nat) (l : List UInt8) (w : World) : Prop := Lib.IsBuilder 120 5 B b (Lib.byteCells l) w
theorem OB.lt {B b : Nat} {l : List UInt8} {w : World} (h : OB B b l w) : B ≤ w.heap.size := by
  rcases h with h | h
  · have h1 := h.lt; have h2 := h.1; omega
  · have h1 := h.lt; have h2 := h.1; omega
theorem OB.made (w : World) : OB w.heap.size w.heap.size [] (w.alloc (.cells #[.pointer none, .slice none 0 0] 120)) :=
  Or.inl ⟨Nat.le_refl _, .slice none 0 0, heap_alloc_new _ _, World.ownsRow_nil _ _ _ _, by simp [Value.ownBlock]⟩
theorem OB.below {B b : Nat} {l : List UInt8} {w w' : World} (h : OB B b l w) (k : Below w.heap.size w w') : OB B b l w' := by
  rcases h with h | h
  · have hlt := h.lt
    obtain ⟨h1, v, h2, h3, h4⟩ := h
    exact Or.inl ⟨h1, v, (k.block b hlt).trans h2, own_same h3 (fun g hg => k.block g (own_lt h3 hg).2), h4⟩
  · have hlt := h.lt
    obtain ⟨h1, v, h2, h3, h4⟩ := h
    exact Or.inr ⟨h1, v, (k.block b hlt).trans h2, own_same h3 (fun g hg => k.block g (own_lt h3 hg).2), h4⟩
theorem OB.kp {B b : Nat} {l : List UInt8} {S : List Nat} {w w' : World} (h : OB B b l w) (k : Kp S w w') (hS : ∀ x ∈ S, x < B) : OB B b l w' := by
  have hn : ∀ g, B ≤ g → g ∉ S := fun g hg hx => by have := hS g hx; omega
  rcases h with h | h
  · have hlt := h.lt
    obtain ⟨h1, v, h2, h3, h4⟩ := h
    exact Or.inl ⟨h1, v, (k.block b hlt (hn b h1)).trans h2, own_same h3 (fun g hg => k.block g (own_lt h3 hg).2 (hn g (own_lt h3 hg).1)), h4⟩
  · have hlt := h.lt
    obtain ⟨h1, v, h2, h3, h4⟩ := h
    exact Or.inr ⟨h1, v, (k.block b hlt (hn b h1)).trans h2, own_same h3 (fun g hg => k.block g (own_lt h3 hg).2 (hn g (own_lt h3 hg).1)), h4⟩
theorem OB.write {B b : Nat} {l : List UInt8} {w0 w : World} (h : OB B b l w) (hB : Below B w0 w) (t : ByteArray) (hlen : l.length + t.size ≤ 140737488355328) :
    Calls Tryz.prog 47 #[pt b, .string t] w fun e w' => e = .returned (.tuple #[.int .i64 t.size, .nilIface]) ∧ OB B b (l ++ t.data.toList) w' ∧ Below B w0 w' := by
  have hl : (Lib.byteCells l).length = l.length := by simp [Lib.byteCells]
  refine (Any.Builder_WriteString { Tryz.lays156 with } Tryz.Builder_Extra_156 B b (Lib.byteCells l) t w h (by rw [hl]; exact hlen) h.lt).mono ?_
  rintro e w' ⟨rfl, h1, h2⟩
  refine ⟨rfl, Or.inr ?_, hB.trans h2⟩
  have e : Lib.byteCells (l ++ t.data.toList) = Lib.byteCells l ++ Lib.strCells t := by simp [Lib.byteCells, Lib.strCells]
  rw [e]
  exact h1
theorem OB.text {B b : Nat} {l : List UInt8} {w0 w : World} (h : OB B b l w) (hB : Below B w0 w) : Calls Tryz.prog 48 #[pt b] w fun e w' => e = .returned (.string ⟨l.toArray⟩) ∧ Below B w0 w' := by
  refine (Tryz.Builder_String_any B b l w h h.lt).mono ?_
  rintro e w' ⟨rfl, h1⟩
  exact ⟨rfl, hB.trans h1⟩
theorem Kp.of_belowN {N : Nat} {a b : World} (h : Below N a b) : Kp (List.range' N (a.heap.size - N)) a b :=
  ⟨h.os, h.tape, h.output, h.size, fun k hk hn => h.block k (by
    rcases Nat.lt_or_ge k N with h1 | h1
    · exact h1
    · exact absurd (List.mem_range'_1.2 ⟨h1, by omega⟩) hn)⟩
theorem MemC.belowN {B : Nat} {f : Ft} {clk : Int} {q : Mm} {L : List Fl} {made N : Nat} {w w' : World} (h : MemC B f clk q L made w) (k : Below N w w') (hf : ∀ b ∈ foot q L, b < N) (hc : q.c < N) : MemC B f clk q L made w' :=
  h.kp (Kp.of_belowN k) (fun b hb hx => by have := hf b hb; have := (List.mem_range'_1.1 hx).1; omega) (fun hx => by have := (List.mem_range'_1.1 hx).1; omega)
theorem Kp.belowN {S : List Nat} {a b c : World} (h : Kp S a b) (k : Below a.heap.size b c) : Kp S a c :=
  ⟨k.os.trans h.os, k.tape.trans h.tape, k.output.trans h.output, Nat.le_trans h.size k.size, fun i hi hn => (k.block i hi).trans (h.block i hi hn)⟩
set_option maxRecDepth 100000 in
set_option maxHeartbeats 1000000 in
theorem begin_x {B : Nat} {f : Ft} {clk : Int} {q : Mm} {L : List Fl} (k : Nat) (hk : k < 14) (w : World) (hq : MemX B f clk q L w) : Calls Tryz.prog 61 #[pt q.m, .int .i64 k] w fun e w' => e = .returned (.int .i64 0) ∧ MemX B f clk q L w' ∧ Kp [q.ca, q.si] w w' := by
  have HC := Lib.hid (call_x k hk w hq)
  clear hq
  go_enter Tryz.func61, Tryz.ntmps61
  go_wp2_with fail
  refine HC.out.mono ?_
  rintro e w1 ⟨rfl, h1, h2⟩
  go_wp2_with fail
  go_ret
  exact ⟨rfl, h1, h2⟩
set_option maxRecDepth 100000 in
set_option maxHeartbeats 1000000 in
theorem file_x {B : Nat} {f : Ft} {clk : Int} {q : Mm} {L : List Fl} (x : Fl) (hx : x ∈ L) (w : World) (g : Gl w) (h : Nm x.name) (hki : KeyIs f.has x.name) (hq : MemX B f clk q L w) : Calls Tryz.prog 219 #[pt q.m, .string x.name] w fun e w' => e = .returned (.tuple #[pt x.blk, .int .i64 0]) ∧ Below w.heap.size w w' := by
  have HF := Lib.hid (find_x x.name (pt x.blk) w g h hki (Or.inl ⟨x, hx, rfl, rfl⟩) hq)
  have HN := Lib.hid (fun (w1 : World) (hb : Below w.heap.size w w1) => (hq.below hb).hn x hx)
  clear g h hki hq hx
  go_enter Tryz.func219, Tryz.ntmps219
  go_wp2_with fail
  refine HF.out.mono ?_
  rintro e w1 ⟨rfl, hb1⟩
  have n1 := (HN.out w1 hb1).cell 1
  simp at n1
  go_wp2_with fail
  go_ret2
  exact ⟨rfl, hb1⟩
set_option maxRecDepth 100000 in
set_option maxHeartbeats 1000000 in
theorem file_none {B : Nat} {f : Ft} {clk : Int} {q : Mm} {L : List Fl} (s : ByteArray) (hx : ∀ x ∈ L, x.name ≠ s) (w : World) (g : Gl w) (h : Nm s) (hki : KeyIs f.has s) (hq : MemX B f clk q L w) : Calls Tryz.prog 219 #[pt q.m, .string s] w fun e w' => e = .returned (.tuple #[.pointer none, .int .i64 3]) ∧ Below w.heap.size w w' := by
  have HF := Lib.hid (find_x s (.pointer none) w g h hki (Or.inr ⟨hx, rfl⟩) hq)
  clear g h hki hq hx
  go_enter Tryz.func219, Tryz.ntmps219
  go_wp2_with fail
  refine HF.out.mono ?_
  rintro e w1 ⟨rfl, hb1⟩
  go_wp2_with fail
  go_ret2
  exact ⟨rfl, hb1⟩
set_option maxRecDepth 100000 in
set_option maxHeartbeats 4000000 in
theorem Get_x {B : Nat} {f : Ft} {clk : Int} {q : Mm} {L : List Fl} (x : Fl) (hx : x ∈ L) (w : World) (g : Gl w) (h : Nm x.name) (hki : KeyIs f.has x.name) (hd : x.data.size ≤ 60000) (hq : MemX B f clk q L w) : Calls Tryz.prog 217 #[pt q.m, .string x.name, .int .i64 0, .int .i64 65536] w fun e w' => e = .returned (.tuple #[.string x.data, .int .i64 0]) ∧ MemX B f clk q L w' ∧ Kp [q.ca, q.si] w w' := by
  have HB0 := Lib.hid (begin_x 2 (by omega) w hq)
  have HC := Lib.hid (show ∀ b ∈ [q.ca, q.si], b ∈ foot q L from by simp [foot])
  have HGK := Lib.hid (fun (w1 : World) (k : Kp [q.ca, q.si] w w1) => hq.gl g (k.mono HC.out))
  have HI := Lib.hid (fun (w1 : World) (g1 : Gl w1) => isFile_ok x.name w1 g1 h)
  have HFL := Lib.hid (fun (w1 : World) (g1 : Gl w1) (hq1 : MemX B f clk q L w1) => file_x x hx w1 g1 h hki hq1)
  have HX := Lib.hid hx
  obtain ⟨n, hn⟩ : ∃ n : Nat, x.data.size = n := ⟨_, rfl⟩
  have HN := Lib.hid hn
  rw [hn] at hd
  clear hx g h hki hq hn
  go_enter Tryz.func217, Tryz.ntmps217
  go_wp2_with fail
  refine HB0.out.mono ?_
  rintro e w1 ⟨rfl, hq1, hk1⟩
  have g1 := HGK.out w1 hk1
  have HQ1 := Lib.hid (fun (wx : World) (hb : Below w1.heap.size w1 wx) => MemC.below hq1 hb)
  have HG1 := Lib.hid (fun (wx : World) (hb : Below w1.heap.size w1 wx) => g1.below hb)
  have HK1 := Lib.hid hk1
  clear hq1 hk1 g1 HB0 HGK
  go_wp2_with fail
  refine (HI.out w1 (HG1.out _ (Below.refl _ _))).mono ?_
  rintro e w2 ⟨rfl, hb2⟩
  go_wp2_with fail
  refine (HFL.out w2 (HG1.out _ hb2) (HQ1.out _ hb2)).mono ?_
  rintro e w3 ⟨rfl, hb3⟩
  have hb := hb2.trans (hb3.mono hb2.size)
  have n4 := ((HQ1.out _ hb).hn x HX.out).cell 4
  simp at n4
  have HB := Lib.hid hb
  clear hb hb2 hb3
  have e1 : min (0 : Int) (n : Int) = 0 := by omega
  have e2 : ¬ (n : Int) < 0 := by omega
  have e3 : ¬ (n : Int) < 65536 ∨ (n : Int) < 65536 := by omega
  have e4 : (n : Int) < 65536 := by omega
  have e5 : min (65536 : Int) (n : Int) = (n : Int) := by omega
  have hsz : x.data.size = n := HN.out
  have hex : x.data.extract 0 n = x.data := by rw [← HN.out]; exact ByteArray.extract_zero_size
  go_wp2_with fail
  go_quiet (fail)
  go_wp2_with fail
  go_ret2
  have HB2 := HB.out.trans (⟨rfl, rfl, rfl, Nat.le_refl _, fun _ _ => rfl⟩ : Below w1.heap.size w3 (w3.drewN nq))
  exact ⟨rfl, HQ1.out _ HB2, HK1.out.trans (Kp.of_below HB2)⟩
set_option maxRecDepth 100000 in
set_option maxHeartbeats 4000000 in
theorem Get_none {B : Nat} {f : Ft} {clk : Int} {q : Mm} {L : List Fl} (s : ByteArray) (hx : ∀ x ∈ L, x.name ≠ s) (w : World) (g : Gl w) (h : Nm s) (hki : KeyIs f.has s) (hq : MemX B f clk q L w) : Calls Tryz.prog 217 #[pt q.m, .string s, .int .i64 0, .int .i64 65536] w fun e w' => e = .returned (.tuple #[.string ⟨#[]⟩, .int .i64 3]) ∧ MemX B f clk q L w' ∧ Kp [q.ca, q.si] w w' := by
  have HB0 := Lib.hid (begin_x 2 (by omega) w hq)
  have HC := Lib.hid (show ∀ b ∈ [q.ca, q.si], b ∈ foot q L from by simp [foot])
  have HGK := Lib.hid (fun (w1 : World) (k : Kp [q.ca, q.si] w w1) => hq.gl g (k.mono HC.out))
  have HI := Lib.hid (fun (w1 : World) (g1 : Gl w1) => isFile_ok s w1 g1 h)
  have HFL := Lib.hid (fun (w1 : World) (g1 : Gl w1) (hq1 : MemX B f clk q L w1) => file_none s hx w1 g1 h hki hq1)
  clear hx g h hki hq
  go_enter Tryz.func217, Tryz.ntmps217
  go_wp2_with fail
  refine HB0.out.mono ?_
  rintro e w1 ⟨rfl, hq1, hk1⟩
  have g1 := HGK.out w1 hk1
  have HQ1 := Lib.hid (fun (wx : World) (hb : Below w1.heap.size w1 wx) => MemC.below hq1 hb)
  have HG1 := Lib.hid (fun (wx : World) (hb : Below w1.heap.size w1 wx) => g1.below hb)
  have HK1 := Lib.hid hk1
  clear hq1 hk1 g1 HB0 HGK
  go_wp2_with fail
  refine (HI.out w1 (HG1.out _ (Below.refl _ _))).mono ?_
  rintro e w2 ⟨rfl, hb2⟩
  go_wp2_with fail
  refine (HFL.out w2 (HG1.out _ hb2) (HQ1.out _ hb2)).mono ?_
  rintro e w3 ⟨rfl, hb3⟩
  have HB := Lib.hid (hb2.trans (hb3.mono hb2.size))
  clear hb2 hb3
  go_wp2_with fail
  go_ret2
  exact ⟨rfl, HQ1.out _ HB.out, HK1.out.trans (Kp.of_below HB.out)⟩
end Go.Proofs.YtpjnjhklkgefcaaGreatDoor

set_option linter.unusedVariables false
set_option linter.unusedSimpArgs false
namespace Go.Proofs.YtpjnjhklkgefcaaGreatDoor
open Go.RowKit Go.Proofs.Zl
set_option maxRecDepth 100000 in
set_option maxHeartbeats 4000000 in
theorem Len_new (b : Nat) (w : World) (h : Blk w b 120 #[.pointer none, .slice none 0 0]) : Calls Tryz.prog 46 #[pt b] w fun e w' => e = .returned (.int .i64 0) ∧ w' = w := by
  have c1 := h.cell 1
  simp at c1
  clear h
  go_enter Tryz.func46, Tryz.ntmps46
  go_wp2_with fail
  go_ret
  exact ⟨rfl, rfl⟩
theorem nil_Get (m : Nat) (w : World) : (nilAhead 513 29 (pt m) "Get").run Tryz.prog w = .ok (some false) w := by kernel_rfl
/-- a store's value. -/
abbrev stV (m : Nat) : Value := .iface 29 (pt m)
set_option maxRecDepth 100000 in
set_option maxHeartbeats 4000000 in
theorem Whole_x {B : Nat} {f : Ft} {clk : Int} {q : Mm} {L : List Fl} (x : Fl) (hx : x ∈ L) (w : World) (g : Gl w) (h : Nm x.name) (hki : KeyIs f.has x.name) (hd : x.data.size ≤ 60000) (hq : MemX B f clk q L w) : Calls Tryz.prog 17 #[stV q.m, .string x.name] w fun e w' => e = .returned (.tuple #[.string x.data, .int .i64 0]) ∧ MemX B f clk q L w' ∧ Kp [q.ca, q.si] w w' := by
  have HCF := Lib.hid (show ∀ b ∈ [q.ca, q.si], b ∈ foot q L from by simp [foot])
  have HGG := Lib.hid (fun (w1 : World) (k : Kp [q.ca, q.si] w w1) => hq.gl g (k.mono HCF.out))
  have HMF := Lib.hid hq.mLt
  have HCL := Lib.hid hq.hcl.lt
  obtain ⟨n, hn⟩ : ∃ n : Nat, x.data.size = n := ⟨_, rfl⟩
  have HN := Lib.hid hn
  rw [hn] at hd
  clear g hn
  go_enter Tryz.func17, Tryz.ntmps17
  go_wp2_with fail
  have HR := Lib.hid (Blk.new w 120 #[.pointer none, .slice none 0 0])
  have HO := Lib.hid (OB.made w)
  have HB := Lib.hid ((Below.refl w.heap.size w).alloc (Nat.le_refl _) (.cells #[.pointer none, .slice none 0 0] 120))
  generalize (w.alloc (.cells #[.pointer none, .slice none 0 0] 120)) = w1 at *
  have HGT := Lib.hid (fun (wx : World) (k : Kp [q.ca, q.si] w1 wx) (hq1 : MemX B f clk q L wx) => Get_x x hx wx (HGG.out _ ((Kp.of_below HB.out).trans k)) h hki (by rw [HN.out]; exact hd) hq1)
  refine wp_loop_rounds 1 ?_
  rw [rounds_succ]
  go_upto_region 2 with (fail)
  have hnil := fun (wx : World) => nil_Get q.m wx
  have HLN := Lib.hid (fun (wx : World) (k : Kp [q.ca, q.si] w1 wx) => Len_new w.heap.size wx (k.blk HR.out (fun hb => by have := HMF.out _ (HCF.out _ hb); omega)))
  have hk1 : Kp [q.ca, q.si] w1 w1 := Kp.refl _ _
  have hm1 : MemX B f clk q L w1 := hq.below HB.out
  clear hq
  go_cut [7, 8] from 10 to 18 (fun u v wx => u = .string x.data ∧ v = .int .i64 0 ∧ Kp [q.ca, q.si] w1 wx ∧ MemX B f clk q L wx)
  case first =>
    go_region_held3 (fun wx => Kp [q.ca, q.si] w1 wx ∧ MemX B f clk q L wx)
      (first | assumption | (exact ⟨Kp.drew (by assumption), MemC.below (by assumption) (Below.drew (Below.refl _ _))⟩) | (exact ⟨Kp.trans (And.left (by assumption)) hk3, hq3⟩))
      (first
        | (go_at_call 46; refine (HLN.out _ (And.left (by assumption))).mono ?_; rintro e w3 ⟨rfl, rfl⟩)
        | (go_at_call 217; refine (HGT.out _ (And.left (by assumption)) (And.right (by assumption))).mono ?_; rintro e w3 ⟨rfl, hq3, hk3⟩))
    all_goals
      have hS := Lib.hid (show Kp [q.ca, q.si] w1 w3 ∧ MemX B f clk q L w3 by assumption)
      go_wp2_with fail
      go_meet
      exact ⟨rfl, rfl, hS.out.1, hS.out.2⟩
  case rest =>
    obtain ⟨rfl, rfl, hk, hm⟩ := hcut
    have HO2 := Lib.hid (HO.out.kp hk (fun b hb => HMF.out _ (HCF.out _ hb)))
    have HK2 := Lib.hid hk
    have HM2 := Lib.hid hm
    have hsz : x.data.size = n := HN.out
    have e4 : (n : Int) < 65536 := by omega
    have HBS := Lib.hid (show w.heap.size ≤ wc.heap.size from Nat.le_trans HB.out.size hk.size)
    clear hk hm hk1 hm1 HLN HGT hnil HO HR
    go_wp2_with fail
    refine (HO2.out.write (Below.refl _ _) x.data (by simp; omega)).mono ?_
    rintro e w4 ⟨rfl, hO4, hb4⟩
    have HO4 := Lib.hid hO4
    clear hO4 HO2
    go_wp2_with fail
    refine (HO4.out.text hb4).mono ?_
    rintro e w5 ⟨rfl, hb5⟩
    have e6 : (⟨([] ++ x.data.data.toList).toArray⟩ : ByteArray) = x.data := by simp
    rw [e6]
    go_wp2_with fail
    go_ret2
    exact ⟨rfl, HM2.out.belowN hb5 HMF.out HCL.out, (((Kp.of_below HB.out).trans HK2.out : Kp [q.ca, q.si] w wc)).belowN hb5⟩
set_option maxRecDepth 100000 in
set_option maxHeartbeats 4000000 in
theorem Whole_none {B : Nat} {f : Ft} {clk : Int} {q : Mm} {L : List Fl} (s : ByteArray) (hx : ∀ x ∈ L, x.name ≠ s) (w : World) (g : Gl w) (h : Nm s) (hki : KeyIs f.has s) (hq : MemX B f clk q L w) : Calls Tryz.prog 17 #[stV q.m, .string s] w fun e w' => e = .returned (.tuple #[.string ⟨#[]⟩, .int .i64 3]) ∧ MemX B f clk q L w' ∧ Kp [q.ca, q.si] w w' := by
  have HCF := Lib.hid (show ∀ b ∈ [q.ca, q.si], b ∈ foot q L from by simp [foot])
  have HGG := Lib.hid (fun (w1 : World) (k : Kp [q.ca, q.si] w w1) => hq.gl g (k.mono HCF.out))
  have HMF := Lib.hid hq.mLt
  have HCL := Lib.hid hq.hcl.lt
  clear g
  go_enter Tryz.func17, Tryz.ntmps17
  go_wp2_with fail
  have HR := Lib.hid (Blk.new w 120 #[.pointer none, .slice none 0 0])
  have HO := Lib.hid (OB.made w)
  have HB := Lib.hid ((Below.refl w.heap.size w).alloc (Nat.le_refl _) (.cells #[.pointer none, .slice none 0 0] 120))
  generalize (w.alloc (.cells #[.pointer none, .slice none 0 0] 120)) = w1 at *
  have HGT := Lib.hid (fun (wx : World) (k : Kp [q.ca, q.si] w1 wx) (hq1 : MemX B f clk q L wx) => Get_none s hx wx (HGG.out _ ((Kp.of_below HB.out).trans k)) h hki hq1)
  refine wp_loop_rounds 1 ?_
  rw [rounds_succ]
  go_upto_region 2 with (fail)
  have hnil := fun (wx : World) => nil_Get q.m wx
  have HLN := Lib.hid (fun (wx : World) (k : Kp [q.ca, q.si] w1 wx) => Len_new w.heap.size wx (k.blk HR.out (fun hb => by have := HMF.out _ (HCF.out _ hb); omega)))
  have hk1 : Kp [q.ca, q.si] w1 w1 := Kp.refl _ _
  have hm1 : MemX B f clk q L w1 := hq.below HB.out
  clear hq
  go_cut [7, 8] from 10 to 18 (fun u v wx => u = .string ⟨#[]⟩ ∧ v = .int .i64 3 ∧ Kp [q.ca, q.si] w1 wx ∧ MemX B f clk q L wx)
  case first =>
    go_region_held3 (fun wx => Kp [q.ca, q.si] w1 wx ∧ MemX B f clk q L wx)
      (first | assumption | (exact ⟨Kp.drew (by assumption), MemC.below (by assumption) (Below.drew (Below.refl _ _))⟩) | (exact ⟨Kp.trans (And.left (by assumption)) hk3, hq3⟩))
      (first
        | (go_at_call 46; refine (HLN.out _ (And.left (by assumption))).mono ?_; rintro e w3 ⟨rfl, rfl⟩)
        | (go_at_call 217; refine (HGT.out _ (And.left (by assumption)) (And.right (by assumption))).mono ?_; rintro e w3 ⟨rfl, hq3, hk3⟩))
    all_goals
      have hS := Lib.hid (show Kp [q.ca, q.si] w1 w3 ∧ MemX B f clk q L w3 by assumption)
      go_wp2_with fail
      go_meet
      exact ⟨rfl, rfl, hS.out.1, hS.out.2⟩
  case rest =>
    obtain ⟨rfl, rfl, hk, hm⟩ := hcut
    go_wp2_with fail
    go_ret2
    exact ⟨rfl, hm, (Kp.of_below HB.out).trans hk⟩
end Go.Proofs.YtpjnjhklkgefcaaGreatDoor
