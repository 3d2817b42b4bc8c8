import Derived.Test.YtpjnjhklkgefcaaGreatDoorP
import Derived.Test.YtpjnjhklkgefcaaGreatDoorR
set_option linter.unusedVariables false
set_option linter.unusedSimpArgs false
namespace Go.Proofs.YtpjnjhklkgefcaaGreatDoor
open Go.RowKit
theorem info34 : (Tryz.prog.info? 198).map (fun i => (i.zero, i.size, i.bytes)) = some (some (.int .u32 0), 1, 4) := by kernel_rfl
set_option maxRecDepth 100000 in
set_option maxHeartbeats 4000000 in
theorem newEngine_ok (w : World) : Calls Tryz.prog 187 #[.int .i64 4] w fun e w' => e = .returned (.iface 301 (pt w.heap.size)) ∧ (∃ E, Blk w' w.heap.size 304 E ∧ URow 8 E) ∧ Below w.heap.size w w' := by
  go_enter Tryz.func187, Tryz.ntmps187
  go_wp2_with fail
  go_ret
  exact ⟨rfl, ⟨_, Blk.new _ _ _, urow8 _ _ _ _ _ _ _ _⟩, (Below.refl _ _).alloc (Nat.le_refl _) _⟩
set_option maxRecDepth 100000 in
set_option maxHeartbeats 4000000 in
theorem copied_ok (eb : Nat) (E : Array Value) (w : World) (hE : Blk w eb 304 E) (uE : URow 8 E) : Calls Tryz.prog 373 #[pt eb] w fun e w' => e = .returned (.iface 301 (pt w.heap.size)) ∧ (∃ E, Blk w' w.heap.size 304 E ∧ URow 8 E) ∧ Below w.heap.size w w' := by
  have HE := Lib.hid hE
  have UE := Lib.hid uE
  have hlt := hE.lt
  clear hE uE
  have info235 : ∀ F : Array Value, F.size = 8 → (Tryz.prog.info? 304).map (·.size) = some F.size := fun F hF => by rw [hF]; kernel_rfl
  have HZ := Lib.hid (Blk.new w 304 #[.int .u32 0, .int .u32 0, .int .u32 0, .int .u32 0, .int .u32 0, .int .u32 0, .int .u32 0, .int .u32 0])
  go_enter Tryz.func373, Tryz.ntmps373
  go_wp2_with (first | (refine wpList_load_row rfl 304 _ rfl eb rfl _ E (0, 0) _ HE.out Tryz.underlying304 rfl (info235 _ UE.out.1) ?_) | (refine wpList_store_row rfl 304 _ _ rfl w.heap.size E rfl rfl 304 _ HZ.out (info235 _ UE.out.1) (by rw [UE.out.1]; rfl) UE.out.all ?_))
  go_ret
  exact ⟨rfl, ⟨E, setRow_heap _ _ _ _ _ _ HZ.out, UE.out⟩, ((Below.refl _ _).alloc (Nat.le_refl _) _).trans ⟨rfl, rfl, rfl, by simp [World.setRow], fun k hk => setRow_other _ _ _ _ (by omega)⟩⟩
set_option maxRecDepth 100000 in
set_option maxHeartbeats 4000000 in
theorem words_ok (eb : Nat) (E : Array Value) (w : World) (hE : Blk w eb 304 E) (uE : URow 8 E) : Calls Tryz.prog 377 #[pt eb] w fun e w' => ∃ g cap, e = .returned (.slice (some ⟨g, 0, none⟩) 8 cap) ∧ w.heap.size ≤ g ∧ (∀ i, i < 8 → ∃ v : Int, w'.cell? ⟨g, i, none⟩ = some (.int .u32 v)) ∧ Below w.heap.size w w' := by
  obtain ⟨i0, hi0, hi1, hi2, hi3⟩ := info_parts info34
  have HE := Lib.hid hE
  have UE := Lib.hid uE
  have hlt := hE.lt
  have hsz := uE.1
  have HSZ := Lib.hid hsz
  have HA := Lib.hid uE.all
  clear hE uE hsz
  go_enter Tryz.func377, Tryz.ntmps377
  go_wp2_with (at_builtin; refine wpList_append_own _ rfl _ _ 400 rfl w.heap.size 198 i0 (.int .u32 0) 1 4 Tryz.underlying400 hi0 hi1 hi2 hi3 rfl (by decide) _ _ _ rfl (World.ownsRow_nil _ _ _ _) ⟨eb, 0, none⟩ 8 8 E.toList rfl (by simpa using HSZ.out) ?c1 ?c2 ?c3 ?c4 ?c5 ?_)
  case c1 => exact World.news_of_block HE.out
  case c2 =>
    intro u hu
    have := HA.out
    rw [Array.all_eq_true'] at this
    exact this u (by simpa using hu)
  case c3 => unfold maxLen; omega
  case c4 => omega
  case c5 => exact Nat.le_refl _
  intro v' w1 hown hgrow hnil
  obtain ⟨_, h2⟩ := hown
  rcases h2 with ⟨_, h0⟩ | ⟨g, cap, cur, rfl, hbg, hg, hc, _, hcs, ht⟩
  · omega
  · have hU : ∀ i, i < 8 → ∃ v : Int, w1.cell? ⟨g, i, none⟩ = some (.int .u32 v) := fun i hi => by
      obtain ⟨v, hv⟩ := UE.out.2 i hi
      refine ⟨v, ?_⟩
      rw [cell_of_row w1 g i cur _ _ hg]
      have h1 : (cur.toList.take (8 * 1))[i]? = some (.int .u32 v) := by rw [ht]; simpa using hv
      rw [List.getElem?_take, if_pos (by omega)] at h1
      simpa using h1
    have HU := Lib.hid hU
    have HB := Lib.hid ((Below.refl w.heap.size w).grown hgrow (Nat.le_refl _) (by intro k hk; simp [Value.ownBlock] at hk))
    clear hU hgrow hnil ht hg hcs
    go_wp2_with fail
    go_ret
    exact ⟨g, cap, rfl, hbg, HU.out, HB.out⟩
set_option maxRecDepth 100000 in
set_option maxHeartbeats 4000000 in
theorem little_ok (eb : Nat) (w : World) : Calls Tryz.prog 374 #[pt eb] w fun e w' => e = .returned (.bool false) ∧ w' = w := by
  go_enter Tryz.func374, Tryz.ntmps374
  go_wp2_with fail
  go_ret
  exact ⟨rfl, rfl⟩
/-- a stream of SHA-256; its blocks lie from B on. -/
structure SS (B st eb : Nat) (w : World) : Prop where
  h : ∃ ov n, ∃ l : List UInt8, ∃ many : Int, Blk w st 285 #[.iface 301 (pt eb), ov, .int .i64 many] ∧ w.ownsRow B 5 1 ov n (Lib.byteCells l) ∧ n < 64
  e : ∃ E, Blk w eb 304 E ∧ URow 8 E
  lst : B ≤ st
  leb : B ≤ eb
set_option maxRecDepth 100000 in
set_option maxHeartbeats 4000000 in
theorem newStream_ok (w : World) : Calls Tryz.prog 172 #[.int .i64 4] w fun e w' => ∃ st eb, e = .returned (pt st) ∧ SS w.heap.size st eb w' ∧ Below w.heap.size w w' := by
  go_enter Tryz.func172, Tryz.ntmps172
  go_wp2_with fail
  refine (newEngine_ok w).mono ?_
  rintro e w1 ⟨rfl, ⟨E, hE, uE⟩, hb⟩
  have HE := Lib.hid hE
  have hsz := hb.size
  have HB := Lib.hid hb
  clear hE hb
  go_wp2_with fail
  go_ret
  exact ⟨_, _, rfl, ⟨⟨.slice none 0 0, 0, [], 0, Blk.new _ _ _, World.ownsRow_nil _ _ _ _, by omega⟩, ⟨E, HE.out.old _, uE⟩, hsz, Nat.le_refl _⟩, HB.out.alloc hsz _⟩
end Go.Proofs.YtpjnjhklkgefcaaGreatDoor
