import Derived.Test.YtnjmcppljbkhnaaK
import Derived.Deep.RegionHeld3
import Derived.Deep.RegionLaw
set_option linter.unusedVariables false
set_option linter.unusedSimpArgs false
namespace Go.Proofs.Ytnjmcppljbkhnaa
open Go.RowKit

def TX (w : World) (h : Nat → Nat) (wr : World) : Prop := Below w.heap.size w wr ∧ w.heap.size + 3 ≤ wr.heap.size ∧ Blk wr (w.heap.size + 1 + 1) 128 (row64 h) ∧ ∃ f, Blk wr w.heap.size 86 (row8 16 f)
theorem TS.tx {w wr : World} {R h : Nat → Nat} (H : TS w R h wr) : TX w h wr := ⟨H.1, H.2.1, H.2.2.2.2, _, H.2.2.1⟩
theorem TX.below {w wr w' : World} {h : Nat → Nat} (H : TX w h wr) (b : Below wr.heap.size wr w') : TX w h w' := by
  obtain ⟨h1, h2, h3, f, h4⟩ := H
  have := b.size
  exact ⟨below_step h1 (Nat.le_refl _) b, by omega, h3.below b (by omega), f, h4.below b (by omega)⟩
theorem TX.drew {w wr : World} {h : Nat → Nat} (H : TX w h wr) : TX w h wr.drew := H.below (below_drew (Below.refl _ _))
theorem TX.setRow {w wr : World} {h : Nat → Nat} (H : TX w h wr) (F : Nat → Nat) : TX w h (wr.setRow w.heap.size (row8 16 F)) := by
  obtain ⟨h1, h2, h3, f, h4⟩ := H
  exact ⟨below_setRow h1 (Nat.le_refl _), by simpa using h2, (setRow_other _ _ _ _ (by omega)).trans h3, F, setRow_heap _ _ _ _ _ _ h4⟩
theorem TX.res {w wr : World} {h : Nat → Nat} (H : TX w h wr) (F : Nat → Nat) : Blk (wr.setRow w.heap.size (row8 16 F)) w.heap.size 86 (row8 16 F) := by
  obtain ⟨h1, h2, h3, f, h4⟩ := H
  exact setRow_heap _ _ _ _ _ _ h4
theorem step_store_TX {ops : Array Oper} {o : Oper} {a : Act} {w W : World} {h : Nat → Nat} {K : Act → World → Prop} {Q : Exit → Act → World → Prop} {E : Prop} (hS : TX w h W) (F : Nat → Nat) (hgd : o.guard = none) (x y : Operand) (ho : o.op = .store 86 x y) (hx : a.eval x = .pointer (some ⟨w.heap.size, 0, none⟩)) (hy : a.eval y = .agg (row8 16 F))
    (hK : K (a.put o.dst undef) (W.setRow w.heap.size (row8 16 F))) :
    if Region.wanted o (yielded ops a.tmps) = true then Oper.wp Try.prog o a W K Q else E := by
  have hw : Region.wanted o (yielded ops a.tmps) = true := by simp [Region.wanted, hgd]
  rw [if_pos hw]
  obtain ⟨h1, h2, h3, f, h4⟩ := hS
  exact wp_store_row 86 x y ho w.heap.size (row8 16 F) hx hy 86 _ h4 (info86 _) (by rw [row8_size, row8_size]) (row8_all _ _) hK
theorem step_load_TX {ops : Array Oper} {o : Oper} {a : Act} {w W : World} {h : Nat → Nat} {K : Act → World → Prop} {Q : Exit → Act → World → Prop} {E : Prop} (hS : TX w h W) (hgd : o.guard = none) (x : Operand) (ho : o.op = .load 128 x) (hx : a.eval x = .pointer (some ⟨w.heap.size + 1 + 1, 0, none⟩))
    (hK : K (a.put o.dst (.agg (row64 h))) W) :
    if Region.wanted o (yielded ops a.tmps) = true then Oper.wp Try.prog o a W K Q else E := by
  have hw : Region.wanted o (yielded ops a.tmps) = true := by simp [Region.wanted, hgd]
  rw [if_pos hw]
  exact wp_load_row 128 x ho (w.heap.size + 1 + 1) hx 128 (row64 h) (0, 0) _ hS.2.2.1 Try.underlying128 rfl (info128 _) hK
theorem row64_lit (h : Nat → Nat) : row64 h = #[.int .u64 (h 0 : Nat), .int .u64 (h 1 : Nat), .int .u64 (h 2 : Nat), .int .u64 (h 3 : Nat), .int .u64 (h 4 : Nat)] := by
  simp [row64, List.range, List.range.loop]
theorem closed89L (h : Nat → Nat) (add : ByteArray) (w : World) (H : Limbs h) (hw : W64 h) (hs : 16 ≤ add.size) (hm : add.size ≤ maxLen) :
    Calls Try.prog 89 #[.agg #[.int .u64 (h 0 : Nat), .int .u64 (h 1 : Nat), .int .u64 (h 2 : Nat), .int .u64 (h 3 : Nat), .int .u64 (h 4 : Nat)], .string add] w fun e w' => e = .returned (.agg (row8 16 (bytesN ((val5 h % P130 + sN add) % 340282366920938463463374607431768211456)))) ∧ Below w.heap.size w w' := by
  rw [← row64_lit]; exact closed89 h add w H hw hs hm
theorem closed89T (h : Nat → Nat) (add : ByteArray) (TG : Nat) (w : World) (H : Limbs h) (hw : W64 h) (hs : 16 ≤ add.size) (hm : add.size ≤ maxLen) (hTG : TG = (val5 h % P130 + sN add) % 340282366920938463463374607431768211456) :
    Calls Try.prog 89 #[.agg #[.int .u64 (h 0 : Nat), .int .u64 (h 1 : Nat), .int .u64 (h 2 : Nat), .int .u64 (h 3 : Nat), .int .u64 (h 4 : Nat)], .string add] w fun e w' => e = .returned (.agg (row8 16 (bytesN TG))) ∧ Below w.heap.size w w' := by
  subst hTG; exact closed89L h add w H hw hs hm
theorem tagN_end (key text : ByteArray) (k : Nat) (h : Nat → Nat) (hn : nblk text = k) (hv : val5 h % P130 = accN (rN key) text k) : tagN key text = (val5 h % P130 + sN (key.extract 16 key.size)) % 340282366920938463463374607431768211456 := by
  unfold tagN; rw [hn, hv]
end Go.Proofs.Ytnjmcppljbkhnaa
