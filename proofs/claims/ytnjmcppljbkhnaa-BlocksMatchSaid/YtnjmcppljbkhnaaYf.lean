import Derived.Test.YtnjmcppljbkhnaaYe
set_option linter.unusedVariables false
set_option linter.unusedSimpArgs false
namespace Go.Proofs.Ytnjmcppljbkhnaa
open Go.RowKit
def IS (w : World) (n : Nat) (f : Nat → Nat) (wr : World) : Prop := Below w.heap.size w wr ∧ IR wr w.heap.size n f
theorem IS.drew {w wr : World} {n : Nat} {f : Nat → Nat} (h : IS w n f wr) : IS w n f wr.drew := ⟨below_drew h.1, h.2.drew⟩
theorem IS.store {w wr : World} {n : Nat} {f : Nat → Nat} (h : IS w n f wr) (i v : Nat) (hi : i < n) : IS w n (upd f i v) (wr.setCell ⟨w.heap.size, i, none⟩ (.int .i64 (v : Nat))) := ⟨h.1.setCell (Nat.le_refl _) _, h.2.set i v hi⟩
theorem valD_map (f : Nat → Nat) (n : Nat) : valD ((List.range n).map f) = leB f n := by
  induction n with
  | zero => rfl
  | succ n ih => rw [List.range_succ, List.map_append, List.map_cons, List.map_nil, valD_snoc, ih, leB]; simp [Nat.mul_comm]
set_option maxRecDepth 100000 in
set_option maxHeartbeats 2000000 in
theorem product58 (a b : List Nat) (va vb : Value) (w : World) (ha : Rd w va a) (hb : Rd w vb b) (hla : a.length ≤ 1000) (hlb : b.length ≤ 1000) (hda : ∀ d ∈ a, d < 256) (hdb : ∀ d ∈ b, d < 256) :
    Calls Try.prog 58 #[va, vb] w fun e w' => ∃ (v : Value) (L : List Nat), e = .returned v ∧ Rd w' v L ∧ (∀ d ∈ L, d < 256) ∧ valD L = valD a * valD b ∧ L.length = a.length + b.length + 1 ∧ Below w.heap.size w w' := by
  obtain ⟨pa, ca, rfl, hca⟩ := ha
  obtain ⟨pb, cb, rfl, hcb⟩ := hb
  have HCA := Lib.hid hca
  have HCB := Lib.hid hcb
  clear hca hcb
  have hmk := run_madeI w (a.length + b.length + 1) (by omega)
  have hmk2 : (Instr.makeSlice 89 (.int .i64 ((a.length : Int) + (b.length : Int) + 1)) (.int .i64 ((a.length : Int) + (b.length : Int) + 1))).run Try.prog w = .ok (.slice (some ⟨w.heap.size, 0, none⟩) (a.length + b.length + 1) (a.length + b.length + 1)) (madeI w (a.length + b.length + 1)) := by
    simpa using hmk
  have HW0 := Lib.hid (show IS w (a.length + b.length + 1) (fun _ => 0) (madeI w (a.length + b.length + 1)) from ⟨madeI_below w _, madeI_row w _⟩)
  generalize madeI w (a.length + b.length + 1) = w0 at *
  go_enter Try.func58, Try.ntmps58
  go_wp2_with fail
  clear hmk hmk2
  go_loopw [23] (fun iv wr => ∃ (i : Nat) (f : Nat → Nat), i ≤ a.length ∧ iv = .int .i64 i ∧ Hid (ProdAt a b f i 0 0) ∧ IS w (a.length + b.length + 1) f wr) (fun iv _ => a.length - (intOf iv).toNat)
  case atStart => exact ⟨0, _, by omega, rfl, Lib.hid (ProdAt.start a b), HW0.out⟩
  case round =>
    clear HW0
    obtain ⟨i, f, hi, rfl, HP, hws⟩ := hrel
    have HWS := Lib.hid hws
    clear hws
    by_cases hlt : i < a.length
    · have hd : decide ((i : Int) < (a.length : Int)) = true := decide_eq_true (by omega)
      obtain ⟨ga, rfl, hga, hcla⟩ := HCA.out i hlt
      have hclA : wr.cell? ⟨ga, i, none⟩ = some (.int .i64 (a.getD i 0 : Nat)) := by rw [← hcla]; exact HWS.out.1.cell hga
      clear hcla
      have xa := getD_lt a hda i
      generalize hxa : a.getD i 0 = x at *
      go_wp2_with fail
      go_loopw [8, 30] (fun cv kv wq => ∃ (k c : Nat) (f : Nat → Nat), k ≤ b.length ∧ kv = .int .i64 k ∧ cv = .int .i64 c ∧ Hid (ProdAt a b f i k c) ∧ IS w (a.length + b.length + 1) f wq) (fun _ kv _ => b.length - (intOf kv).toNat)
      case atStart => exact ⟨0, 0, f, by omega, rfl, rfl, HP, HWS.out⟩
      case round =>
        clear HP HWS
        obtain ⟨k, c, f, hk, rfl, rfl, HP, hws⟩ := hrel
        have HWS := Lib.hid hws
        clear hws
        by_cases hkl : k < b.length
        · have hdk : decide ((k : Int) < (b.length : Int)) = true := decide_eq_true (by omega)
          obtain ⟨gb, rfl, hgb, hclb⟩ := HCB.out k hkl
          have hclB : wr.cell? ⟨gb, k, none⟩ = some (.int .i64 (b.getD k 0 : Nat)) := by rw [← hclb]; exact HWS.out.1.cell hgb
          clear hclb
          have HN := Lib.hid (HP.out.next hda hdb hlt hkl)
          have hc : c < 256 := HP.out.2.1
          have hz : f (i + k) < 256 := HP.out.1 _
          have z0 := (HWS.out.2.2 (i + k) (by omega)).1
          have z1 := (HWS.out.2.2 (i + k) (by omega)).2
          have xb := getD_lt b hdb k
          rw [hxa] at HN
          generalize hxb : b.getD k 0 = y at *
          have HST := Lib.hid (fun v => HWS.out.store (i + k) v (by omega))
          have HK1 := Lib.hid (show k + 1 ≤ b.length from hkl)
          generalize hzz : f (i + k) = z at *
          have hxy : x * y ≤ 255 * 255 := Nat.mul_le_mul (by omega) (by omega)
          have hxi : (x : Int) * (y : Int) = ((x * y : Nat) : Int) := by simp
          generalize hq : x * y = q at *
          have hand : bits .and .i64 ((z : Int) + (q : Int) + (c : Int)) 255 = (((z + q + c) % 256 : Nat) : Int) := by
            have h := i64_and_nat (z + q + c) 255 (by omega) (by omega)
            rw [Nat.and_two_pow_sub_one_eq_mod _ 8] at h
            simpa using h
          have i1 : (i : Int) + (k : Int) < ((a.length + b.length + 1 : Nat) : Int) := by omega
          go_wp2_with fail
          go_roundw
          case rel => exact ⟨k + 1, (z + q + c) / 256, _, HK1.out, by go_num, by go_num, HN, by simpa using HST.out ((z + q + c) % 256)⟩
          case measure => simp [intOf]; omega
        · have hdk : decide ((k : Int) < (b.length : Int)) = false := decide_eq_false (by omega)
          obtain rfl : k = b.length := by omega
          have HC := Lib.hid (HP.out.carry hda hdb)
          clear HP
          go_wp2_with fail
          go_loopw [8, 12] (fun cv kv wp => ∃ (k c : Nat) (f : Nat → Nat), kv = .int .i64 k ∧ cv = .int .i64 c ∧ Hid (CarryAt a b f i k c) ∧ k ≤ 3000 ∧ IS w (a.length + b.length + 1) f wp) (fun _ kv _ => 3001 - (intOf kv).toNat)
          case atStart => exact ⟨i + b.length, c, f, by go_num, rfl, HC, by omega, HWS.out⟩
          case round =>
            clear HC HWS
            obtain ⟨k, c, f, rfl, rfl, HC, hk3, hws⟩ := hrel
            have HWS := Lib.hid hws
            clear hws
            by_cases hc0 : 0 < c
            · have hd0 : decide ((0 : Int) < (c : Int)) = true := decide_eq_true (by omega)
              have hd1 : decide ((c : Int) > 0) = true := decide_eq_true (by omega)
              have HN := Lib.hid (HC.out.next hda hdb hlt hc0)
              have hc : c < 256 := HC.out.2.1
              have hkb := HC.out.2.2.2 hc0
              have hz : f k < 256 := HC.out.1 _
              have z0 := (HWS.out.2.2 k (by omega)).1
              have z1 := (HWS.out.2.2 k (by omega)).2
              have HST := Lib.hid (fun v => HWS.out.store k v (by omega))
              generalize hzz : f k = z at *
              have hand : bits .and .i64 ((z : Int) + (c : Int)) 255 = (((z + c) % 256 : Nat) : Int) := by
                have h := i64_and_nat (z + c) 255 (by omega) (by omega)
                rw [Nat.and_two_pow_sub_one_eq_mod _ 8] at h
                simpa using h
              have i1 : (k : Int) < ((a.length + b.length + 1 : Nat) : Int) := by omega
              go_wp2_with fail
              go_roundw
              case rel => exact ⟨k + 1, (z + c) / 256, _, by go_num, by go_num, HN, by omega, by simpa using HST.out ((z + c) % 256)⟩
              case measure => simp [intOf]; omega
            · have hd0 : decide ((0 : Int) < (c : Int)) = false := decide_eq_false (by omega)
              have hd1 : decide ((c : Int) > 0) = false := decide_eq_false (by omega)
              obtain rfl : c = 0 := by omega
              have HD := Lib.hid HC.out.done
              go_wp2_with fail
              go_roundw
              case rel => exact ⟨i + 1, f, by omega, by go_num, HD, HWS.out⟩
              case measure => simp [intOf]; omega
    · have hd : decide ((i : Int) < (a.length : Int)) = false := decide_eq_false (by omega)
      obtain rfl : i = a.length := by omega
      have HL := Lib.hid HP.out.done
      have HF := Lib.hid HP.out.1
      go_wp2_with fail
      go_ret
      refine ⟨_, (List.range (a.length + b.length + 1)).map f, rfl, ⟨_, _, by simp; rfl, fun j hj => ⟨_, rfl, HWS.out.2.1, ?_⟩⟩, ?_, ?_, by simp, HWS.out.1⟩
      · simp at hj
        rw [(HWS.out.2.2 j hj).1]
        simp [List.getD_eq_getElem?_getD, hj]
      · intro d hd
        simp at hd
        obtain ⟨j, _, rfl⟩ := hd
        exact HF.out j
      · rw [← HL.out, ← valD_map]
end Go.Proofs.Ytnjmcppljbkhnaa
