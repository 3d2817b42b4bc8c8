import Derived.Test.YtnjmcppljbkhnaaYm
import Derived.Test.YtnjmcppljbkhnaaQ
import Derived.Test.YtnjmcppljbkhnaaGg
import Derived.DeepKeys
set_option linter.unusedVariables false
set_option linter.unusedSimpArgs false
namespace Go.Proofs.Ytnjmcppljbkhnaa
open Go.RowKit
theorem tagB_size (key nonce extra C : ByteArray) : (tagB key nonce extra C).size = 16 := strB_size _ _
theorem extract_left (a b : ByteArray) : (a ++ b).extract 0 a.size = a := by
  apply ByteArray.ext
  apply Array.ext'
  simp
  rw [List.take_of_length_le (show _ ≤ a.size from Nat.le_of_eq Array.length_toList)]
theorem extract_right (a b : ByteArray) : (a ++ b).extract a.size (a ++ b).size = b := by
  apply ByteArray.ext
  apply Array.ext'
  simp
  rw [List.drop_of_length_le (show _ ≤ a.size from Nat.le_of_eq Array.length_toList), List.take_nil, List.nil_append, List.take_of_length_le (show _ ≤ b.size from Nat.le_of_eq Array.length_toList)]
theorem at8_strB' (n : Nat) (f : Nat → Nat) (hf : ∀ i, f i < 256) (i : Nat) (hi : i < n) : at8 (strB n f) i = f i := by
  unfold at8 strB
  simp [List.getD_eq_getElem?_getD, hi]
  have := hf i
  omega
theorem xor_back (x y : Nat) : (x ^^^ y) ^^^ y = x := by
  rw [Nat.xor_assoc, Nat.xor_self, Nat.xor_zero]
theorem strm_lt (key nonce : ByteArray) (c : Nat) (text : ByteArray) (i : Nat) : strm key nonce c text i < 256 :=
  Nat.xor_lt_two_pow (n := 8) (at8_lt text i) (blockB_lt _ _ _ _)
theorem strmS_back (key nonce : ByteArray) (c : Nat) (text : ByteArray) : strmS key nonce c (strmS key nonce c text) = text := by
  have h : strB text.size (strm key nonce c (strmS key nonce c text)) = strB text.size (at8 text) := strB_congr fun i hi => by
    unfold strm
    have e : at8 (strmS key nonce c text) i = strm key nonce c text i := at8_strB' _ _ (strm_lt key nonce c text) i hi
    rw [e]
    exact xor_back _ _
  unfold strmS at h ⊢
  rw [strB_size, h, strB_at]
theorem run_loadVar16 (W : World) (g : Nat) (F : Nat → Nat) (h : BR W g 16 F) : (loadVar 86 ⟨g, 0, none⟩).run Try.prog W = .ok (.agg (row8 16 F)) W := by
  have hl : (loadCells ⟨g, 0, none⟩ (row8 16 F).toList.length).run Try.prog W = .ok (row8 16 F).toList.toArray W :=
    run_loadCells_list (P := Try.prog) W ⟨g, 0, none⟩ (row8 16 F).toList (fun j v hv => by
      have hadd : (⟨g, 0, none⟩ : Addr).add j = ⟨g, j, none⟩ := by unfold Addr.add; split <;> simp_all
      have hj : j < 16 := by
        have := (List.getElem?_eq_some_iff.1 hv).1
        simpa [row8_size] using this
      rw [hadd, (h.2 j hj).1, ← hv, Array.getElem?_toList, row8_at _ _ _ hj])
  have hi := info86 F
  cases hq : Try.prog.info? 86 with
  | none => simp [hq] at hi
  | some i =>
    have hs : i.size = (row8 16 F).size := by simpa [hq] using hi
    have hagg : (isAgg 86).run Try.prog W = .ok true W := by
      unfold isAgg
      rw [Sem.run_bind, run_underlying Try.underlying86 W]
      rfl
    simp only [Array.length_toList, Array.toArray_toList] at hl
    simp [loadVar, Sem.run_bind, hagg, sizeOf, typeInfo, hq, hs, hl]
def Has16 (F : Nat → Nat) (W : World) (g : Nat) : Prop := BR W g 16 F
theorem run_loadAt16 (W : World) (g : Nat) (F : Nat → Nat) (h : BR W g 16 F) : (Instr.loadAt 86 (.pointer (some ⟨g, 0, none⟩))).run Try.prog W = .ok (.agg (row8 16 F)) W := by
  simp only [Instr.loadAt, Instr.sureAddr, Sem.run_bind, Sem.run_pure, Result.andThen_ok, run_loadVar16 W g F h]
theorem run_array16 (W : World) (a : Option Addr) (c : Nat) : (Instr.arrayAt 86 (.slice a 16 c)).run Try.prog W = .ok (.pointer a) W := by
  unfold Instr.arrayAt
  rw [Sem.run_bind, run_underlying Try.underlying86 W]
  rfl
theorem eqItems86 (W : World) (F : Nat → Nat) : ∀ is : List Nat, (∀ i ∈ is, i < 16) → (Op.eqItems 9999 5 1 (row8 16 F) (row8 16 F) is).run Try.prog W = .ok true W := by
  intro is
  induction is with
  | nil => intro _; simp [Op.eqItems]
  | cons i is ih =>
    intro h
    have hi : i < 16 := h i (by simp)
    have hp := run_part_plain (P := Try.prog) W (e := 5) (by kernel_rfl) (row8_at 16 F i hi)
    have he := run_equalIn_int (P := Try.prog) W 9998 5 .u8 .u8 ((F i : Nat) : Int) ((F i : Nat) : Int) Try.underlying5
    simp only [Op.eqItems, Sem.run_bind, Nat.mul_one, hp, he, Result.andThen_ok]
    simp
    exact ih (fun k hk => h k (by simp [hk]))
theorem eq86 (W : World) (F : Nat → Nat) : (Op.equalIn 10000 86 (.agg (row8 16 F)) (.agg (row8 16 F))).run Try.prog W = .ok true W := by
  obtain ⟨i5, hi5⟩ : ∃ i, Try.prog.info? 5 = some i := by
    cases h : Try.prog.info? 5 with
    | none => exact absurd h (by have := info5b; intro e; rw [e] at this; cases this)
    | some i => exact ⟨i, rfl⟩
  have h := run_equalIn_array (P := Try.prog) W 9999 (row8 16 F) (row8 16 F) Try.underlying86 hi5
  rw [h, show Try.prog.cellsOf 5 = 1 from by kernel_rfl]
  exact eqItems86 W F _ (fun i hi => List.mem_range.1 hi)
/-- the load of the array, as one step of a region that draws. -/
theorem step_load86 {ops : Array Oper} {o : Oper} {a : Act} {w : World} {K : Act → World → Prop} {Q : Exit → Act → World → Prop} {E : Prop} (hg : o.guard = none) (x : Operand) (hop : o.op = .load 86 x) (g : Nat) (hx : a.eval x = .pointer (some ⟨g, 0, none⟩)) (F : Nat → Nat) (h : BR w g 16 F) (hK : K (a.put o.dst (.agg (row8 16 F))) w) : if Region.wanted o (yielded ops a.tmps) = true then Oper.wp Try.prog o a w K Q else E := by
  have hw : Region.wanted o (yielded ops a.tmps) = true := by simp [Region.wanted, hg]
  rw [if_pos hw]
  unfold Oper.wp execOp
  simp only [hop, hx, Instr.loadAt, Instr.sureAddr, Sem.run_bind, Sem.run_pure, Result.andThen_ok, run_loadVar16 w g F h]
  exact hK
theorem neqA (w : World) (A : Array Value) (r : Bool) (he : (Op.equalIn 10000 86 (.agg A) (.agg A)).run Try.prog w = .ok true w) : (binOp .neq 86 (.agg A) (.agg A)).run Try.prog w = .ok (.bool false) w := by
  have h := run_neq_struct (P := Try.prog) w 86 A A
  generalize hq : (Op.equalIn 10000 86 (.agg A) (.agg A)).run Try.prog w = q at *
  rw [h, he]
  simp only [Result.andThen_ok, Bool.not_true]
theorem guardType86 : Try.prog.eqGuardType Try.prog.depth 86 = false := by kernel_rfl
theorem step_neq86 {ops : Array Oper} {o : Oper} {a : Act} {w : World} {K : Act → World → Prop} {Q : Exit → Act → World → Prop} {E : Prop} (hg : o.guard = none) (x y : Operand) (t : TypeId) (hop : o.op = .binOp .neq 86 x y t) (A : Array Value) (hx : a.eval x = .agg A) (hy : a.eval y = .agg A) (hb : (binOp .neq 86 (.agg A) (.agg A)).run Try.prog w = .ok (.bool false) w) (hK : K (a.put o.dst (.bool false)) w) : if Region.wanted o (yielded ops a.tmps) = true then Oper.wp Try.prog o a w K Q else E := by
  have hw : Region.wanted o (yielded ops a.tmps) = true := by simp [Region.wanted, hg]
  rw [if_pos hw]
  unfold Oper.wp execOp
  have heg := run_eqGuard_agg (P := Try.prog) w .neq 86 x y A A guardType86
  simp only [hop, hx, hy, Sem.run_bind, heg, hb, Result.andThen_ok, Sem.run_pure]
  exact hK
theorem has_new (W : World) (F : Nat → Nat) (T : ByteArray) (hT : T.size = 16) (hF : ∀ i, i < 16 → at8 T i = F i) : Has16 F (bytesOf W T) W.heap.size := by
  have h := bytesOf_row W T
  rw [hT] at h
  exact h.congr hF
theorem has_keep {W w' : World} {g : Nat} {F : Nat → Nat} (h : Has16 F W g) (hb : Below W.heap.size W w') : Has16 F w' g := BR.below h hb h.1
set_option maxRecDepth 100000 in
set_option maxHeartbeats 2000000 in
theorem openBlock49_ok (key nonce extra text : ByteArray) (w : World) (hk : key.size = 32) (hn : nonce.size = 12) (he : extra.size ≤ 100000) (hs : text.size ≤ 100000) :
    Calls Try.prog 49 #[.string key, .string nonce, .string extra, .string (sealB key nonce extra text)] w fun e w' => e = .returned (.tuple #[.string text, .bool true]) ∧ Below w.heap.size w w' := by
  have HK := Lib.hid hk
  have HNn := Lib.hid hn
  clear hk hn
  have hCs := strmS_size key nonce 1 text
  have HBK := Lib.hid (strmS_back key nonce 1 text)
  have hTs := tagB_size key nonce extra (strmS key nonce 1 text)
  have hx1 : (sealB key nonce extra text).extract 0 text.size = strmS key nonce 1 text := by
    have h := extract_left (strmS key nonce 1 text) (tagB key nonce extra (strmS key nonce 1 text))
    rw [hCs] at h; exact h
  have hx2 : (sealB key nonce extra text).extract text.size (sealB key nonce extra text).size = tagB key nonce extra (strmS key nonce 1 text) := by
    have h := extract_right (strmS key nonce 1 text) (tagB key nonce extra (strmS key nonce 1 text))
    rw [hCs] at h; exact h
  have hSs := sealB_size key nonce extra text
  have hq : ((sealB key nonce extra text).size : Int) - 16 = (text.size : Int) := by omega
  have C80 := Lib.hid (fun w => blockTag80 key nonce extra (strmS key nonce 1 text) w HK.out HNn.out (by omega) (by omega))
  have C53 := Lib.hid (fun w => stream53 key nonce (strmS key nonce 1 text) 1 w HK.out HNn.out (by decide) (by omega))
  rw [HBK.out] at C53
  have hF : ∀ i, i < 16 → at8 (tagB key nonce extra (strmS key nonce 1 text)) i = bytesN (btag key nonce extra (strmS key nonce 1 text)) i := fun i hi => at8_strB' _ _ (fun _ => Nat.mod_lt _ (by decide)) i hi
  generalize tagB key nonce extra (strmS key nonce 1 text) = T at *
  generalize bytesN (btag key nonce extra (strmS key nonce 1 text)) = F at *
  generalize sealB key nonce extra text = S at *
  generalize strmS key nonce 1 text = C at *
  have hm1 : S.size ≤ text.size + 16 := by omega
  have hm2 : text.size + 16 ≤ S.size := by omega
  have hm3 : text.size ≤ S.size := by omega
  have hm4 : ¬ S.size < text.size := by omega
  have hcv : ∀ W : World, (convert 9 88 (.string T)).run Try.prog W = .ok (.slice (some ⟨W.heap.size, 0, none⟩) 16 (grownCap W 16 0 5)) (bytesOf W T) := fun W => by
    have h := run_bytesOf W T
    rw [hTs] at h; exact h
  have H4 := Lib.hid (show ∀ W : World, Has16 F (bytesOf W T) W.heap.size from fun W => has_new W F T hTs hF)
  have h5 := run_array16
  have H7 := Lib.hid (fun W => eq86 W F)
  clear hSs hCs hTs hF
  generalize hA : row8 16 F = A at *
  go_enter Try.func49, Try.ntmps49
  go_wp2_with fail
  refine wp_region_any (by kernel_rfl) ?_
  change wpAny _ _ _ _ _ _ _ (World.drew _)
  refine wpAny_take (i := 0) (oi := { dst := some 16, op := Op.move (Operand.tmp 0), type := 9, pos := "ciphers.go:285", after := #[], guard := none }) (v := .string key) rfl (by kernel_rfl) (by kernel_rfl) (by kernel_rfl) (fun _ _ _ h => h) (Or.inl ⟨by rfl, by intro w; go_simp⟩) ?_
  refine wpAny_take (i := 1) (oi := { dst := some 17, op := Op.move (Operand.tmp 1), type := 9, pos := "ciphers.go:285", after := #[], guard := none }) (v := .string nonce) rfl (by kernel_rfl) (by kernel_rfl) (by kernel_rfl) (fun _ _ _ h => h) (Or.inl ⟨by rfl, by intro w; go_simp⟩) ?_
  refine wpAny_take (i := 2) (oi := { dst := some 18, op := Op.move (Operand.tmp 2), type := 9, pos := "ciphers.go:285", after := #[], guard := none }) (v := .string extra) rfl (by kernel_rfl) (by kernel_rfl) (by kernel_rfl) (fun _ _ _ h => h) (Or.inl ⟨by rfl, by intro w; go_simp⟩) ?_
  refine wpAny_take (i := 3) (oi := { dst := some 19, op := Op.move (Operand.tmp 3), type := 9, pos := "ciphers.go:285", after := #[], guard := none }) (v := .string S) rfl (by kernel_rfl) (by kernel_rfl) (by kernel_rfl) (fun _ _ _ h => h) (Or.inl ⟨by rfl, by intro w; go_simp⟩) ?_
  refine wpAny_take (i := 4) (oi := { dst := some 20, op := Op.move (Operand.tmp 10), type := 3, pos := "ciphers.go:285", after := #[], guard := none }) (v := .int .i64 text.size) rfl (by kernel_rfl) (by kernel_rfl) (by kernel_rfl) (fun _ _ _ h => h) (Or.inl ⟨by rfl, by intro w; go_simp⟩) ?_
  refine wpAny_take (i := 5) (oi := { dst := some 21, op := Op.slice 9 (Operand.tmp 19) none (some (Operand.tmp 20)) none, type := 9, pos := "ciphers.go:285", after := #[{ on := 3, ground := Ground.data }, { on := 4, ground := Ground.data }], guard := none }) (v := .string C) rfl (by kernel_rfl) (by kernel_rfl) (by kernel_rfl) (fun _ _ _ h => h) (Or.inl ⟨by rfl, by intro w; go_simp⟩) ?_
  refine wpAny_take (i := 7) (oi := { dst := some 23, op := Op.move (Operand.tmp 3), type := 9, pos := "ciphers.go:285", after := #[], guard := none }) (v := .string S) rfl (by kernel_rfl) (by kernel_rfl) (by kernel_rfl) (fun _ _ _ h => h) (Or.inl ⟨by rfl, by intro w; go_simp⟩) ?_
  refine wpAny_take (i := 8) (oi := { dst := some 24, op := Op.move (Operand.tmp 10), type := 3, pos := "ciphers.go:285", after := #[], guard := none }) (v := .int .i64 text.size) rfl (by kernel_rfl) (by kernel_rfl) (by kernel_rfl) (fun _ _ _ h => h) (Or.inl ⟨by rfl, by intro w; go_simp⟩) ?_
  refine wpAny_take (i := 9) (oi := { dst := some 25, op := Op.slice 9 (Operand.tmp 23) (some (Operand.tmp 24)) none none, type := 9, pos := "ciphers.go:285", after := #[{ on := 7, ground := Ground.data }, { on := 8, ground := Ground.data }], guard := none }) (v := .string T) rfl (by kernel_rfl) (by kernel_rfl) (by kernel_rfl) (fun _ _ _ h => h) (Or.inl ⟨by rfl, by intro w; go_simp⟩) ?_
  refine wpAny_ready (rs := [6, 10]) (by kernel_rfl) (by simp) ?_
  refine AllReady.cons (o := { dst := some 22, op := Op.call { callee := Callee.value (Operand.func 80), args := #[Operand.tmp 16, Operand.tmp 17, Operand.tmp 18, Operand.tmp 21], argTypes := #[9, 9, 9, 9] }, type := 86, pos := "ciphers.go:285", after := #[{ on := 0, ground := Ground.data }, { on := 1, ground := Ground.data }, { on := 2, ground := Ground.data }, { on := 5, ground := Ground.data }], guard := none }) rfl (fun K hK => ?_) ?_
  · skip
    go_simp
    refine (C80.out _).mono ?_
    rintro e w1 ⟨rfl, hbb⟩
    have HBB := Lib.hid hbb
    clear hbb
    dsimp only
    refine hK _ _ ?_; clear hK K
    refine wpAny_ready (rs := [10]) (by kernel_rfl) (by simp) ?_
    refine AllReady.cons (o := { dst := some 26, op := Op.convert 9 88 (Operand.tmp 25), type := 88, pos := "ciphers.go:285", after := #[{ on := 9, ground := Ground.data }], guard := none }) rfl (fun K hK => ?_) ?_
    · skip
      go_simp
      refine hK _ _ ?_; clear hK K
      refine wpAny_take (i := 11) (oi := { dst := some 27, op := Op.sliceToArrayPointer 86 (Operand.tmp 26), type := 0, pos := "ciphers.go:285", after := #[{ on := 10, ground := Ground.data }], guard := none }) (v := .pointer (some ⟨w1.heap.size, 0, none⟩)) rfl (by kernel_rfl) (by kernel_rfl) (by kernel_rfl) (fun _ _ _ h => h) (Or.inl ⟨by rfl, by intro w; go_simp⟩) ?_
      refine wpAny_ready (rs := [12]) (by kernel_rfl) (by simp) ?_
      refine AllReady.cons (o := { dst := some 28, op := Op.load 86 (Operand.tmp 27), type := 86, pos := "ciphers.go:285", after := #[{ on := 11, ground := Ground.data }], guard := none }) rfl (fun K hK => ?_) ?_
      · skip
        refine step_load86 rfl (.tmp 27) rfl _ rfl F (H4.out w1) ?_
        rw [hA]
        refine hK _ _ ?_; clear hK K
        refine wpAny_ready (rs := [13]) (by kernel_rfl) (by simp) ?_
        refine AllReady.cons (o := { dst := some 29, op := Op.binOp BinOp.neq 86 (Operand.tmp 22) (Operand.tmp 28) 86, type := 4, pos := "ciphers.go:285", after := #[{ on := 6, ground := Ground.data }, { on := 12, ground := Ground.data }], guard := none }) rfl (fun K hK => ?_) ?_
        · skip
          refine step_neq86 rfl (.tmp 22) (.tmp 28) 86 rfl A rfl rfl (neqA _ A true (H7.out _)) ?_
          refine hK _ _ ?_; clear hK K
          refine wpAny_done (by kernel_rfl) ?_ _
          have HF := Lib.hid (show Below w.heap.size w _ from below_step (below_step (below_drew (Below.refl w.heap.size w)) (Nat.le_refl _) HBB.out) (Nat.le_refl _) (bytesOf_below w1 T))
          clear HBB
          go_wp2_with fail
          refine (C53.out _).mono ?_
          rintro e w9 ⟨rfl, h9⟩
          have H9 := Lib.hid (below_step HF.out (Nat.le_refl _) h9)
          clear h9 HF
          go_wp2_with fail
          go_ret2
          exact ⟨rfl, H9.out⟩
        exact AllReady.nil
      exact AllReady.nil
    exact AllReady.nil
  refine AllReady.cons (o := { dst := some 26, op := Op.convert 9 88 (Operand.tmp 25), type := 88, pos := "ciphers.go:285", after := #[{ on := 9, ground := Ground.data }], guard := none }) rfl (fun K hK => ?_) ?_
  · skip
    go_simp
    refine hK _ _ ?_; clear hK K
    refine wpAny_take (i := 11) (oi := { dst := some 27, op := Op.sliceToArrayPointer 86 (Operand.tmp 26), type := 0, pos := "ciphers.go:285", after := #[{ on := 10, ground := Ground.data }], guard := none }) (v := .pointer (some ⟨w.heap.size, 0, none⟩)) rfl (by kernel_rfl) (by kernel_rfl) (by kernel_rfl) (fun _ _ _ h => h) (Or.inl ⟨by rfl, by intro w; go_simp⟩) ?_
    refine wpAny_ready (rs := [6, 12]) (by kernel_rfl) (by simp) ?_
    refine AllReady.cons (o := { dst := some 22, op := Op.call { callee := Callee.value (Operand.func 80), args := #[Operand.tmp 16, Operand.tmp 17, Operand.tmp 18, Operand.tmp 21], argTypes := #[9, 9, 9, 9] }, type := 86, pos := "ciphers.go:285", after := #[{ on := 0, ground := Ground.data }, { on := 1, ground := Ground.data }, { on := 2, ground := Ground.data }, { on := 5, ground := Ground.data }], guard := none }) rfl (fun K hK => ?_) ?_
    · skip
      go_simp
      refine (C80.out _).mono ?_
      rintro e w1 ⟨rfl, hbb⟩
      have HBB := Lib.hid hbb
      clear hbb
      dsimp only
      refine hK _ _ ?_; clear hK K
      refine wpAny_ready (rs := [12]) (by kernel_rfl) (by simp) ?_
      refine AllReady.cons (o := { dst := some 28, op := Op.load 86 (Operand.tmp 27), type := 86, pos := "ciphers.go:285", after := #[{ on := 11, ground := Ground.data }], guard := none }) rfl (fun K hK => ?_) ?_
      · skip
        refine step_load86 rfl (.tmp 27) rfl _ rfl F (BR.below (H4.out w.drew) HBB.out (H4.out w.drew).1) ?_
        rw [hA]
        refine hK _ _ ?_; clear hK K
        refine wpAny_ready (rs := [13]) (by kernel_rfl) (by simp) ?_
        refine AllReady.cons (o := { dst := some 29, op := Op.binOp BinOp.neq 86 (Operand.tmp 22) (Operand.tmp 28) 86, type := 4, pos := "ciphers.go:285", after := #[{ on := 6, ground := Ground.data }, { on := 12, ground := Ground.data }], guard := none }) rfl (fun K hK => ?_) ?_
        · skip
          refine step_neq86 rfl (.tmp 22) (.tmp 28) 86 rfl A rfl rfl (neqA _ A true (H7.out _)) ?_
          refine hK _ _ ?_; clear hK K
          refine wpAny_done (by kernel_rfl) ?_ _
          have HF := Lib.hid (show Below w.heap.size w _ from below_step (below_step (below_drew (Below.refl w.heap.size w)) (Nat.le_refl _) (bytesOf_below w.drew T)) (Nat.le_refl _) HBB.out)
          clear HBB
          go_wp2_with fail
          refine (C53.out _).mono ?_
          rintro e w9 ⟨rfl, h9⟩
          have H9 := Lib.hid (below_step HF.out (Nat.le_refl _) h9)
          clear h9 HF
          go_wp2_with fail
          go_ret2
          exact ⟨rfl, H9.out⟩
        exact AllReady.nil
      exact AllReady.nil
    refine AllReady.cons (o := { dst := some 28, op := Op.load 86 (Operand.tmp 27), type := 86, pos := "ciphers.go:285", after := #[{ on := 11, ground := Ground.data }], guard := none }) rfl (fun K hK => ?_) ?_
    · skip
      refine step_load86 rfl (.tmp 27) rfl _ rfl F (H4.out w.drew) ?_
      rw [hA]
      refine hK _ _ ?_; clear hK K
      refine wpAny_ready (rs := [6]) (by kernel_rfl) (by simp) ?_
      refine AllReady.cons (o := { dst := some 22, op := Op.call { callee := Callee.value (Operand.func 80), args := #[Operand.tmp 16, Operand.tmp 17, Operand.tmp 18, Operand.tmp 21], argTypes := #[9, 9, 9, 9] }, type := 86, pos := "ciphers.go:285", after := #[{ on := 0, ground := Ground.data }, { on := 1, ground := Ground.data }, { on := 2, ground := Ground.data }, { on := 5, ground := Ground.data }], guard := none }) rfl (fun K hK => ?_) ?_
      · skip
        go_simp
        refine (C80.out _).mono ?_
        rintro e w1 ⟨rfl, hbb⟩
        have HBB := Lib.hid hbb
        clear hbb
        dsimp only
        refine hK _ _ ?_; clear hK K
        refine wpAny_ready (rs := [13]) (by kernel_rfl) (by simp) ?_
        refine AllReady.cons (o := { dst := some 29, op := Op.binOp BinOp.neq 86 (Operand.tmp 22) (Operand.tmp 28) 86, type := 4, pos := "ciphers.go:285", after := #[{ on := 6, ground := Ground.data }, { on := 12, ground := Ground.data }], guard := none }) rfl (fun K hK => ?_) ?_
        · skip
          refine step_neq86 rfl (.tmp 22) (.tmp 28) 86 rfl A rfl rfl (neqA _ A true (H7.out _)) ?_
          refine hK _ _ ?_; clear hK K
          refine wpAny_done (by kernel_rfl) ?_ _
          have HF := Lib.hid (show Below w.heap.size w _ from below_step (below_step (below_drew (Below.refl w.heap.size w)) (Nat.le_refl _) (bytesOf_below w.drew T)) (Nat.le_refl _) HBB.out)
          clear HBB
          go_wp2_with fail
          refine (C53.out _).mono ?_
          rintro e w9 ⟨rfl, h9⟩
          have H9 := Lib.hid (below_step HF.out (Nat.le_refl _) h9)
          clear h9 HF
          go_wp2_with fail
          go_ret2
          exact ⟨rfl, H9.out⟩
        exact AllReady.nil
      exact AllReady.nil
    exact AllReady.nil
  exact AllReady.nil
end Go.Proofs.Ytnjmcppljbkhnaa
