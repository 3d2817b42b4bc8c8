/-
  Lists of kept sums: the error of an entry, the error of a list; a list without one is strictly ordered. Plain law.
-/
import Derived.Test.YtfcnmdmbkoekcaaGreatDoorKa
namespace Go.Proofs.Kl
/-- one entry of a list of kept sums. -/
structure E where
  path : ByteArray
  size : Int
  time : Int
  sums : List (Int × ByteArray)
def hexC (c : UInt8) : Bool := (decide (48 ≤ c.toNat) && decide (c.toNat ≤ 57)) || (decide (97 ≤ c.toNat) && decide (c.toNat ≤ 102))
def hexAll (s : ByteArray) (n : Nat) : Bool := s.data.toList.all hexC && decide (s.size = n)
def lateB (prev : Option ByteArray) (p : ByteArray) : Bool := match prev with | none => false | some q => decide (0 ≤ cmpL q.data.toList p.data.toList)
def farB (size time : Int) : Bool := decide (size < 0) || decide (1048576 < size) || decide (time < 0) || decide (4611686018427387904 < time)
def kindsB (l : List (Int × ByteArray)) : Bool := decide (l.map Prod.fst = [1, 2])
def formsB : List (Int × ByteArray) → Bool
  | [a, b] => hexAll a.2 8 && hexAll b.2 32
  | _ => false
/-- the error of an entry behind another one. -/
def chk (isFile : ByteArray → Bool) (prev : Option ByteArray) (x : E) : Int :=
  if isFile x.path = false then 1 else if lateB prev x.path then 10 else if farB x.size x.time then 7 else if kindsB x.sums = false then 5 else if formsB x.sums then 0 else 6
/-- the error of a list: that of the first entry that has one. -/
def errOf (isFile : ByteArray → Bool) : Option ByteArray → List E → Int
  | _, [] => 0
  | p, x :: l => if chk isFile p x ≠ 0 then chk isFile p x else errOf isFile (some x.path) l
theorem errOf_append (f : ByteArray → Bool) : ∀ (l : List E) (p : Option ByteArray) (x : E), errOf f p (l ++ [x]) = if errOf f p l ≠ 0 then errOf f p l else chk f (match l.getLast? with | none => p | some y => some y.path) x
  | [], p, x => by
    simp only [List.nil_append, errOf, List.getLast?_nil, ne_eq, not_true_eq_false, if_false]
    by_cases h : chk f p x = 0
    · rw [if_neg (fun g => g h)]; exact h.symm
    · rw [if_pos h]
  | y :: l, p, x => by
    by_cases h : chk f p y = 0
    · have e1 : errOf f p (y :: l ++ [x]) = errOf f (some y.path) (l ++ [x]) := by
        show (if chk f p y ≠ 0 then chk f p y else errOf f (some y.path) (l ++ [x])) = _
        rw [if_neg (fun g => g h)]
      have e2 : errOf f p (y :: l) = errOf f (some y.path) l := by
        show (if chk f p y ≠ 0 then chk f p y else errOf f (some y.path) l) = _
        rw [if_neg (fun g => g h)]
      rw [e1, e2, errOf_append f l (some y.path) x]
      cases l with
      | nil => rfl
      | cons z l => rw [List.getLast?_cons_cons]; cases hz : (z :: l).getLast? with
        | none => simp at hz
        | some u => rfl
    · have e1 : errOf f p (y :: l ++ [x]) = chk f p y := by
        show (if chk f p y ≠ 0 then chk f p y else errOf f (some y.path) (l ++ [x])) = _
        rw [if_pos h]
      have e2 : errOf f p (y :: l) = chk f p y := by
        show (if chk f p y ≠ 0 then chk f p y else errOf f (some y.path) l) = _
        rw [if_pos h]
      rw [e1, e2, if_pos h]
/-- the law's sum so far is the error of the part so far. -/
theorem errOf_take (f : ByteArray → Bool) (l : List E) (i : Nat) (x : E) (h : l[i]? = some x) :
    errOf f none (l.take (i + 1)) = if errOf f none (l.take i) ≠ 0 then errOf f none (l.take i) else chk f (if i = 0 then none else (l[i - 1]?).map E.path) x := by
  have e : l.take (i + 1) = l.take i ++ [x] := by rw [List.take_add_one, h]; rfl
  rw [e, errOf_append]
  congr 2
  have hlt := (List.getElem?_eq_some_iff.1 h).1
  by_cases hi : i = 0
  · subst hi; rfl
  · rw [if_neg hi, List.getLast?_take, if_neg hi]
    have h1 : l[i - 1]? = some (l[i - 1]'(by omega)) := List.getElem?_eq_getElem (by omega)
    rw [h1]; rfl
/-- a list without an error is strictly ordered. -/
theorem errOf_sorted (f : ByteArray → Bool) : ∀ (l : List E) (p : Option ByteArray), errOf f p l = 0 → (∀ q, p = some q → ∀ x ∈ l, cmpL q.data.toList x.path.data.toList < 0) ∧ l.Pairwise (fun x y => cmpL x.path.data.toList y.path.data.toList < 0)
  | [], _, _ => ⟨fun _ _ _ h => (by cases h), List.Pairwise.nil⟩
  | x :: l, p, h => by
    simp only [errOf] at h
    by_cases hc : chk f p x = 0
    · rw [if_neg (fun g => g hc)] at h
      obtain ⟨h1, h2⟩ := errOf_sorted f l (some x.path) h
      refine ⟨fun q hq y hy => ?_, List.pairwise_cons.2 ⟨fun y hy => h1 _ rfl y hy, h2⟩⟩
      have hl : lateB p x.path = false := by
        cases hl : lateB p x.path with
        | false => rfl
        | true =>
          unfold chk at hc
          rw [hl] at hc
          by_cases hf : f x.path = false
          · rw [if_pos hf] at hc; cases hc
          · rw [if_neg hf, if_pos rfl] at hc; cases hc
      subst hq
      have hx : cmpL q.data.toList x.path.data.toList < 0 := by
        unfold lateB at hl
        have := of_decide_eq_false hl
        omega
      rcases List.mem_cons.1 hy with rfl | hy
      · exact hx
      · exact cmpL_trans hx (h1 _ rfl y hy)
    · rw [if_pos hc] at h; exact absurd h hc
end Go.Proofs.Kl
