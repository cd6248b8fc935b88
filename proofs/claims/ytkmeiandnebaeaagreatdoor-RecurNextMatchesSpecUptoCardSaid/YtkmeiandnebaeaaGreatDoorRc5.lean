/- recur: lists that are built step by step. -/
import Derived.Test.YtkmeiandnebaeaaGreatDoorRc4
namespace Go.Vm
set_option linter.unusedSimpArgs false
set_option linter.unusedVariables false
set_option maxHeartbeats 4000000

def pickC (picks : List Int) (len i : Nat) : Bool := decide (picks = []) || (picks.contains ((i : Int) + 1) || picks.contains ((i : Int) - len))
/-- The picked ones of a list, whose first place is i. -/
def pickG (picks : List Int) (len : Nat) : Nat → List Int → List Int
  | _, [] => []
  | i, n :: l => if pickC picks len i = true then n :: pickG picks len (i + 1) l else pickG picks len (i + 1) l
theorem pickG_all (len : Nat) : ∀ (i : Nat) (l : List Int), pickG [] len i l = l
  | _, [] => rfl
  | i, n :: l => by unfold pickG; rw [if_pos (by simp [pickC]), pickG_all len (i + 1) l]
theorem pickG_from {picks : List Int} (h : picks ≠ []) (len : Nat) : ∀ (i : Nat) (l : List Int), pickG picks len i l = pickFrom picks len i l
  | _, [] => rfl
  | i, n :: l => by
    unfold pickG pickFrom
    rw [pickG_from h len (i + 1) l]
    simp [pickC, h]
theorem pickS_eq (picks l : List Int) : pickS picks l = pickG picks l.length 0 l := by
  unfold pickS
  by_cases h : picks = []
  · subst h; rw [if_pos rfl, pickG_all]
  · rw [if_neg h, pickG_from h]
theorem pickG_snoc (picks : List Int) (len : Nat) (x : Int) : ∀ (i : Nat) (l : List Int), pickG picks len i (l ++ [x]) = pickG picks len i l ++ (if pickC picks len (i + l.length) = true then [x] else [])
  | i, [] => by simp only [List.nil_append, pickG, List.length_nil, Nat.add_zero]
  | i, n :: l => by
    have ih := pickG_snoc picks len x (i + 1) l
    simp only [List.cons_append, pickG, ih, List.length_cons]
    rw [show i + 1 + l.length = i + (l.length + 1) from by omega]
    split <;> rfl

/-- One more element at the end of a list of at most so many. -/
theorem take_snoc (l : List Int) (x : Int) (m : Nat) : (l ++ [x]).take m = if (l.take m).length < m then l.take m ++ [x] else l.take m := by
  simp only [List.length_take]
  split
  · rw [List.take_of_length_le (by simp; omega), List.take_of_length_le (by omega)]
  · rw [List.take_append_of_le_length (by omega)]

theorem cand_snoc (r : Ru) (s : Int) {a b : Int} (h : a ≤ b) : (ints a (b + 1)).filter (fun n => fitD r (dyS s) (dyS n)) = (ints a b).filter (fun n => fitD r (dyS s) (dyS n)) ++ (if fitD r (dyS s) (dyS b) = true then [b] else []) := by
  rw [ints_snoc h, List.filter_append]
  congr 1
  by_cases c : fitD r (dyS s) (dyS b) = true
  · rw [if_pos c]; simp [c]
  · rw [if_neg c]; simp [c]

/-- The days that the reference takes of a period's list: the first ones of those that are wanted. -/
def midB (r : Ru) (s n : Int) : Bool := decide (s ≤ n ∧ n ≤ lastS r s)
theorem ref_take (r : Ru) (s : Int) (A : List Int) (m : Nat) (picks fit : List Int) (i : Nat) (hi : i < fit.length) :
    ((A ++ (pickG picks fit.length 0 (fit.take (i + 1))).filter (midB r s)).take m) =
      if pickC picks fit.length i = true ∧ midB r s fit[i] = true ∧ ((A ++ (pickG picks fit.length 0 (fit.take i)).filter (midB r s)).take m).length < m
      then (A ++ (pickG picks fit.length 0 (fit.take i)).filter (midB r s)).take m ++ [fit[i]] else (A ++ (pickG picks fit.length 0 (fit.take i)).filter (midB r s)).take m := by
  rw [List.take_succ_eq_append_getElem hi, pickG_snoc]
  have e : 0 + (fit.take i).length = i := by simp; omega
  rw [e, List.filter_append, ← List.append_assoc]
  by_cases c1 : pickC picks fit.length i = true
  · rw [if_pos c1]
    by_cases c2 : midB r s fit[i] = true
    · rw [List.filter_cons_of_pos c2, List.filter_nil, take_snoc]
      split
      · rename_i c3; rw [if_pos ⟨c1, c2, c3⟩]
      · rename_i c3; rw [if_neg (fun q => c3 q.2.2)]
    · rw [List.filter_cons_of_neg c2, List.filter_nil, List.append_nil, if_neg (fun q => c2 q.2.1)]
  · rw [if_neg c1, List.filter_nil, List.append_nil, if_neg (fun q => c1 q.1)]
theorem ref_next {r : Ru} {s : Int} {most k : Nat} (h1 : 1 ≤ r.step) (h : (k : Int) % r.step = 0) :
    refS r s most (k + r.step.toNat) = (((preS r s k).filter (midB r s)) ++ (pickG r.picks (cand r s k).length 0 ((cand r s k).take (cand r s k).length)).filter (midB r s)).take (mostS r most) := by
  obtain ⟨j, hj⟩ : ∃ j, r.step.toNat = j + 1 := ⟨r.step.toNat - 1, by omega⟩
  unfold refS
  rw [hj, preS_step h1 h j (by omega), List.filter_append, List.take_length, ← pickS_eq]
  unfold gS
  rw [if_pos h]
  rfl

/-- The candidates of the k-th period that lie ahead of a day. -/
def curS (r : Ru) (s : Int) (k : Nat) (n : Int) : List Int := if (k : Int) % r.step = 0 then (ints (pf r.unit s k) n).filter (fun n => fitD r (dyS s) (dyS n)) else []
theorem curS_start (r : Ru) (s : Int) (k : Nat) : curS r s k (pf r.unit s k) = [] := by
  unfold curS
  rw [ints_nil (Int.le_refl _)]
  split <;> rfl
theorem curS_next (r : Ru) (s : Int) (k : Nat) {n : Int} (h : pf r.unit s k ≤ n) :
    curS r s k (n + 1) = curS r s k n ++ (if (k : Int) % r.step = 0 ∧ fitD r (dyS s) (dyS n) = true then [n] else []) := by
  unfold curS
  by_cases c : (k : Int) % r.step = 0
  · rw [if_pos c, if_pos c, cand_snoc r s h]
    congr 1
    by_cases c2 : fitD r (dyS s) (dyS n) = true
    · rw [if_pos c2, if_pos ⟨c, c2⟩]
    · rw [if_neg c2, if_neg (fun q => c2 q.2)]
  · rw [if_neg c, if_neg c, if_neg (fun q => c q.1)]; rfl
theorem curS_end (r : Ru) (s : Int) (k : Nat) {n : Int} (h : n = pf r.unit s (k + 1) ∨ (n = maxD + 1 ∧ n ≤ pf r.unit s (k + 1))) (h2 : n ≤ maxD + 1) : pickS r.picks (curS r s k n) = gS r s k := by
  have e : min (pf r.unit s ((k : Int) + 1)) (maxD + 1) = n := by omega
  unfold curS gS
  split
  · unfold cand; rw [e]
  · unfold pickS; split <;> rfl

end Go.Vm
