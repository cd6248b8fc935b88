/- What Merge is made of, as plain functions. -/
import Derived.Test.YtfoigidddlboaaaHq6
import Derived.Test.YtfoigidddlboaaaVmS
namespace Go.Vm
open Proofs
set_option maxRecDepth 10000
set_option maxHeartbeats 1000000
set_option linter.unusedSimpArgs false

def idxFrom {α : Type} (p : α → Bool) : Nat → List α → Int
  | _, [] => -1
  | i, x :: r => if p x then i else idxFrom p (i + 1) r

theorem idxFrom_any {α : Type} (p : α → Bool) : ∀ (i : Nat) (l : List α), decide (0 ≤ idxFrom p i l) = l.any p
  | i, [] => by simp [idxFrom]
  | i, x :: r => by
    simp only [idxFrom, List.any_cons]
    by_cases h : p x = true
    · simp [h]
    · have h' : p x = false := by simpa using h
      simp [h', idxFrom_any p (i + 1) r]

theorem smaller_V (a b : Int) (h : List Blk) : CallP Try.prog 37 [.d (.int .i64 a), .d (.int .i64 b)] h (.d (.bool (decide (a < b)))) := by
  refine callW tb_ok fn37 (by simp) (fun hok => ?_)
  simp [c37]

/-- What the closure of least asks of a list: does it begin with something smaller than l does? -/
def headLt {α : Type} (less : α → α → Bool) (l other : List α) : Bool := match other, l with
  | y :: _, x :: _ => less y x
  | _, _ => false

/-- least: from a position on; first: the first position of a list that is not empty, or -1. -/
def leastFrom {α : Type} (less : α → α → Bool) (first : Int) : List (List α) → List (List α) → Int
  | _, [] => first
  | pre, l :: rest => if l = [] then leastFrom less first (pre ++ [l]) rest else
      let f := if first < 0 then (pre.length : Int) else first
      if (pre ++ rest).any (headLt less l) then leastFrom less f (pre ++ [l]) rest else pre.length

theorem drop_mid {α : Type} {a b : List α} {x : α} {n : Nat} (h : n = a.length + (b.length + 1)) : List.drop (a.length + 1) (List.take n (a ++ x :: b)) = b := by
  rw [List.take_of_length_le (by simp; omega), ← List.drop_drop]
  simp

def total {α : Type} : List (List α) → Nat
  | [] => 0
  | l :: r => l.length + total r

/-- Merge, so many steps. -/
def mergeF {α : Type} [Inhabited α] (less : α → α → Bool) : Nat → List (List α) → List α
  | 0, _ => []
  | n + 1, ls => if leastFrom less (-1) [] ls < 0 then [] else
      let k := (leastFrom less (-1) [] ls).toNat
      (ls.getD k []).headD default :: mergeF less n (ls.set k ((ls.getD k []).drop 1))

theorem leastFrom_none {α : Type} (less : α → α → Bool) : ∀ (rest pre : List (List α)) (first : Int), leastFrom less first pre rest < 0 → first < 0 ∧ ∀ l ∈ rest, l = []
  | [], pre, first, h => ⟨by simpa [leastFrom] using h, by simp⟩
  | l :: rest, pre, first, h => by
    simp only [leastFrom] at h
    split at h
    · rename_i he
      have := leastFrom_none less rest _ _ h
      exact ⟨this.1, by simpa [he] using this.2⟩
    · split at h
      · have h1 := (leastFrom_none less rest _ _ h).1
        split at h1 <;> omega
      · omega

theorem leastFrom_at {α : Type} (less : α → α → Bool) : ∀ (rest pre : List (List α)) (first : Int), (0 ≤ first → ∃ l, (pre ++ rest)[first.toNat]? = some l ∧ l ≠ []) → 0 ≤ leastFrom less first pre rest →
    ∃ l, (pre ++ rest)[(leastFrom less first pre rest).toNat]? = some l ∧ l ≠ []
  | [], pre, first, hf, h => by simp only [leastFrom] at h ⊢; exact hf h
  | l :: rest, pre, first, hf, h => by
    have happ : pre ++ l :: rest = (pre ++ [l]) ++ rest := by simp
    simp only [leastFrom] at h ⊢
    split
    · rename_i he
      rw [if_pos he] at h
      rw [happ] at hf ⊢
      exact leastFrom_at less rest _ _ hf h
    · rename_i he
      rw [if_neg he] at h
      split
      · rename_i ha
        rw [if_pos ha] at h
        rw [happ] at hf ⊢
        refine leastFrom_at less rest _ _ (fun h0 => ?_) h
        split
        · refine ⟨l, ?_, he⟩
          simp
        · rename_i h1
          exact hf (by omega)
      · refine ⟨l, ?_, he⟩
        simp

theorem total_zero {α : Type} : ∀ {ls : List (List α)}, (∀ l ∈ ls, l = []) → total ls = 0
  | [], _ => rfl
  | l :: ls, h => by
    have h1 := h l (by simp)
    subst h1
    simp [total, total_zero (ls := ls) (fun l hl => h l (by simp [hl]))]

theorem total_set {α : Type} : ∀ {ls : List (List α)} {k : Nat} {x : α} {r : List α}, ls[k]? = some (x :: r) → total (ls.set k r) + 1 = total ls
  | [], k, x, r, h => by simp at h
  | l :: ls, 0, x, r, h => by
    simp at h
    subst h
    simp [total]
    omega
  | l :: ls, k + 1, x, r, h => by
    have := total_set (ls := ls) (k := k) (x := x) (r := r) (by simpa using h)
    simp [total]
    omega

theorem mergeF_none {α : Type} [Inhabited α] (less : α → α → Bool) (n : Nat) {ls : List (List α)} (h : leastFrom less (-1) [] ls < 0) : mergeF less n ls = [] := by
  cases n with
  | zero => rfl
  | succ n => rw [mergeF, if_pos h]

theorem mergeF_some {α : Type} [Inhabited α] (less : α → α → Bool) {ls : List (List α)} {x : α} {r : List α} {k : Nat} (h : leastFrom less (-1) [] ls = (k : Int)) (hk : ls[k]? = some (x :: r)) :
    mergeF less (total ls) ls = x :: mergeF less (total (ls.set k r)) (ls.set k r) := by
  have ht := total_set hk
  rw [← ht, mergeF, if_neg (by omega)]
  simp [h, hk]

theorem mapset_row {α : Type} (enc : List α → D) (ls : List (List α)) (k : Nat) (r : List α) : (ls.map fun l => AV.d (enc l)).set k (.d (enc r)) = (ls.set k r).map fun l => AV.d (enc l) := by
  rw [List.map_set]

end Go.Vm
