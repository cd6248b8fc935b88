/- recur: the faults of rules. -/
import Derived.Test.YtkmeiandnebaeaaGreatDoorRc3
namespace Go.Vm
set_option linter.unusedSimpArgs false
set_option linter.unusedVariables false
set_option maxHeartbeats 4000000

/-- The code of a list's fault: the elements are held against those ahead of them. -/
def chkS {α : Type} [DecidableEq α] (ok : α → Bool) : List α → List α → Int
  | _, [] => 0
  | pre, x :: l => if ok x = false then 4 else if x ∈ pre then 8 else chkS ok (pre ++ [x]) l
def checkS {α : Type} [DecidableEq α] (ok : α → Bool) (l : List α) : Int := if 12 < l.length then 2 else chkS ok [] l
def okM (n : Int) : Bool := decide (1 ≤ n ∧ n ≤ 12)
def okS (most n : Int) : Bool := decide (n ≠ 0 ∧ -most ≤ n ∧ n ≤ most)
def okW (w : Int × Int) : Bool := decide (0 ≤ w.1 ∧ w.1 ≤ 6 ∧ -5 ≤ w.2 ∧ w.2 ≤ 5)
def inC (n a b : Int) : Int := if n < a ∨ b < n then 4 else 0
def codesR (r : Ru) : List Int :=
  [if r.unit < 1 ∨ 4 < r.unit then 5 else 0, inC r.step 1 1000, checkS okM r.months, checkS (okS 31) r.mdays, checkS okW r.wds, checkS (okS 366) r.picks, inC r.count 0 20001, inC r.til 0 3652059]
def firstC : Nat → List Int → Int × Int
  | _, [] => (0, 0)
  | i, c :: l => if c ≠ 0 then (c, i) else firstC (i + 1) l
def ruleF (r : Ru) : Int × Int := firstC 0 (codesR r)

theorem firstC_zero : ∀ {i : Nat} {l : List Int}, (firstC i l).1 = 0 → firstC i l = (0, 0) ∧ ∀ c ∈ l, c = 0
  | i, [], _ => ⟨rfl, by simp⟩
  | i, c :: l, h => by
    unfold firstC at h ⊢
    by_cases e : c ≠ 0
    · rw [if_pos e] at h; exact absurd h e
    · rw [if_neg e] at h ⊢
      obtain ⟨h1, h2⟩ := firstC_zero h
      exact ⟨h1, fun x hx => by
        rcases List.mem_cons.mp hx with rfl | hx
        · simpa using e
        · exact h2 x hx⟩
theorem chkS_zero {α : Type} [DecidableEq α] {ok : α → Bool} : ∀ {pre l : List α}, chkS ok pre l = 0 → ∀ x ∈ l, ok x = true
  | pre, [], _, x, hx => (List.not_mem_nil hx).elim
  | pre, y :: l, h, x, hx => by
    unfold chkS at h
    split at h
    · cases h
    · rename_i c
      split at h
      · cases h
      · rcases List.mem_cons.mp hx with rfl | hx
        · simpa using c
        · exact chkS_zero h x hx
theorem checkS_zero {α : Type} [DecidableEq α] {ok : α → Bool} {l : List α} (h : checkS ok l = 0) : l.length ≤ 12 ∧ ∀ x ∈ l, ok x = true := by
  unfold checkS at h
  split at h
  · cases h
  · exact ⟨by omega, chkS_zero h⟩
theorem inC_zero {n a b : Int} (h : inC n a b = 0) : a ≤ n ∧ n ≤ b := by
  unfold inC at h
  split at h
  · cases h
  · omega

/-- A rule without fault. -/
structure Ru.ok (r : Ru) : Prop where
  unit : 1 ≤ r.unit ∧ r.unit ≤ 4
  step : 1 ≤ r.step ∧ r.step ≤ 1000
  months : r.months.length ≤ 12 ∧ ∀ x ∈ r.months, 1 ≤ x ∧ x ≤ 12
  mdays : r.mdays.length ≤ 12 ∧ ∀ x ∈ r.mdays, -31 ≤ x ∧ x ≤ 31
  wds : r.wds.length ≤ 12 ∧ ∀ x ∈ r.wds, (0 ≤ x.1 ∧ x.1 ≤ 6) ∧ -5 ≤ x.2 ∧ x.2 ≤ 5
  picks : r.picks.length ≤ 12 ∧ ∀ x ∈ r.picks, -366 ≤ x ∧ x ≤ 366
  count : 0 ≤ r.count ∧ r.count ≤ 20001
  til : 0 ≤ r.til ∧ r.til ≤ 3652059
theorem ruleF_ok {r : Ru} (h : ¬ (ruleF r).1 ≠ 0) : ruleF r = (0, 0) ∧ r.ok := by
  obtain ⟨h1, h2⟩ := firstC_zero (Classical.not_not.mp h)
  refine ⟨h1, ?_⟩
  simp only [codesR, List.mem_cons, List.not_mem_nil, or_false] at h2
  have q0 := h2 _ (.inl rfl)
  have q1 := inC_zero (h2 _ (.inr (.inl rfl)))
  have q2 := checkS_zero (h2 _ (.inr (.inr (.inl rfl))))
  have q3 := checkS_zero (h2 _ (.inr (.inr (.inr (.inl rfl)))))
  have q4 := checkS_zero (h2 _ (.inr (.inr (.inr (.inr (.inl rfl))))))
  have q5 := checkS_zero (h2 _ (.inr (.inr (.inr (.inr (.inr (.inl rfl)))))))
  have q6 := inC_zero (h2 _ (.inr (.inr (.inr (.inr (.inr (.inr (.inl rfl))))))))
  have q7 := inC_zero (h2 _ (.inr (.inr (.inr (.inr (.inr (.inr (.inr rfl))))))))
  refine ⟨?_, q1, ⟨q2.1, fun x hx => ?_⟩, ⟨q3.1, fun x hx => ?_⟩, ⟨q4.1, fun x hx => ?_⟩, ⟨q5.1, fun x hx => ?_⟩, q6, q7⟩
  · split at q0
    · cases q0
    · omega
  · have := q2.2 x hx; simpa [okM] using this
  · have := q3.2 x hx; simp [okS] at this; omega
  · have := q4.2 x hx; simp [okW] at this; omega
  · have := q5.2 x hx; simp [okS] at this; omega

end Go.Vm
