/- recur: the laws of lists of days in plain words. -/
import Derived.Test.YtkmeiandnebaeaaGreatDoorRc2
namespace Go.Vm
set_option linter.unusedSimpArgs false
set_option linter.unusedVariables false
set_option maxHeartbeats 4000000

theorem preS_congr {r r' : Ru} {s : Int} (h : ∀ k, gS r s k = gS r' s k) : ∀ k, preS r s k = preS r' s k
  | 0 => rfl
  | k + 1 => by rw [preS, preS, preS_congr h k, h k]
theorem mem_preS_iff {r : Ru} {s n : Int} : ∀ {k : Nat}, n ∈ preS r s k ↔ ∃ i, i < k ∧ n ∈ gS r s i
  | 0 => by simp [preS]
  | k + 1 => by
    rw [preS, List.mem_append, mem_preS_iff]
    constructor
    · rintro (⟨i, h1, h2⟩ | h)
      · exact ⟨i, by omega, h2⟩
      · exact ⟨k, by omega, h⟩
    · rintro ⟨i, h1, h2⟩
      rcases Nat.lt_or_ge i k with h | h
      · exact .inl ⟨i, h, h2⟩
      · have : i = k := by omega
        subst this; exact .inr h2

/-! Prefixes. -/
theorem list_len (r : Ru) (s : Int) (most : Nat) : (listS r s most).length ≤ most := by rw [list_take]; simp; omega
theorem list_pre (r : Ru) (s : Int) {less most : Nat} (h : less ≤ most) : (listS r s most).take (listS r s less).length = listS r s less ∧ (listS r s less).length ≤ (listS r s most).length ∧
    ((listS r s less).length < less → (listS r s less).length = (listS r s most).length) := by
  rw [list_take, list_take]
  refine ⟨?_, by simp only [List.length_take]; omega, by simp only [List.length_take]; omega⟩
  rw [List.take_take, List.take_eq_take_iff]
  simp only [List.length_take]
  omega
theorem inc_get {l : List Int} (h : l.Pairwise (· < ·)) {i j : Nat} (hij : i < j) (hj : j < l.length) : l[i]'(by omega) < l[j] := (List.pairwise_iff_getElem.mp h) i j (by omega) hj hij
theorem list_inc (r : Ru) (s : Int) (most : Nat) : (listS r s most).Pairwise (· < ·) := by
  rw [list_take]; exact (days_inc r s).sublist (List.take_sublist _ _)
theorem days_pos {r : Ru} {s n : Int} (h : n ∈ daysS r s) : s ≤ n ∧ n ≤ lastS r s := by
  have : n ∈ allS r s := by
    unfold daysS at h
    split at h
    · exact List.mem_of_mem_take h
    · exact h
  simpa using (List.mem_filter.mp this).2
theorem next_at {l : List Int} (h : l.Pairwise (· < ·)) {i : Nat} (hi : i + 1 < l.length) : nextOf (l[i]'(by omega)) l = l[i + 1] := by
  unfold nextOf
  have hf : l.find? (fun n => decide (l[i]'(by omega) < n)) = some l[i + 1] := by
    rw [List.find?_eq_some_iff_getElem]
    refine ⟨by simpa using inc_get h (Nat.lt_succ_self i) hi, i + 1, hi, rfl, fun j hj => ?_⟩
    rcases Nat.lt_or_ge j i with h1 | h1
    · have := inc_get h h1 (by omega)
      simp; omega
    · have : j = i := by omega
      subst this; simp
  rw [hf]; rfl
theorem next_list {r : Ru} {s : Int} {most i : Nat} (hi : i + 1 < (listS r s most).length) : nextOf ((listS r s most)[i]'(by omega)) (daysS r s) = (listS r s most)[i + 1] := by
  have e := list_take r s most
  have hl : i + 1 < (daysS r s).length := by rw [e] at hi; simp at hi; omega
  have h1 : (listS r s most)[i]'(by omega) = (daysS r s)[i]'(by omega) := by simp only [e, List.getElem_take]
  have h2 : (listS r s most)[i + 1] = (daysS r s)[i + 1] := by simp only [e, List.getElem_take]
  rw [h1, h2]
  exact next_at (days_inc r s) hl

/-! Count and Until. -/
theorem gS_count (r : Ru) (s : Int) (c u : Int) (k : Nat) : gS { r with count := c, til := u } s k = gS r s k := rfl
theorem allS_count (r : Ru) (s : Int) (c : Int) : allS { r with count := c } s = allS r s := by
  unfold allS
  rw [preS_congr (r := { r with count := c }) (r' := r) (fun k => rfl)]
  rfl
theorem cut_count (r : Ru) (s : Int) {c : Int} (hc : 0 < c) (hr : r.count = 0) (m : Nat) : listS { r with count := c } s m = (listS r s m).take c.toNat := by
  unfold listS
  rw [allS_count]
  unfold mostS
  rw [if_pos hc, if_neg (by omega), List.take_take, Nat.min_comm]
theorem take_while {u : Int} : ∀ {l : List Int} (m : Nat), l.Pairwise (· < ·) → (l.filter fun n => decide (n ≤ u)).take m = (l.take m).takeWhile fun n => decide (n ≤ u)
  | [], m, _ => by simp
  | n :: l, m, h => by
    obtain ⟨h1, h2⟩ := inc_tail h
    cases m with
    | zero => simp
    | succ m =>
      by_cases c : n ≤ u
      · rw [List.filter_cons_of_pos (by simpa using c), List.take_succ_cons, List.take_succ_cons, List.takeWhile_cons_of_pos (by simpa using c), take_while m h2]
      · rw [List.take_succ_cons, List.takeWhile_cons_of_neg (by simpa using c)]
        have : (n :: l).filter (fun n => decide (n ≤ u)) = [] := by
          rw [List.filter_eq_nil_iff]
          intro x hx
          rcases List.mem_cons.mp hx with rfl | hx
          · simpa using c
          · have := h1 x hx; simp; omega
        rw [this]; rfl
theorem cut_until (r : Ru) (s : Int) {u : Int} (hu : 0 < u) (hr : r.til = 0) (m : Nat) (hc : r.count = 0) : listS { r with til := u } s m = (listS r s m).takeWhile fun n => decide (n ≤ u) := by
  have e : allS { r with til := u } s = (allS r s).filter fun n => decide (n ≤ u) := by
    unfold allS
    rw [preS_congr (r := { r with til := u }) (r' := r) (fun k => rfl), List.filter_filter]
    congr 1
    funext n
    unfold lastS
    simp only [hr, if_pos hu, if_neg (show ¬ (0 : Int) < 0 from by omega)]
    rw [Bool.eq_iff_iff, Bool.and_eq_true, decide_eq_true_eq, decide_eq_true_eq, decide_eq_true_eq]
    omega
  show (allS { r with til := u } s).take (if 0 < r.count then min m r.count.toNat else m) = ((allS r s).take (if 0 < r.count then min m r.count.toNat else m)).takeWhile _
  rw [if_neg (by omega), e, take_while m (allS_inc r s)]

/-! Steps. -/
theorem gS_step {r : Ru} {s t : Int} (k : Nat) {n : Int} (h : n ∈ gS { r with step := r.step * t } s k) : n ∈ gS r s k := by
  unfold gS at h ⊢
  split at h
  · rename_i c
    rw [if_pos]
    · exact h
    · rw [← Int.emod_emod_of_dvd (k : Int) (Int.dvd_mul_right r.step t), c, Int.zero_emod]
  · exact (List.not_mem_nil h).elim
theorem all_step {r : Ru} {s t n : Int} (h : n ∈ allS { r with step := r.step * t } s) : n ∈ allS r s := by
  unfold allS at h ⊢
  obtain ⟨h1, h2⟩ := List.mem_filter.mp h
  obtain ⟨i, h3, h4⟩ := mem_preS_iff.mp h1
  exact List.mem_filter.mpr ⟨mem_preS_iff.mpr ⟨i, h3, gS_step i h4⟩, h2⟩

/-! Restrictions. -/
theorem gS_months {r : Ru} (s : Int) (hp : r.picks = []) (hm : r.months ≠ []) (hd : r.mdays ≠ [] ∨ r.wds ≠ []) (k : Nat) :
    gS r s k = (gS { r with months := [] } s k).filter fun n => r.months.contains (dateRef n).2.1 := by
  unfold gS
  simp only [hp, pickS, if_true]
  split
  · unfold cand
    rw [List.filter_filter]
    congr 1
    funext n
    unfold fitD
    simp only [ne_eq, hm, not_false_eq_true, true_and, not_true_eq_false, false_and, if_false]
    have e : (dyS n).m = (dateRef n).2.1 := rfl
    rw [e]
    cases hc : r.months.contains (dateRef n).2.1 with
    | false => simp
    | true =>
      rcases hd with hd | hd
      · simp [hd]
      · simp [hd]
  · rfl
theorem preS_months {r : Ru} (s : Int) (hp : r.picks = []) (hm : r.months ≠ []) (hd : r.mdays ≠ [] ∨ r.wds ≠ []) : ∀ k : Nat,
    preS r s k = (preS { r with months := [] } s k).filter fun n => r.months.contains (dateRef n).2.1
  | 0 => rfl
  | k + 1 => by rw [preS, preS, preS_months s hp hm hd k, gS_months s hp hm hd k, List.filter_append]
theorem all_months {r : Ru} (s : Int) (hp : r.picks = []) (hm : r.months ≠ []) (hd : r.mdays ≠ [] ∨ r.wds ≠ []) :
    allS r s = (allS { r with months := [] } s).filter fun n => r.months.contains (dateRef n).2.1 := by
  unfold allS
  rw [preS_months s hp hm hd, List.filter_filter, List.filter_filter]
  congr 1
  funext n
  rw [Bool.and_comm]; rfl

end Go.Vm
