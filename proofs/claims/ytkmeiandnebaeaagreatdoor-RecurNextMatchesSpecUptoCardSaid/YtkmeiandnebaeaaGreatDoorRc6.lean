/- recur: from day to day. -/
import Derived.Test.YtkmeiandnebaeaaGreatDoorRc5
namespace Go.Vm
set_option linter.unusedSimpArgs false
set_option linter.unusedVariables false
set_option maxHeartbeats 4000000

theorem date_add {n j : Int} (h : 1 ≤ n) (h0 : 0 ≤ j) (hj : (dateRef n).2.2 + j ≤ dim (dateRef n).1 (dateRef n).2.1) : dateRef (n + j) = ((dateRef n).1, (dateRef n).2.1, (dateRef n).2.2 + j) := by
  obtain ⟨hv, he⟩ := dateRef_okG h
  have e : n + j = dayOf (dateRef n).1 (dateRef n).2.1 ((dateRef n).2.2 + j) := by
    unfold dayOf at he ⊢; omega
  rw [e]
  exact dateRef_dayRef ⟨hv.1, hv.2.1, hv.2.2.1, by have := hv.2.2.2.1; omega, hj⟩
theorem date_over {n j : Int} (h : 1 ≤ n) (hj : (dateRef n).2.2 + j = dim (dateRef n).1 (dateRef n).2.1 + 1) : (dateRef (n + j)).2.1 ≠ (dateRef n).2.1 := by
  obtain ⟨hv, he⟩ := dateRef_okG h
  have hd := hv.2.2.2.2
  obtain ⟨h1, h2⟩ := day_in hv
  rw [he] at h1
  have hs := mStart_succ (12 * (dateRef n).1 + ((dateRef n).2.1 - 1))
  have hs2 := mStart_succ (12 * (dateRef n).1 + ((dateRef n).2.1 - 1) + 1)
  have hdl := dim_le ((12 * (dateRef n).1 + ((dateRef n).2.1 - 1) + 1) / 12) ((12 * (dateRef n).1 + ((dateRef n).2.1 - 1) + 1) % 12 + 1)
  have e1 : (12 * (dateRef n).1 + ((dateRef n).2.1 - 1)) / 12 = (dateRef n).1 := by have := hv.2.1; have := hv.2.2.1; omega
  have e2 : (12 * (dateRef n).1 + ((dateRef n).2.1 - 1)) % 12 + 1 = (dateRef n).2.1 := by have := hv.2.1; have := hv.2.2.1; omega
  rw [e1, e2] at hs
  have := (month_iff (n := n + j) (j := 12 * (dateRef n).1 + ((dateRef n).2.1 - 1) + 1) (by omega)).mpr (by omega)
  have hv2 := (dateRef_okG (day := n + j) (by omega)).1
  have a1 := hv2.2.1
  have a2 := hv2.2.2.1
  have a3 := hv.2.1
  have a4 := hv.2.2.1
  omega

theorem dy_next {n : Int} (h : 1 ≤ n) (hl : 1 < (dyS n).l) : dyS (n + 1) = ⟨n + 1, (dyS n).y, (dyS n).m, (dyS n).d + 1, (dyS n).l - 1, ((dyS n).w + 1) % 7⟩ := by
  have hd : (dateRef n).2.2 + 1 ≤ dim (dateRef n).1 (dateRef n).2.1 := by unfold dyS at hl; simp only at hl; omega
  have e := date_add h (by omega : (0 : Int) ≤ 1) hd
  unfold dyS
  simp only [e]
  congr 1
  · omega
  · omega
theorem dy_bnd {n : Int} (h1 : 1 ≤ n) (h2 : n ≤ 3652059) : (1 ≤ (dyS n).y ∧ (dyS n).y ≤ 9999) ∧ (1 ≤ (dyS n).m ∧ (dyS n).m ≤ 12) ∧ (1 ≤ (dyS n).d ∧ (dyS n).d ≤ 31) ∧ (1 ≤ (dyS n).l ∧ (dyS n).l ≤ 31) ∧ 0 ≤ (dyS n).w ∧ (dyS n).w ≤ 6 := by
  obtain ⟨hv, he⟩ := dateRef_ok h1 h2
  obtain ⟨a1, a2, a3, a4, a5, a6⟩ := hv
  have hd := dim_le (dateRef n).1 (dateRef n).2.1
  unfold dyS
  simp only
  omega

end Go.Vm
