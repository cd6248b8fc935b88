/- date: the laws of WeeksInverse, DaysFollow, MonthsAdd, SpansAddUp, Between. -/
import Derived.Test.YtjjpkeajlgbleaaDoorDt15
namespace Go.Vm
open Proofs
set_option maxRecDepth 20000
set_option maxHeartbeats 4000000
set_option linter.unusedSimpArgs false

theorem weekS_in {m : Mo} (hm : m.ok) : ∃ z, weekS m.y m.day = (z, (m.day - fm z) / 7 + 1) ∧ fm z ≤ m.day ∧ m.day < fm (z + 1) ∧ 1 ≤ z ∧ z ≤ 9999 := by
  have hr := Mo.day_range hm
  have hb : dB m.y < m.day ∧ m.day ≤ dB (m.y + 1) := dayOf_bnd hm.1.g
  obtain ⟨⟨h1, h2, h3, h4, h5, h6⟩, _⟩ := hm
  have f0 := fm_bnd m.y
  have f1 := fm_bnd (m.y + 1)
  have f2 := fm_bnd (m.y - 1)
  have f3 := fm_bnd (m.y + 1 + 1)
  have hs := dB_succ (m.y - 1)
  have hn := leapN_le (m.y - 1)
  have hs1 := dB_succ m.y
  have hn1 := leapN_le m.y
  have hs2 := dB_succ (m.y + 1)
  have hn2 := leapN_le (m.y + 1)
  rw [Int.sub_add_cancel] at hs
  unfold weekS
  by_cases a1 : m.day < fm m.y
  · have e : m.y - 1 + 1 = m.y := by omega
    have hy : m.y ≠ 1 := fun e => by rw [e, fm_one] at a1; omega
    simp only [if_pos a1]
    exact ⟨m.y - 1, rfl, by omega, by rw [e]; exact a1, by omega, by omega⟩
  · by_cases a2 : fm (m.y + 1) ≤ m.day
    · have hy : m.y ≠ 9999 := fun e => by
        rw [e] at a2
        have : fm (9999 + 1) = 3652062 := by decide +kernel
        omega
      simp only [if_neg a1, if_pos a2]
      exact ⟨m.y + 1, rfl, a2, by omega, by omega, by omega⟩
    · simp only [if_neg a1, if_neg a2]
      exact ⟨m.y, rfl, by omega, by omega, h1, h2⟩

theorem frD_day {m : Mo} (hm : m.ok) : frD m.day = ⟨m.y, m.m, m.d, 0, 0, 0⟩ := by
  have := dateRef_dayRef hm.1.g
  unfold frD Mo.day
  rw [this]

theorem weeks_inverse {m : Mo} (hm : m.ok) : fromWeekS (weekS m.y m.day).1 (weekS m.y m.day).2 ((m.day - 1) % 7) = (⟨m.y, m.m, m.d, 0, 0, 0⟩, (0, 0)) := by
  obtain ⟨z, he, h1, h2, h3, h4⟩ := weekS_in hm
  have hr := Mo.day_range hm
  have hwk := weeks_eq z
  rw [he]
  simp only
  have hday : fm z + 7 * ((m.day - fm z) / 7 + 1 - 1) + (m.day - 1) % 7 = m.day := by
    unfold fm at h1 ⊢
    generalize dB z = b at *
    omega
  have hle : (m.day - fm z) / 7 + 1 ≤ weeksR z := by
    rw [← hwk]
    unfold fm at h1 h2 ⊢
    generalize dB z = b at *
    generalize dB (z + 1) = c at *
    omega
  unfold fromWeekS
  rw [if_neg (by omega), if_neg (by omega), if_neg (by omega), hday, if_neg (by omega), frD_day hm]

theorem law11 (m : Mo) (h : List Blk) : CallP Tryd.prog 11 [.d (encMo m)] h (.d (.bool true)) := by
  refine callW tb_ok fn11 (by simp) (fun hok => ?_)
  simp (disch := first | omega | (simp; done) | (simp; omega)) [ltT, ltF, leT, leF, eqT', eqF, ltTn, leTn, ltFn, leFn, wrapI, tdivP, tmodP, mid, c11]
  refine (momentFault_V m _).useV ?_
  by_cases h1 : (momF m).1 ≠ 0
  · simp (disch := first | omega | (simp; done) | (simp; omega)) [ltT, ltF, leT, leF, eqT', eqF, ltTn, leTn, ltFn, leFn, wrapI, tdivP, tmodP, mid, h1]
    refine (dated_V _).useV ?_
    simp (disch := first | omega | (simp; done) | (simp; omega)) [ltT, ltF, leT, leF, eqT', eqF, ltTn, leTn, ltFn, leFn, wrapI, tdivP, tmodP, mid]
    exact rshift_d hok
  obtain ⟨hz, hm⟩ := momF_ok h1
  have hi := weeks_inverse hm
  simp (disch := first | omega | (simp; done) | (simp; omega)) [ltT, ltF, leT, leF, eqT', eqF, ltTn, leTn, ltFn, leFn, wrapI, tdivP, tmodP, mid, hz]
  refine (week22_V m _).useV ?_
  rw [hz]
  simp (disch := first | omega | (simp; done) | (simp; omega)) [ltT, ltF, leT, leF, eqT', eqF, ltTn, leTn, ltFn, leFn, wrapI, tdivP, tmodP, mid]
  refine (weekday21_V m _).useV ?_
  rw [hz]
  simp (disch := first | omega | (simp; done) | (simp; omega)) [ltT, ltF, leT, leF, eqT', eqF, ltTn, leTn, ltFn, leFn, wrapI, tdivP, tmodP, mid]
  refine (fromWeek_V _ _ _ _).useV ?_
  rw [hi]
  simp (disch := first | omega | (simp; done) | (simp; omega)) [ltT, ltF, leT, leF, eqT', eqF, ltTn, leTn, ltFn, leFn, wrapI, tdivP, tmodP, mid]
  refine (dated_V _).useV ?_
  simp (disch := first | omega | (simp; done) | (simp; omega)) [ltT, ltF, leT, leF, eqT', eqF, ltTn, leTn, ltFn, leFn, wrapI, tdivP, tmodP, mid]
  exact rshift_d hok

theorem weekR_day {n : Int} (h1 : 1 ≤ n) (h2 : n ≤ 3652059) : weekS (frD n).y n = weekR n := by
  obtain ⟨hv, hd⟩ := dateRef_ok h1 h2
  have ho : (frD n).ok := ⟨hv, by show (0 : Int) ≤ 0 ∧ (0 : Int) ≤ 23; omega, by show (0 : Int) ≤ 0 ∧ (0 : Int) ≤ 59; omega, by show (0 : Int) ≤ 0 ∧ (0 : Int) ≤ 59; omega⟩
  have := weekR_weekS ho
  have e : (frD n).day = n := hd
  rw [e] at this
  exact this.symm

theorem week_next {n : Int} (h1 : 1 ≤ n) : (n % 7 = 0 → ((weekR n).1 = (weekR (n + 1)).1 ∧ (weekR (n + 1)).2 = (weekR n).2 + 1) ∨ ((weekR (n + 1)).1 = (weekR n).1 + 1 ∧ (weekR (n + 1)).2 = 1)) ∧
    (n % 7 ≠ 0 → weekR (n + 1) = weekR n) := by
  constructor
  · intro h0
    obtain ⟨th, hth⟩ : ∃ th, th = n - (n + 6) % 7 + 3 := ⟨_, rfl⟩
    have e1 : n + 1 - (n + 1 + 6) % 7 + 3 = th + 7 := by omega
    have ht : 1 ≤ th := by omega
    obtain ⟨hv, hd⟩ := dateRef_okG ht
    have hb := dayOf_bnd hv
    rw [hd] at hb
    obtain ⟨y, hy⟩ : ∃ y, (dateRef th).1 = y := ⟨_, rfl⟩
    rw [hy] at hb
    have hs := dB_succ y
    have hl := leapN_le y
    have hs1 := dB_succ (y + 1)
    have hl1 := leapN_le (y + 1)
    unfold weekR
    simp only [e1, ← hth, hy, dayOf_first]
    rcases Int.lt_or_le (dB (y + 1)) (th + 7) with c | c
    · right
      have hy2 := year_of (day := th + 7) (y := y + 1) (by omega) c (by omega)
      rw [hy2]
      exact ⟨rfl, by omega⟩
    · left
      have hy2 := year_of (day := th + 7) (y := y) (by omega) (by omega) c
      rw [hy2]
      exact ⟨rfl, by omega⟩
  · intro h0
    have e1 : n + 1 - (n + 1 + 6) % 7 + 3 = n - (n + 6) % 7 + 3 := by omega
    unfold weekR
    rw [e1]

theorem frS_day {n : Int} (h1 : 0 ≤ n) (h2 : n ≤ 315537897599) : (frS n).day = n / 86400 + 1 := (dateRef_ok (day := n / 86400 + 1) (by omega) (by omega)).2
theorem frS_week {n : Int} (h1 : 0 ≤ n) (h2 : n ≤ 315537897599) : weekS (frS n).y (n / 86400 + 1) = weekR (n / 86400 + 1) := weekR_day (n := n / 86400 + 1) (by omega) (by omega)

theorem law9 (n : Int) (h : List Blk) : CallP Tryd.prog 9 [.d (.int .i64 n)] h (.d (.bool true)) := by
  refine callW tb_ok fn9 (by simp) (fun hok => ?_)
  simp (disch := first | omega | (simp; done) | (simp; omega)) [ltT, ltF, leT, leF, eqT', eqF, ltTn, leTn, ltFn, leFn, wrapI, tdivP, tmodP, mid, c9]
  refine (in_V _ _ _ _).useV ?_
  by_cases h1 : n < 0 ∨ 315537811199 < n
  · have h3 : ¬ (0 ≤ n ∧ n ≤ 315537811199) := by omega
    simp (disch := first | omega | (simp; done) | (simp; omega)) [ltT, ltF, leT, leF, eqT', eqF, ltTn, leTn, ltFn, leFn, wrapI, tdivP, tmodP, mid, h3]
    refine (dated_V _).useV ?_
    simp (disch := first | omega | (simp; done) | (simp; omega)) [ltT, ltF, leT, leF, eqT', eqF, ltTn, leTn, ltFn, leFn, wrapI, tdivP, tmodP, mid]
  have h3 : 0 ≤ n ∧ n ≤ 315537811199 := by omega
  obtain ⟨ho, hs⟩ := frS_ok (n := n) (by omega) (by omega)
  obtain ⟨ho2, hs2⟩ := frS_ok (n := n + 86400) (by omega) (by omega)
  have hz := momF_zero ho
  have hz2 := momF_zero ho2
  have hd1 := frS_day (n := n) (by omega) (by omega)
  have hd2 := frS_day (n := n + 86400) (by omega) (by omega)
  have hw1 := frS_week (n := n) (by omega) (by omega)
  have hw2 := frS_week (n := n + 86400) (by omega) (by omega)
  have ed : (n + 86400) / 86400 + 1 = n / 86400 + 1 + 1 := by omega
  rw [ed] at hd2 hw2
  obtain ⟨D, hD⟩ : ∃ D, D = n / 86400 + 1 := ⟨_, rfl⟩
  rw [← hD] at hd1 hd2 hw1 hw2
  obtain ⟨nx, sm⟩ := week_next (n := D) (by omega)
  have wb := weekS_bnd ho
  rw [hd1, hw1] at wb
  have wb2 := weekS_bnd ho2
  rw [hd2, hw2] at wb2
  simp (disch := first | omega | (simp; done) | (simp; omega)) [ltT, ltF, leT, leF, eqT', eqF, ltTn, leTn, ltFn, leFn, wrapI, tdivP, tmodP, mid, h3]
  refine (at31_V n _).useV ?_
  rw [if_neg (by omega), if_neg (by omega)]
  simp (disch := first | omega | (simp; done) | (simp; omega)) [ltT, ltF, leT, leF, eqT', eqF, ltTn, leTn, ltFn, leFn, wrapI, tdivP, tmodP, mid]
  refine (at31_V (n + 86400) _).useV ?_
  rw [if_neg (by omega), if_neg (by omega)]
  simp (disch := first | omega | (simp; done) | (simp; omega)) [ltT, ltF, leT, leF, eqT', eqF, ltTn, leTn, ltFn, leFn, wrapI, tdivP, tmodP, mid]
  refine (weekday21_V (frS n) _).useV ?_
  rw [hz, hd1]
  simp (disch := first | omega | (simp; done) | (simp; omega)) [ltT, ltF, leT, leF, eqT', eqF, ltTn, leTn, ltFn, leFn, wrapI, tdivP, tmodP, mid]
  refine (weekday21_V (frS (n + 86400)) _).useV ?_
  rw [hz2, hd2]
  simp (disch := first | omega | (simp; done) | (simp; omega)) [ltT, ltF, leT, leF, eqT', eqF, ltTn, leTn, ltFn, leFn, wrapI, tdivP, tmodP, mid]
  refine (week22_V (frS n) _).useV ?_
  rw [hz, hd1, hw1]
  simp (disch := first | omega | (simp; done) | (simp; omega)) [ltT, ltF, leT, leF, eqT', eqF, ltTn, leTn, ltFn, leFn, wrapI, tdivP, tmodP, mid]
  refine (week22_V (frS (n + 86400)) _).useV ?_
  rw [hz2, hd2, hw2]
  have e1 : ((D - 1) % 7 + 1) % 7 = D % 7 := by omega
  have e2 : (D + 1 - 1) % 7 = D % 7 := by omega
  by_cases c : D % 7 = 0
  · rcases nx c with ⟨x1, x2⟩ | ⟨x1, x2⟩
    · simp (disch := first | omega | (simp; done) | (simp; omega)) [ltT, ltF, leT, leF, eqT', eqF, ltTn, leTn, ltFn, leFn, wrapI, tdivP, tmodP, mid, e1, e2, c, x1, x2]
      refine (dated_V _).useV ?_
      simp (disch := first | omega | (simp; done) | (simp; omega)) [ltT, ltF, leT, leF, eqT', eqF, ltTn, leTn, ltFn, leFn, wrapI, tdivP, tmodP, mid]
      exact rshift_d hok
    · have x3 : ¬ (weekR D).1 = (weekR D).1 + 1 := by omega
      simp (disch := first | omega | (simp; done) | (simp; omega)) [ltT, ltF, leT, leF, eqT', eqF, ltTn, leTn, ltFn, leFn, wrapI, tdivP, tmodP, mid, e1, e2, c, x1, x2, x3]
      refine (dated_V _).useV ?_
      simp (disch := first | omega | (simp; done) | (simp; omega)) [ltT, ltF, leT, leF, eqT', eqF, ltTn, leTn, ltFn, leFn, wrapI, tdivP, tmodP, mid]
      exact rshift_d hok
  · rw [sm c]
    simp (disch := first | omega | (simp; done) | (simp; omega)) [ltT, ltF, leT, leF, eqT', eqF, ltTn, leTn, ltFn, leFn, wrapI, tdivP, tmodP, mid, e1, e2, c]
    refine (dated_V _).useV ?_
    simp (disch := first | omega | (simp; done) | (simp; omega)) [ltT, ltF, leT, leF, eqT', eqF, ltTn, leTn, ltFn, leFn, wrapI, tdivP, tmodP, mid]
    exact rshift_d hok

theorem addS_add {m x : Mo} {a b : Int} (hm : m.ok) (hd : m.d ≤ 28) (hx : addS m a = some x) : addS x b = addS m (a + b) := by
  obtain ⟨h1, h2, h3, h4, h5, h6, h7⟩ := addS_some hm hx
  have hdl := dim_le (x.idx / 12) (x.idx % 12 + 1)
  have hxd : x.d = m.d := by omega
  have e : 12 * x.y + x.m - 1 + b = 12 * m.y + m.m - 1 + (a + b) := by unfold Mo.idx at h2; omega
  unfold addS
  simp only [e, hxd, h5, h6, h7]

theorem law6 (m : Mo) (a b : Int) (h : List Blk) : CallP Tryd.prog 6 [.d (encMo m), .d (.int .i64 a), .d (.int .i64 b)] h (.d (.bool true)) := by
  refine callW tb_ok fn6 (by simp) (fun hok => ?_)
  simp (disch := first | omega | (simp; done) | (simp; omega)) [ltT, ltF, leT, leF, eqT', eqF, ltTn, leTn, ltFn, leFn, wrapI, tdivP, tmodP, mid, c6]
  refine (momentFault_V m _).useV ?_
  by_cases h1 : (momF m).1 ≠ 0
  · simp (disch := first | omega | (simp; done) | (simp; omega)) [ltT, ltF, leT, leF, eqT', eqF, ltTn, leTn, ltFn, leFn, wrapI, tdivP, tmodP, mid, h1]
    refine (dated_V _).useV ?_
    simp (disch := first | omega | (simp; done) | (simp; omega)) [ltT, ltF, leT, leF, eqT', eqF, ltTn, leTn, ltFn, leFn, wrapI, tdivP, tmodP, mid]
    exact rshift_d hok
  obtain ⟨hz, hm⟩ := momF_ok h1
  by_cases h2 : 28 < m.d
  · simp (disch := first | omega | (simp; done) | (simp; omega)) [ltT, ltF, leT, leF, eqT', eqF, ltTn, leTn, ltFn, leFn, wrapI, tdivP, tmodP, mid, hz, h2]
    refine (dated_V _).useV ?_
    simp (disch := first | omega | (simp; done) | (simp; omega)) [ltT, ltF, leT, leF, eqT', eqF, ltTn, leTn, ltFn, leFn, wrapI, tdivP, tmodP, mid]
    exact rshift_d hok
  simp (disch := first | omega | (simp; done) | (simp; omega)) [ltT, ltF, leT, leF, eqT', eqF, ltTn, leTn, ltFn, leFn, wrapI, tdivP, tmodP, mid, hz, h2]
  refine (in_V _ _ _ _).useV ?_
  by_cases h3 : ¬ (-60000 ≤ a ∧ a ≤ 60000)
  · simp (disch := first | omega | (simp; done) | (simp; omega)) [ltT, ltF, leT, leF, eqT', eqF, ltTn, leTn, ltFn, leFn, wrapI, tdivP, tmodP, mid, h3]
    refine (dated_V _).useV ?_
    simp (disch := first | omega | (simp; done) | (simp; omega)) [ltT, ltF, leT, leF, eqT', eqF, ltTn, leTn, ltFn, leFn, wrapI, tdivP, tmodP, mid]
    exact rshift_d hok
  replace h3 := Classical.not_not.mp h3
  simp (disch := first | omega | (simp; done) | (simp; omega)) [ltT, ltF, leT, leF, eqT', eqF, ltTn, leTn, ltFn, leFn, wrapI, tdivP, tmodP, mid, h3]
  refine (in_V _ _ _ _).useV ?_
  by_cases h4 : ¬ (-60000 ≤ b ∧ b ≤ 60000)
  · simp (disch := first | omega | (simp; done) | (simp; omega)) [ltT, ltF, leT, leF, eqT', eqF, ltTn, leTn, ltFn, leFn, wrapI, tdivP, tmodP, mid, h4]
    refine (dated_V _).useV ?_
    simp (disch := first | omega | (simp; done) | (simp; omega)) [ltT, ltF, leT, leF, eqT', eqF, ltTn, leTn, ltFn, leFn, wrapI, tdivP, tmodP, mid]
    exact rshift_d hok
  replace h4 := Classical.not_not.mp h4
  simp (disch := first | omega | (simp; done) | (simp; omega)) [ltT, ltF, leT, leF, eqT', eqF, ltTn, leTn, ltFn, leFn, wrapI, tdivP, tmodP, mid, h4]
  refine (addMonths27_V m a _).useV ?_
  cases ha : addS m a with
  | none =>
    rw [show addMonthsS m a = (mo0, (4, -3)) from by unfold addMonthsS; rw [if_neg h1, if_neg (by omega), ha]]
    simp (disch := first | omega | (simp; done) | (simp; omega)) [ltT, ltF, leT, leF, eqT', eqF, ltTn, leTn, ltFn, leFn, wrapI, tdivP, tmodP, mid]
    refine regV_all ?_
    simp (disch := first | omega | (simp; done) | (simp; omega)) [ltT, ltF, leT, leF, eqT', eqF, ltTn, leTn, ltFn, leFn, wrapI, tdivP, tmodP, mid]
    refine (atF_V _ _ _).useV ?_
    simp (disch := first | omega | (simp; done) | (simp; omega)) [ltT, ltF, leT, leF, eqT', eqF, ltTn, leTn, ltFn, leFn, wrapI, tdivP, tmodP, mid]
    refine (dated_V _).useV ?_
    simp (disch := first | omega | (simp; done) | (simp; omega)) [ltT, ltF, leT, leF, eqT', eqF, ltTn, leTn, ltFn, leFn, wrapI, tdivP, tmodP, mid]
    exact rshift_d hok
  | some x =>
    obtain ⟨hx1, _⟩ := addS_some hm ha
    have hxz := momF_zero hx1
    have he : addMonthsS x b = addMonthsS m (a + b) := by
      unfold addMonthsS
      rw [hxz, hz, if_neg (by simp), if_neg (by omega), if_neg (by simp), if_neg (by omega), addS_add hm (by omega) ha]
    rw [show addMonthsS m a = (x, (0, 0)) from by unfold addMonthsS; rw [if_neg h1, if_neg (by omega), ha]]
    simp (disch := first | omega | (simp; done) | (simp; omega)) [ltT, ltF, leT, leF, eqT', eqF, ltTn, leTn, ltFn, leFn, wrapI, tdivP, tmodP, mid]
    refine (addMonths27_V x b _).useV ?_
    rw [he]
    simp (disch := first | omega | (simp; done) | (simp; omega)) [ltT, ltF, leT, leF, eqT', eqF, ltTn, leTn, ltFn, leFn, wrapI, tdivP, tmodP, mid]
    refine (addMonths27_V m (a + b) _).useV ?_
    simp (disch := first | omega | (simp; done) | (simp; omega)) [ltT, ltF, leT, leF, eqT', eqF, ltTn, leTn, ltFn, leFn, wrapI, tdivP, tmodP, mid]
    refine (dated_V _).useV ?_
    simp (disch := first | omega | (simp; done) | (simp; omega)) [ltT, ltF, leT, leF, eqT', eqF, ltTn, leTn, ltFn, leFn, wrapI, tdivP, tmodP, mid]
    exact rshift_d hok

end Go.Vm
