/- date: the laws of Number, AddMonths, At, FromWeek, WeeksInverse. -/
import Derived.Test.YtjjpkeajlgbleaaDoorDt14
namespace Go.Vm
open Proofs
set_option maxRecDepth 20000
set_option maxHeartbeats 4000000
set_option linter.unusedSimpArgs false

@[simp high] theorem neq_F (a b : Int × Int) : binAV tb 25 .neq (.d (encF a)) (.d (encF b)) = some (True, .d (.bool (!decide (a = b)))) := by
  have : (a = b) ↔ (a.1 = b.1 ∧ a.2 = b.2) := by cases a; cases b; simp
  simp only [this]
  by_cases h1 : a.1 = b.1 <;> by_cases h2 : a.2 = b.2 <;> simp [-fold_F, encF, eqT, eqFs, h1, h2]
@[simp high] theorem eql_F (a b : Int × Int) : binAV tb 25 .eql (.d (encF a)) (.d (encF b)) = some (True, .d (.bool (decide (a = b)))) := by
  have : (a = b) ↔ (a.1 = b.1 ∧ a.2 = b.2) := by cases a; cases b; simp
  simp only [this]
  by_cases h1 : a.1 = b.1 <;> by_cases h2 : a.2 = b.2 <;> simp [-fold_F, encF, eqT, eqFs, h1, h2]
@[simp high] theorem eql_Sp (a b : Int × Int) : binAV tb 55 .eql (.d (encF a)) (.d (encF b)) = some (True, .d (.bool (decide (a = b)))) := by
  have : (a = b) ↔ (a.1 = b.1 ∧ a.2 = b.2) := by cases a; cases b; simp
  simp only [this]
  by_cases h1 : a.1 = b.1 <;> by_cases h2 : a.2 = b.2 <;> simp [-fold_F, encF, eqT, eqFs, h1, h2]
@[simp high] theorem eql_Mo (a b : Mo) : binAV tb 23 .eql (.d (encMo a)) (.d (encMo b)) = some (True, .d (.bool (decide (a = b)))) := by
  have : (a = b) ↔ (a.y = b.y ∧ a.m = b.m ∧ a.d = b.d ∧ a.h = b.h ∧ a.mi = b.mi ∧ a.s = b.s) := by cases a; cases b; simp
  simp only [this]
  by_cases h1 : a.y = b.y <;> by_cases h2 : a.m = b.m <;> by_cases h3 : a.d = b.d <;> by_cases h4 : a.h = b.h <;> by_cases h5 : a.mi = b.mi <;> by_cases h6 : a.s = b.s <;> simp [-fold_Mo, encMo, eqT, eqFs, h1, h2, h3, h4, h5, h6]
theorem mo_eta (m : Mo) : (⟨m.y, m.m, m.d, m.h, m.mi, m.s⟩ : Mo) = m := rfl
theorem mo0_eq : (⟨0, 0, 0, 0, 0, 0⟩ : Mo) = mo0 := rfl

theorem law4 (m : Mo) (h : List Blk) : CallP Tryd.prog 4 [.d (encMo m)] h (.d (.bool true)) := by
  refine callW tb_ok fn4 (by simp) (fun hok => ?_)
  simp (disch := first | omega | (simp; done) | (simp; omega)) [ltT, ltF, leT, leF, eqT', eqF, ltTn, leTn, ltFn, leFn, wrapI, tdivP, tmodP, mid, c4]
  refine (number20_V m _).useV ?_
  simp (disch := first | omega | (simp; done) | (simp; omega)) [ltT, ltF, leT, leF, eqT', eqF, ltTn, leTn, ltFn, leFn, wrapI, tdivP, tmodP, mid]
  refine (weekday21_V m _).useV ?_
  simp (disch := first | omega | (simp; done) | (simp; omega)) [ltT, ltF, leT, leF, eqT', eqF, ltTn, leTn, ltFn, leFn, wrapI, tdivP, tmodP, mid]
  refine (week22_V m _).useV ?_
  simp (disch := first | omega | (simp; done) | (simp; omega)) [ltT, ltF, leT, leF, eqT', eqF, ltTn, leTn, ltFn, leFn, wrapI, tdivP, tmodP, mid]
  refine (momentFault_V m _).useV ?_
  by_cases h1 : (momF m).1 ≠ 0
  · simp (disch := first | omega | (simp; done) | (simp; omega)) [ltT, ltF, leT, leF, eqT', eqF, ltTn, leTn, ltFn, leFn, wrapI, tdivP, tmodP, mid, h1]
    refine (dated_V _).useV ?_
    simp (disch := first | omega | (simp; done) | (simp; omega)) [ltT, ltF, leT, leF, eqT', eqF, ltTn, leTn, ltFn, leFn, wrapI, tdivP, tmodP, mid]
    exact rshift_d hok
  obtain ⟨hz, hm⟩ := momF_ok h1
  have hr := Mo.day_range hm
  have hww := weekR_weekS hm
  have e6 : (m.day - 1) % 7 = (m.day + 6) % 7 := by omega
  obtain ⟨⟨m1, m2, m3, m4, m5, m6⟩, _⟩ := id hm
  have hdl := dim_le m.y m.m
  rw [hz]
  simp (disch := first | omega | (simp; done) | (simp; omega)) [ltT, ltF, leT, leF, eqT', eqF, ltTn, leTn, ltFn, leFn, wrapI, tdivP, tmodP, mid]
  refine (day23_V m.y m.m m.d (by omega) (by omega) (by omega) (by omega) (by omega) (by omega) _).useV ?_
  rw [show dayOf m.y m.m m.d = m.day from rfl]
  simp (disch := first | omega | (simp; done) | (simp; omega)) [ltT, ltF, leT, leF, eqT', eqF, ltTn, leTn, ltFn, leFn, wrapI, tdivP, tmodP, mid]
  refine (weekOf_V m.day (by omega) (by omega) _).useV ?_
  rw [hww]
  simp (disch := first | omega | (simp; done) | (simp; omega)) [ltT, ltF, leT, leF, eqT', eqF, ltTn, leTn, ltFn, leFn, wrapI, tdivP, tmodP, mid]
  refine (seconds_V m hm _).useV ?_
  simp (disch := first | omega | (simp; done) | (simp; omega)) [ltT, ltF, leT, leF, eqT', eqF, ltTn, leTn, ltFn, leFn, wrapI, tdivP, tmodP, mid]
  refine (weekdayOf_V m.day (by omega) (by omega) _).useV ?_
  simp (disch := first | omega | (simp; done) | (simp; omega)) [ltT, ltF, leT, leF, eqT', eqF, ltTn, leTn, ltFn, leFn, wrapI, tdivP, tmodP, mid, e6]
  refine (dated_V _).useV ?_
  simp (disch := first | omega | (simp; done) | (simp; omega)) [ltT, ltF, leT, leF, eqT', eqF, ltTn, leTn, ltFn, leFn, wrapI, tdivP, tmodP, mid]
  exact rshift_d hok

theorem law5 (m : Mo) (n : Int) (h : List Blk) : CallP Tryd.prog 5 [.d (encMo m), .d (.int .i64 n)] h (.d (.bool true)) := by
  refine callW tb_ok fn5 (by simp) (fun hok => ?_)
  simp (disch := first | omega | (simp; done) | (simp; omega)) [ltT, ltF, leT, leF, eqT', eqF, ltTn, leTn, ltFn, leFn, wrapI, tdivP, tmodP, mid, c5]
  refine (addMonths27_V m n _).useV ?_
  simp (disch := first | omega | (simp; done) | (simp; omega)) [ltT, ltF, leT, leF, eqT', eqF, ltTn, leTn, ltFn, leFn, wrapI, tdivP, tmodP, mid]
  refine (momentFault_V m _).useV ?_
  by_cases h1 : (momF m).1 ≠ 0
  · rw [show addMonthsS m n = (mo0, momF m) from by unfold addMonthsS; rw [if_pos h1]]
    simp (disch := first | omega | (simp; done) | (simp; omega)) [ltT, ltF, leT, leF, eqT', eqF, ltTn, leTn, ltFn, leFn, wrapI, tdivP, tmodP, mid, h1, mo0_eq]
    refine (dated_V _).useV ?_
    simp (disch := first | omega | (simp; done) | (simp; omega)) [ltT, ltF, leT, leF, eqT', eqF, ltTn, leTn, ltFn, leFn, wrapI, tdivP, tmodP, mid]
    exact rshift_d hok
  obtain ⟨hz, hm⟩ := momF_ok h1
  rw [hz]
  simp (disch := first | omega | (simp; done) | (simp; omega)) [ltT, ltF, leT, leF, eqT', eqF, ltTn, leTn, ltFn, leFn, wrapI, tdivP, tmodP, mid]
  refine (in_V _ _ _ _).useV ?_
  by_cases h2 : n < -120000 ∨ 120000 < n
  · rw [show addMonthsS m n = (mo0, (4, -2)) from by unfold addMonthsS; rw [if_neg h1, if_pos h2]]
    have h3 : ¬ (-120000 ≤ n ∧ n ≤ 120000) := by omega
    simp (disch := first | omega | (simp; done) | (simp; omega)) [ltT, ltF, leT, leF, eqT', eqF, ltTn, leTn, ltFn, leFn, wrapI, tdivP, tmodP, mid, h3]
    refine (atF_V _ _ _).useV ?_
    simp (disch := first | omega | (simp; done) | (simp; omega)) [ltT, ltF, leT, leF, eqT', eqF, ltTn, leTn, ltFn, leFn, wrapI, tdivP, tmodP, mid, mo0_eq]
    refine (dated_V _).useV ?_
    simp (disch := first | omega | (simp; done) | (simp; omega)) [ltT, ltF, leT, leF, eqT', eqF, ltTn, leTn, ltFn, leFn, wrapI, tdivP, tmodP, mid]
    exact rshift_d hok
  have h3 : -120000 ≤ n ∧ n ≤ 120000 := by omega
  simp (disch := first | omega | (simp; done) | (simp; omega)) [ltT, ltF, leT, leF, eqT', eqF, ltTn, leTn, ltFn, leFn, wrapI, tdivP, tmodP, mid, h3]
  refine (months_V m n hm (by omega) (by omega) _).useV ?_
  cases ha : addS m n with
  | some x =>
    rw [show addMonthsS m n = (x, (0, 0)) from by unfold addMonthsS; rw [if_neg h1, if_neg h2, ha]]
    simp (disch := first | omega | (simp; done) | (simp; omega)) [ltT, ltF, leT, leF, eqT', eqF, ltTn, leTn, ltFn, leFn, wrapI, tdivP, tmodP, mid, ha]
    refine (dated_V _).useV ?_
    simp (disch := first | omega | (simp; done) | (simp; omega)) [ltT, ltF, leT, leF, eqT', eqF, ltTn, leTn, ltFn, leFn, wrapI, tdivP, tmodP, mid]
    exact rshift_d hok
  | none =>
    rw [show addMonthsS m n = (mo0, (4, -3)) from by unfold addMonthsS; rw [if_neg h1, if_neg h2, ha]]
    simp (disch := first | omega | (simp; done) | (simp; omega)) [ltT, ltF, leT, leF, eqT', eqF, ltTn, leTn, ltFn, leFn, wrapI, tdivP, tmodP, mid, ha, mo0_eq]
    refine regV_all ?_
    simp (disch := first | omega | (simp; done) | (simp; omega)) [ltT, ltF, leT, leF, eqT', eqF, ltTn, leTn, ltFn, leFn, wrapI, tdivP, tmodP, mid]
    refine (atF_V _ _ _).useV ?_
    simp (disch := first | omega | (simp; done) | (simp; omega)) [ltT, ltF, leT, leF, eqT', eqF, ltTn, leTn, ltFn, leFn, wrapI, tdivP, tmodP, mid, mo0_eq]
    refine (dated_V _).useV ?_
    simp (disch := first | omega | (simp; done) | (simp; omega)) [ltT, ltF, leT, leF, eqT', eqF, ltTn, leTn, ltFn, leFn, wrapI, tdivP, tmodP, mid]
    exact rshift_d hok

theorem frS_ok {n : Int} (h1 : 0 ≤ n) (h2 : n ≤ 315537897599) : (frS n).ok ∧ (frS n).secs = n := by
  obtain ⟨hv, hd⟩ := dateRef_ok (day := n / 86400 + 1) (by omega) (by omega)
  refine ⟨⟨hv, ?_, ?_, ?_⟩, ?_⟩
  · show 0 ≤ n % 86400 / 3600 ∧ n % 86400 / 3600 ≤ 23; omega
  · show 0 ≤ n % 86400 / 60 % 60 ∧ n % 86400 / 60 % 60 ≤ 59; omega
  · show 0 ≤ n % 86400 % 60 ∧ n % 86400 % 60 ≤ 59; omega
  · unfold Mo.secs
    rw [show (frS n).day = n / 86400 + 1 from hd]
    show (n / 86400 + 1 - 1) * 86400 + ((n % 86400 / 3600 * 60 + n % 86400 / 60 % 60) * 60 + n % 86400 % 60) = n
    omega

theorem law7 (n : Int) (h : List Blk) : CallP Tryd.prog 7 [.d (.int .i64 n)] h (.d (.bool true)) := by
  refine callW tb_ok fn7 (by simp) (fun hok => ?_)
  simp (disch := first | omega | (simp; done) | (simp; omega)) [ltT, ltF, leT, leF, eqT', eqF, ltTn, leTn, ltFn, leFn, wrapI, tdivP, tmodP, mid, c7]
  refine (at31_V n _).useV ?_
  by_cases h1 : n < 0 ∨ 315537897599 < n
  · rw [if_pos h1, if_pos h1]
    simp (disch := first | omega | (simp; done) | (simp; omega)) [ltT, ltF, leT, leF, eqT', eqF, ltTn, leTn, ltFn, leFn, wrapI, tdivP, tmodP, mid]
    refine (in_V _ _ _ _).useV ?_
    have h3 : ¬ (0 ≤ n ∧ n ≤ 315537897599) := by omega
    simp (disch := first | omega | (simp; done) | (simp; omega)) [ltT, ltF, leT, leF, eqT', eqF, ltTn, leTn, ltFn, leFn, wrapI, tdivP, tmodP, mid, h3]
    refine regV_all ?_
    simp (disch := first | omega | (simp; done) | (simp; omega)) [ltT, ltF, leT, leF, eqT', eqF, ltTn, leTn, ltFn, leFn, wrapI, tdivP, tmodP, mid]
    refine (atF_V _ _ _).useV ?_
    simp (disch := first | omega | (simp; done) | (simp; omega)) [ltT, ltF, leT, leF, eqT', eqF, ltTn, leTn, ltFn, leFn, wrapI, tdivP, tmodP, mid, mo0_eq]
    refine (dated_V _).useV ?_
    simp (disch := first | omega | (simp; done) | (simp; omega)) [ltT, ltF, leT, leF, eqT', eqF, ltTn, leTn, ltFn, leFn, wrapI, tdivP, tmodP, mid]
    exact rshift_d hok
  · rw [if_neg h1, if_neg h1]
    obtain ⟨ho, hs⟩ := frS_ok (n := n) (by omega) (by omega)
    have hz := momF_zero ho
    have h3 : 0 ≤ n ∧ n ≤ 315537897599 := by omega
    simp (disch := first | omega | (simp; done) | (simp; omega)) [ltT, ltF, leT, leF, eqT', eqF, ltTn, leTn, ltFn, leFn, wrapI, tdivP, tmodP, mid]
    refine (in_V _ _ _ _).useV ?_
    simp (disch := first | omega | (simp; done) | (simp; omega)) [ltT, ltF, leT, leF, eqT', eqF, ltTn, leTn, ltFn, leFn, wrapI, tdivP, tmodP, mid, h3]
    refine (number20_V (frS n) _).useV ?_
    rw [hz, hs]
    simp (disch := first | omega | (simp; done) | (simp; omega)) [ltT, ltF, leT, leF, eqT', eqF, ltTn, leTn, ltFn, leFn, wrapI, tdivP, tmodP, mid]
    refine regV_all ?_
    simp (disch := first | omega | (simp; done) | (simp; omega)) [ltT, ltF, leT, leF, eqT', eqF, ltTn, leTn, ltFn, leFn, wrapI, tdivP, tmodP, mid]
    refine (momentAt_V n (by omega) (by omega) _).useV ?_
    simp (disch := first | omega | (simp; done) | (simp; omega)) [ltT, ltF, leT, leF, eqT', eqF, ltTn, leTn, ltFn, leFn, wrapI, tdivP, tmodP, mid]
    refine (dated_V _).useV ?_
    simp (disch := first | omega | (simp; done) | (simp; omega)) [ltT, ltF, leT, leF, eqT', eqF, ltTn, leTn, ltFn, leFn, wrapI, tdivP, tmodP, mid]
    exact rshift_d hok

theorem law10 (y w d : Int) (h : List Blk) : CallP Tryd.prog 10 [.d (.int .i64 y), .d (.int .i64 w), .d (.int .i64 d)] h (.d (.bool true)) := by
  refine callW tb_ok fn10 (by simp) (fun hok => ?_)
  simp (disch := first | omega | (simp; done) | (simp; omega)) [ltT, ltF, leT, leF, eqT', eqF, ltTn, leTn, ltFn, leFn, wrapI, tdivP, tmodP, mid, c10]
  refine (fromWeek_V y w d _).useV ?_
  simp (disch := first | omega | (simp; done) | (simp; omega)) [ltT, ltF, leT, leF, eqT', eqF, ltTn, leTn, ltFn, leFn, wrapI, tdivP, tmodP, mid]
  refine (atF_V _ _ _).useV ?_
  simp (disch := first | omega | (simp; done) | (simp; omega)) [ltT, ltF, leT, leF, eqT', eqF, ltTn, leTn, ltFn, leFn, wrapI, tdivP, tmodP, mid]
  refine (in_V _ _ _ _).useV ?_
  by_cases h1 : y < 1 ∨ 9999 < y
  · rw [show fromWeekS y w d = (mo0, (4, -1)) from by unfold fromWeekS; rw [if_pos h1]]
    have h3 : ¬ (1 ≤ y ∧ y ≤ 9999) := by omega
    simp (disch := first | omega | (simp; done) | (simp; omega)) [ltT, ltF, leT, leF, eqT', eqF, ltTn, leTn, ltFn, leFn, wrapI, tdivP, tmodP, mid, h3]
    refine (atF_V _ _ _).useV ?_
    simp (disch := first | omega | (simp; done) | (simp; omega)) [ltT, ltF, leT, leF, eqT', eqF, ltTn, leTn, ltFn, leFn, wrapI, tdivP, tmodP, mid, mo0_eq]
    refine (dated_V _).useV ?_
    simp (disch := first | omega | (simp; done) | (simp; omega)) [ltT, ltF, leT, leF, eqT', eqF, ltTn, leTn, ltFn, leFn, wrapI, tdivP, tmodP, mid]
    exact rshift_d hok
  have h3 : 1 ≤ y ∧ y ≤ 9999 := by omega
  have hw := weeksR_le y
  simp (disch := first | omega | (simp; done) | (simp; omega)) [ltT, ltF, leT, leF, eqT', eqF, ltTn, leTn, ltFn, leFn, wrapI, tdivP, tmodP, mid, h3]
  refine (weeks36_V y (by omega) (by omega) _).useV ?_
  simp (disch := first | omega | (simp; done) | (simp; omega)) [ltT, ltF, leT, leF, eqT', eqF, ltTn, leTn, ltFn, leFn, wrapI, tdivP, tmodP, mid]
  refine (in_V _ _ _ _).useV ?_
  by_cases h2 : w < 1 ∨ weeksR y < w
  · rw [show fromWeekS y w d = (mo0, (4, -2)) from by unfold fromWeekS; rw [if_neg h1, if_pos h2]]
    have h4 : ¬ (1 ≤ w ∧ w ≤ weeksR y) := by omega
    simp (disch := first | omega | (simp; done) | (simp; omega)) [ltT, ltF, leT, leF, eqT', eqF, ltTn, leTn, ltFn, leFn, wrapI, tdivP, tmodP, mid, h4]
    refine (atF_V _ _ _).useV ?_
    simp (disch := first | omega | (simp; done) | (simp; omega)) [ltT, ltF, leT, leF, eqT', eqF, ltTn, leTn, ltFn, leFn, wrapI, tdivP, tmodP, mid, mo0_eq]
    refine (dated_V _).useV ?_
    simp (disch := first | omega | (simp; done) | (simp; omega)) [ltT, ltF, leT, leF, eqT', eqF, ltTn, leTn, ltFn, leFn, wrapI, tdivP, tmodP, mid]
    exact rshift_d hok
  have h4 : 1 ≤ w ∧ w ≤ weeksR y := by omega
  simp (disch := first | omega | (simp; done) | (simp; omega)) [ltT, ltF, leT, leF, eqT', eqF, ltTn, leTn, ltFn, leFn, wrapI, tdivP, tmodP, mid, h4]
  refine (in_V _ _ _ _).useV ?_
  by_cases h5 : d < 0 ∨ 6 < d
  · rw [show fromWeekS y w d = (mo0, (4, -3)) from by unfold fromWeekS; rw [if_neg h1, if_neg h2, if_pos h5]]
    have h6 : ¬ (0 ≤ d ∧ d ≤ 6) := by omega
    simp (disch := first | omega | (simp; done) | (simp; omega)) [ltT, ltF, leT, leF, eqT', eqF, ltTn, leTn, ltFn, leFn, wrapI, tdivP, tmodP, mid, h6]
    refine (atF_V _ _ _).useV ?_
    simp (disch := first | omega | (simp; done) | (simp; omega)) [ltT, ltF, leT, leF, eqT', eqF, ltTn, leTn, ltFn, leFn, wrapI, tdivP, tmodP, mid, mo0_eq]
    refine (dated_V _).useV ?_
    simp (disch := first | omega | (simp; done) | (simp; omega)) [ltT, ltF, leT, leF, eqT', eqF, ltTn, leTn, ltFn, leFn, wrapI, tdivP, tmodP, mid]
    exact rshift_d hok
  have h6 : 0 ≤ d ∧ d ≤ 6 := by omega
  have f2 := fm_pos (y := y) (by omega)
  simp (disch := first | omega | (simp; done) | (simp; omega)) [ltT, ltF, leT, leF, eqT', eqF, ltTn, leTn, ltFn, leFn, wrapI, tdivP, tmodP, mid, h6]
  refine (weekDay37_V y w d (by omega) (by omega) (by omega) (by omega) (by omega) (by omega) _).useV ?_
  by_cases h7 : 3652059 < fm y + 7 * (w - 1) + d
  · rw [show fromWeekS y w d = (mo0, (4, -3)) from by unfold fromWeekS; rw [if_neg h1, if_neg h2, if_neg h5, if_pos h7]]
    simp (disch := first | omega | (simp; done) | (simp; omega)) [ltT, ltF, leT, leF, eqT', eqF, ltTn, leTn, ltFn, leFn, wrapI, tdivP, tmodP, mid, h7]
    refine (atF_V _ _ _).useV ?_
    simp (disch := first | omega | (simp; done) | (simp; omega)) [ltT, ltF, leT, leF, eqT', eqF, ltTn, leTn, ltFn, leFn, wrapI, tdivP, tmodP, mid, mo0_eq]
    refine (dated_V _).useV ?_
    simp (disch := first | omega | (simp; done) | (simp; omega)) [ltT, ltF, leT, leF, eqT', eqF, ltTn, leTn, ltFn, leFn, wrapI, tdivP, tmodP, mid]
    exact rshift_d hok
  · rw [show fromWeekS y w d = (frD (fm y + 7 * (w - 1) + d), (0, 0)) from by unfold fromWeekS; rw [if_neg h1, if_neg h2, if_neg h5, if_neg h7]]
    simp (disch := first | omega | (simp; done) | (simp; omega)) [ltT, ltF, leT, leF, eqT', eqF, ltTn, leTn, ltFn, leFn, wrapI, tdivP, tmodP, mid, h7]
    refine regV_all ?_
    simp (disch := first | omega | (simp; done) | (simp; omega)) [ltT, ltF, leT, leF, eqT', eqF, ltTn, leTn, ltFn, leFn, wrapI, tdivP, tmodP, mid]
    refine (weekDay37_V y w d (by omega) (by omega) (by omega) (by omega) (by omega) (by omega) _).useV ?_
    simp (disch := first | omega | (simp; done) | (simp; omega)) [ltT, ltF, leT, leF, eqT', eqF, ltTn, leTn, ltFn, leFn, wrapI, tdivP, tmodP, mid]
    refine (date38_V _ (by omega) (by omega) _).useV ?_
    simp (disch := first | omega | (simp; done) | (simp; omega)) [ltT, ltF, leT, leF, eqT', eqF, ltTn, leTn, ltFn, leFn, wrapI, tdivP, tmodP, mid]
    refine (dated_V _).useV ?_
    simp (disch := first | omega | (simp; done) | (simp; omega)) [ltT, ltF, leT, leF, eqT', eqF, ltTn, leTn, ltFn, leFn, wrapI, tdivP, tmodP, mid]
    exact rshift_d hok

end Go.Vm
