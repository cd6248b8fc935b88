/- DtB: Dt6, Dt7, Dt8. -/
import Derived.Test.YtjjpkeajlgbleaaDoorDtA
/- date: the reference's functions over days and months. -/
namespace Go.Vm
open Proofs
set_option maxRecDepth 20000
set_option maxHeartbeats 1000000
set_option linter.unusedSimpArgs false

theorem in_V (n a b : Int) (h : List Blk) : CallP Tryd.prog 28 [.d (.int .i64 n), .d (.int .i64 a), .d (.int .i64 b)] h (.d (.bool (decide (a ≤ n ∧ n ≤ b)))) := by
  refine callW tb_ok fn28 (by simp) (fun hok => ?_)
  by_cases h1 : a ≤ n <;> by_cases h2 : n ≤ b <;> simp [c28, h1, h2]

theorem atF_V (a b : Int) (h : List Blk) : CallP Tryd.prog 29 [.d (.int .i64 a), .d (.int .i64 b)] h (.d (encF (a, b))) := by
  refine callW tb_ok fn29 (by simp) (fun hok => ?_)
  simp [c29]
  exact rshift_d hok

theorem daysOf_V (y m : Int) (h0 : 0 ≤ y) (h1 : 1 ≤ m) (h2 : m ≤ 12) (h : List Blk) : CallP Tryd.prog 49 [.d (.int .i64 y), .d (.int .i64 m)] h (.d (.int .i64 (dim y m))) := by
  refine callW tb_ok fn49 (by simp) (fun hok => ?_)
  by_cases hm : m = 2
  · subst hm
    by_cases a1 : y % 400 = 0
    · have hl : leapB y = true := by unfold leapB; simp; omega
      simp (disch := first | omega | (simp; done) | (simp; omega)) [ltT, ltF, leT, leF, eqT', eqF, ltTn, leTn, ltFn, leFn, wrapI, tdivP, tmodP, mid, c49, dim, hl, a1]
    · by_cases a2 : y % 4 = 0
      · by_cases a3 : y % 100 = 0
        · have hl : leapB y = false := by unfold leapB; simp; omega
          simp (disch := first | omega | (simp; done) | (simp; omega)) [ltT, ltF, leT, leF, eqT', eqF, ltTn, leTn, ltFn, leFn, wrapI, tdivP, tmodP, mid, c49, dim, hl, a1, a2, a3]
        · have hl : leapB y = true := by unfold leapB; simp; omega
          simp (disch := first | omega | (simp; done) | (simp; omega)) [ltT, ltF, leT, leF, eqT', eqF, ltTn, leTn, ltFn, leFn, wrapI, tdivP, tmodP, mid, c49, dim, hl, a1, a2, a3]
      · have hl : leapB y = false := by unfold leapB; simp; omega
        simp (disch := first | omega | (simp; done) | (simp; omega)) [ltT, ltF, leT, leF, eqT', eqF, ltTn, leTn, ltFn, leFn, wrapI, tdivP, tmodP, mid, c49, dim, hl, a1, a2]
  · have e : dim y m = 30 + (m + m / 8) % 2 := by
      rcases month_cases h1 h2 with rfl | rfl | rfl | rfl | rfl | rfl | rfl | rfl | rfl | rfl | rfl | rfl <;> simp [dim_eq] at hm ⊢
    rw [e]
    simp (disch := first | omega | (simp; done) | (simp; omega)) [ltT, ltF, leT, leF, eqT', eqF, ltTn, leTn, ltFn, leFn, wrapI, tdivP, tmodP, mid, c49, hm]

theorem momentFault_V (m : Mo) (h : List Blk) : CallP Tryd.prog 16 [.d (encMo m)] h (.d (encF (momF m))) := by
  refine callW tb_ok fn16 (by simp) (fun hok => ?_)
  simp (disch := first | omega | (simp; done) | (simp; omega)) [ltT, ltF, leT, leF, eqT', eqF, ltTn, leTn, ltFn, leFn, wrapI, tdivP, tmodP, mid, c16]
  refine (in_V _ _ _ _).useV ?_
  by_cases h1 : m.y < 1 ∨ 9999 < m.y
  · have e : ¬ (1 ≤ m.y ∧ m.y ≤ 9999) := by omega
    rw [show momF m = (4, 0) from by unfold momF; rw [if_pos h1]]
    simp (disch := first | omega | (simp; done) | (simp; omega)) [ltT, ltF, leT, leF, eqT', eqF, ltTn, leTn, ltFn, leFn, wrapI, tdivP, tmodP, mid, e]
    refine (atF_V _ _ _).useV ?_
    simp (disch := first | omega | (simp; done) | (simp; omega)) [ltT, ltF, leT, leF, eqT', eqF, ltTn, leTn, ltFn, leFn, wrapI, tdivP, tmodP, mid]
    exact rshift_d hok
  have e1 : 1 ≤ m.y ∧ m.y ≤ 9999 := by omega
  simp (disch := first | omega | (simp; done) | (simp; omega)) [ltT, ltF, leT, leF, eqT', eqF, ltTn, leTn, ltFn, leFn, wrapI, tdivP, tmodP, mid, e1]
  refine (in_V _ _ _ _).useV ?_
  by_cases h2 : m.m < 1 ∨ 12 < m.m
  · have e : ¬ (1 ≤ m.m ∧ m.m ≤ 12) := by omega
    rw [show momF m = (4, 1) from by unfold momF; rw [if_neg h1, if_pos h2]]
    simp (disch := first | omega | (simp; done) | (simp; omega)) [ltT, ltF, leT, leF, eqT', eqF, ltTn, leTn, ltFn, leFn, wrapI, tdivP, tmodP, mid, e]
    refine (atF_V _ _ _).useV ?_
    simp (disch := first | omega | (simp; done) | (simp; omega)) [ltT, ltF, leT, leF, eqT', eqF, ltTn, leTn, ltFn, leFn, wrapI, tdivP, tmodP, mid]
    exact rshift_d hok
  have e2 : 1 ≤ m.m ∧ m.m ≤ 12 := by omega
  simp (disch := first | omega | (simp; done) | (simp; omega)) [ltT, ltF, leT, leF, eqT', eqF, ltTn, leTn, ltFn, leFn, wrapI, tdivP, tmodP, mid, e2]
  refine regV_all ?_
  simp (disch := first | omega | (simp; done) | (simp; omega)) [ltT, ltF, leT, leF, eqT', eqF, ltTn, leTn, ltFn, leFn, wrapI, tdivP, tmodP, mid]
  refine (daysOf_V _ _ (by omega) (by omega) (by omega) _).useV ?_
  simp (disch := first | omega | (simp; done) | (simp; omega)) [ltT, ltF, leT, leF, eqT', eqF, ltTn, leTn, ltFn, leFn, wrapI, tdivP, tmodP, mid]
  refine (in_V _ _ _ _).useV ?_
  by_cases h3 : m.d < 1 ∨ dim m.y m.m < m.d
  · have e : ¬ (1 ≤ m.d ∧ m.d ≤ dim m.y m.m) := by omega
    rw [show momF m = (4, 2) from by unfold momF; rw [if_neg h1, if_neg h2, if_pos h3]]
    simp (disch := first | omega | (simp; done) | (simp; omega)) [ltT, ltF, leT, leF, eqT', eqF, ltTn, leTn, ltFn, leFn, wrapI, tdivP, tmodP, mid, e]
    refine (atF_V _ _ _).useV ?_
    simp (disch := first | omega | (simp; done) | (simp; omega)) [ltT, ltF, leT, leF, eqT', eqF, ltTn, leTn, ltFn, leFn, wrapI, tdivP, tmodP, mid]
    exact rshift_d hok
  have e3 : 1 ≤ m.d ∧ m.d ≤ dim m.y m.m := by omega
  simp (disch := first | omega | (simp; done) | (simp; omega)) [ltT, ltF, leT, leF, eqT', eqF, ltTn, leTn, ltFn, leFn, wrapI, tdivP, tmodP, mid, e3]
  refine (in_V _ _ _ _).useV ?_
  by_cases h4 : m.h < 0 ∨ 23 < m.h
  · have e : ¬ (0 ≤ m.h ∧ m.h ≤ 23) := by omega
    rw [show momF m = (4, 3) from by unfold momF; rw [if_neg h1, if_neg h2, if_neg h3, if_pos h4]]
    simp (disch := first | omega | (simp; done) | (simp; omega)) [ltT, ltF, leT, leF, eqT', eqF, ltTn, leTn, ltFn, leFn, wrapI, tdivP, tmodP, mid, e]
    refine (atF_V _ _ _).useV ?_
    simp (disch := first | omega | (simp; done) | (simp; omega)) [ltT, ltF, leT, leF, eqT', eqF, ltTn, leTn, ltFn, leFn, wrapI, tdivP, tmodP, mid]
    exact rshift_d hok
  have e4 : 0 ≤ m.h ∧ m.h ≤ 23 := by omega
  simp (disch := first | omega | (simp; done) | (simp; omega)) [ltT, ltF, leT, leF, eqT', eqF, ltTn, leTn, ltFn, leFn, wrapI, tdivP, tmodP, mid, e4]
  refine (in_V _ _ _ _).useV ?_
  by_cases h5 : m.mi < 0 ∨ 59 < m.mi
  · have e : ¬ (0 ≤ m.mi ∧ m.mi ≤ 59) := by omega
    rw [show momF m = (4, 4) from by unfold momF; rw [if_neg h1, if_neg h2, if_neg h3, if_neg h4, if_pos h5]]
    simp (disch := first | omega | (simp; done) | (simp; omega)) [ltT, ltF, leT, leF, eqT', eqF, ltTn, leTn, ltFn, leFn, wrapI, tdivP, tmodP, mid, e]
    refine (atF_V _ _ _).useV ?_
    simp (disch := first | omega | (simp; done) | (simp; omega)) [ltT, ltF, leT, leF, eqT', eqF, ltTn, leTn, ltFn, leFn, wrapI, tdivP, tmodP, mid]
    exact rshift_d hok
  have e5 : 0 ≤ m.mi ∧ m.mi ≤ 59 := by omega
  simp (disch := first | omega | (simp; done) | (simp; omega)) [ltT, ltF, leT, leF, eqT', eqF, ltTn, leTn, ltFn, leFn, wrapI, tdivP, tmodP, mid, e5]
  refine (in_V _ _ _ _).useV ?_
  by_cases h6 : m.s < 0 ∨ 59 < m.s
  · have e : ¬ (0 ≤ m.s ∧ m.s ≤ 59) := by omega
    rw [show momF m = (4, 5) from by unfold momF; rw [if_neg h1, if_neg h2, if_neg h3, if_neg h4, if_neg h5, if_pos h6]]
    simp (disch := first | omega | (simp; done) | (simp; omega)) [ltT, ltF, leT, leF, eqT', eqF, ltTn, leTn, ltFn, leFn, wrapI, tdivP, tmodP, mid, e]
    refine (atF_V _ _ _).useV ?_
    simp (disch := first | omega | (simp; done) | (simp; omega)) [ltT, ltF, leT, leF, eqT', eqF, ltTn, leTn, ltFn, leFn, wrapI, tdivP, tmodP, mid]
    exact rshift_d hok
  have e6 : 0 ≤ m.s ∧ m.s ≤ 59 := by omega
  rw [show momF m = (0, 0) from by unfold momF; rw [if_neg h1, if_neg h2, if_neg h3, if_neg h4, if_neg h5, if_neg h6]]
  simp (disch := first | omega | (simp; done) | (simp; omega)) [ltT, ltF, leT, leF, eqT', eqF, ltTn, leTn, ltFn, leFn, wrapI, tdivP, tmodP, mid, e6]
  refine (atF_V _ _ _).useV ?_
  simp (disch := first | omega | (simp; done) | (simp; omega)) [ltT, ltF, leT, leF, eqT', eqF, ltTn, leTn, ltFn, leFn, wrapI, tdivP, tmodP, mid]
  exact rshift_d hok

theorem day23_V (y m d : Int) (h1 : 1 ≤ y) (h2 : y ≤ 100000) (h3 : 1 ≤ m) (h4 : m ≤ 12) (h5 : -1000000 ≤ d) (h6 : d ≤ 1000000) (h : List Blk) :
    CallP Tryd.prog 23 [.d (.int .i64 y), .d (.int .i64 m), .d (.int .i64 d)] h (.d (.int .i64 (dayOf y m d))) := by
  refine callW tb_ok fn23 (by simp) (fun hok => ?_)
  rw [← dayRef_eq h3 h4]
  unfold dayRef
  by_cases hm : m < 3
  · simp (disch := first | omega | (simp; done) | (simp; omega)) [ltT, ltF, leT, leF, eqT', eqF, ltTn, leTn, ltFn, leFn, wrapI, tdivP, tmodP, mid, c23, hm]
  · simp (disch := first | omega | (simp; done) | (simp; omega)) [ltT, ltF, leT, leF, eqT', eqF, ltTn, leTn, ltFn, leFn, wrapI, tdivP, tmodP, mid, c23, hm]

theorem date38_V (n : Int) (h1 : 1 ≤ n) (h2 : n ≤ 10000000) (h : List Blk) : CallP Tryd.prog 38 [.d (.int .i64 n)] h (.d (encMo (frD n))) := by
  refine callW tb_ok fn38 (by simp) (fun hok => ?_)
  obtain ⟨z, hz⟩ : ∃ z, z = n + 305 := ⟨_, rfl⟩
  obtain ⟨era, hera⟩ : ∃ x, x = z / 146097 := ⟨_, rfl⟩
  obtain ⟨of, hof⟩ : ∃ x, x = z % 146097 := ⟨_, rfl⟩
  obtain ⟨year, hyear⟩ : ∃ x, x = (of - of / 1460 + of / 36524 - of / 146096) / 365 := ⟨_, rfl⟩
  obtain ⟨rest, hrest⟩ : ∃ x, x = of - 365 * year - year / 4 + year / 100 := ⟨_, rfl⟩
  obtain ⟨month, hmonth⟩ : ∃ x, x = (5 * rest + 2) / 153 := ⟨_, rfl⟩
  have hd : dateRef n = if month + 3 > 12 then (year + 400 * era + 1, month + 3 - 12, rest - (153 * month + 2) / 5 + 1) else (year + 400 * era, month + 3, rest - (153 * month + 2) / 5 + 1) := by
    unfold dateRef
    simp only [← hz, ← hera, ← hof, ← hyear, ← hrest, ← hmonth]
  have hmid := midRef_ok h1
  have hmm : midRef n = (year, rest) := by
    unfold midRef
    simp only [← hz, ← hof, ← hyear, ← hrest]
  rw [hmm] at hmid
  simp only at hmid
  have b0 : 0 ≤ of ∧ of ≤ 146096 := by omega
  have b1 : 0 ≤ era ∧ era ≤ 100 := by omega
  have b5 : 0 ≤ month ∧ month ≤ 100000 := by omega
  unfold frD
  rw [hd]
  by_cases hm : month + 3 > 12
  · rw [if_pos hm]
    simp (disch := first | omega | (simp; done) | (simp; omega)) [ltT, ltF, leT, leF, eqT', eqF, ltTn, leTn, ltFn, leFn, wrapI, tdivP, tmodP, mid, c38, ← hz, ← hera, ← hof, ← hyear, ← hrest, ← hmonth]
    exact rshift_d hok
  · rw [if_neg hm]
    simp (disch := first | omega | (simp; done) | (simp; omega)) [ltT, ltF, leT, leF, eqT', eqF, ltTn, leTn, ltFn, leFn, wrapI, tdivP, tmodP, mid, c38, ← hz, ← hera, ← hof, ← hyear, ← hrest, ← hmonth]
    exact rshift_d hok

theorem seconds_V (m : Mo) (hm : m.ok) (h : List Blk) : CallP Tryd.prog 25 [.d (encMo m)] h (.d (.int .i64 m.secs)) := by
  refine callW tb_ok fn25 (by simp) (fun hok => ?_)
  have hr := Mo.day_range hm
  unfold Mo.day at hr
  obtain ⟨⟨h1, h2, h3, h4, h5, h6⟩, h7, h8, h9⟩ := id hm
  have hdl := dim_le m.y m.m
  simp (disch := first | omega | (simp; done) | (simp; omega)) [ltT, ltF, leT, leF, eqT', eqF, ltTn, leTn, ltFn, leFn, wrapI, tdivP, tmodP, mid, c25]
  refine regV_all ?_
  simp (disch := first | omega | (simp; done) | (simp; omega)) [ltT, ltF, leT, leF, eqT', eqF, ltTn, leTn, ltFn, leFn, wrapI, tdivP, tmodP, mid]
  refine (day23_V m.y m.m m.d h1 (by omega) h3 h4 (by omega) (by omega) _).useV ?_
  have e : 86400 * (dayOf m.y m.m m.d - 1) + 3600 * m.h + 60 * m.mi + m.s = m.secs := by unfold Mo.secs Mo.day; omega
  simp (disch := first | omega | (simp; done) | (simp; omega)) [ltT, ltF, leT, leF, eqT', eqF, ltTn, leTn, ltFn, leFn, wrapI, tdivP, tmodP, mid, e]
  exact rshift_d hok

theorem momentAt_V (n : Int) (h1 : 0 ≤ n) (h2 : n ≤ 315537897599) (h : List Blk) : CallP Tryd.prog 32 [.d (.int .i64 n)] h (.d (encMo (frS n))) := by
  refine callW tb_ok fn32 (by simp) (fun hok => ?_)
  have e1 : n % 86400 / 60 % 60 = n % 3600 / 60 := by omega
  have e2 : n % 86400 % 60 = n % 60 := by omega
  simp (disch := first | omega | (simp; done) | (simp; omega)) [ltT, ltF, leT, leF, eqT', eqF, ltTn, leTn, ltFn, leFn, wrapI, tdivP, tmodP, mid, c32]
  refine (date38_V (n / 86400 + 1) (by omega) (by omega) _).useV ?_
  simp (disch := first | omega | (simp; done) | (simp; omega)) [ltT, ltF, leT, leF, eqT', eqF, ltTn, leTn, ltFn, leFn, wrapI, tdivP, tmodP, mid, frD, frS, e1, e2]
  exact rshift_d hok

theorem weekdayOf_V (n : Int) (h1 : 0 ≤ n) (h2 : n ≤ 100000000) (h : List Blk) : CallP Tryd.prog 26 [.d (.int .i64 n)] h (.d (.int .i64 ((n + 6) % 7))) := by
  refine callW tb_ok fn26 (by simp) (fun hok => ?_)
  simp (disch := first | omega | (simp; done) | (simp; omega)) [ltT, ltF, leT, leF, eqT', eqF, ltTn, leTn, ltFn, leFn, wrapI, tdivP, tmodP, mid, c26]

theorem weekOf_V (n : Int) (h1 : 1 ≤ n) (h2 : n ≤ 3652059) (h : List Blk) : CallP Tryd.prog 24 [.d (.int .i64 n)] h (.tup [.d (.int .i64 (weekR n).1), .d (.int .i64 (weekR n).2)]) := by
  refine callW tb_ok fn24 (by simp) (fun hok => ?_)
  obtain ⟨th, hth⟩ : ∃ x, x = n - (n + 6) % 7 + 3 := ⟨_, rfl⟩
  have ht : 1 ≤ th ∧ th ≤ 3652062 := by omega
  obtain ⟨hv, hd⟩ := dateRef_okG ht.1
  have hb := dayOf_bnd hv
  rw [hd] at hb
  have hy : (dateRef th).1 ≤ 10000 := by
    rcases Int.lt_or_le 10000 (dateRef th).1 with h | h
    · have := dB_mono (y := 10001) (z := (dateRef th).1) (by omega)
      have : dB 10001 = 3652425 := by rfl
      omega
    · exact h
  have hy1 := hv.1
  unfold weekR
  simp only [← hth]
  obtain ⟨y, hyy⟩ : ∃ y, (dateRef th).1 = y := ⟨_, rfl⟩
  rw [hyy] at hy hy1 hb
  rw [hyy]
  have hf := dayOf_first y
  have hnn := dB_nonneg hy1
  simp (disch := first | omega | (simp; done) | (simp; omega)) [ltT, ltF, leT, leF, eqT', eqF, ltTn, leTn, ltFn, leFn, wrapI, tdivP, tmodP, mid, c24]
  refine (weekdayOf_V n (by omega) (by omega) _).useV ?_
  simp (disch := first | omega | (simp; done) | (simp; omega)) [ltT, ltF, leT, leF, eqT', eqF, ltTn, leTn, ltFn, leFn, wrapI, tdivP, tmodP, mid, ← hth]
  refine (date38_V th (by omega) (by omega) _).useV ?_
  have e : encMo (frD th) = .agg [.int .i64 (dateRef th).1, .int .i64 (dateRef th).2.1, .int .i64 (dateRef th).2.2, .int .i64 0, .int .i64 0, .int .i64 0] := rfl
  rw [e]
  simp (disch := first | omega | (simp; done) | (simp; omega)) [ltT, ltF, leT, leF, eqT', eqF, ltTn, leTn, ltFn, leFn, wrapI, tdivP, tmodP, mid, hyy, -fold_Mo]
  refine (day23_V y 1 1 (by omega) (by omega) (by omega) (by omega) (by omega) (by omega) _).useV ?_
  rw [hf]
  simp (disch := first | omega | (simp; done) | (simp; omega)) [ltT, ltF, leT, leF, eqT', eqF, ltTn, leTn, ltFn, leFn, wrapI, tdivP, tmodP, mid]

theorem weeks36_V (y : Int) (h1 : 1 ≤ y) (h2 : y ≤ 9999) (h : List Blk) : CallP Tryd.prog 36 [.d (.int .i64 y)] h (.d (.int .i64 (weeksR y))) := by
  refine callW tb_ok fn36 (by simp) (fun hok => ?_)
  have hb := dB_nonneg h1
  have hl := dB_le (y := y) (by omega)
  have hf := dayOf_first y
  have e7 : (dB y + 1 + 6) % 7 = dB y % 7 := by omega
  simp (disch := first | omega | (simp; done) | (simp; omega)) [ltT, ltF, leT, leF, eqT', eqF, ltTn, leTn, ltFn, leFn, wrapI, tdivP, tmodP, mid, c36]
  refine (day23_V y 1 1 (by omega) (by omega) (by omega) (by omega) (by omega) (by omega) _).useV ?_
  rw [hf]
  simp (disch := first | omega | (simp; done) | (simp; omega)) [ltT, ltF, leT, leF, eqT', eqF, ltTn, leTn, ltFn, leFn, wrapI, tdivP, tmodP, mid]
  refine (weekdayOf_V (dB y + 1) (by omega) (by omega) _).useV ?_
  rw [e7]
  unfold weeksR
  by_cases a1 : dB y % 7 = 3
  · simp (disch := first | omega | (simp; done) | (simp; omega)) [ltT, ltF, leT, leF, eqT', eqF, ltTn, leTn, ltFn, leFn, wrapI, tdivP, tmodP, mid, a1]
  · by_cases a2 : dB y % 7 = 2
    · simp (disch := first | omega | (simp; done) | (simp; omega)) [ltT, ltF, leT, leF, eqT', eqF, ltTn, leTn, ltFn, leFn, wrapI, tdivP, tmodP, mid, a1, a2]
      refine (daysOf_V y 2 (by omega) (by omega) (by omega) _).useV ?_
      by_cases a3 : dim y 2 = 29
      · simp (disch := first | omega | (simp; done) | (simp; omega)) [ltT, ltF, leT, leF, eqT', eqF, ltTn, leTn, ltFn, leFn, wrapI, tdivP, tmodP, mid, a1, a2, a3]
      · simp (disch := first | omega | (simp; done) | (simp; omega)) [ltT, ltF, leT, leF, eqT', eqF, ltTn, leTn, ltFn, leFn, wrapI, tdivP, tmodP, mid, a1, a2, a3]
    · simp (disch := first | omega | (simp; done) | (simp; omega)) [ltT, ltF, leT, leF, eqT', eqF, ltTn, leTn, ltFn, leFn, wrapI, tdivP, tmodP, mid, a1, a2]

theorem weekDay37_V (y w d : Int) (h1 : 1 ≤ y) (h2 : y ≤ 9999) (h3 : -1000 ≤ w) (h4 : w ≤ 1000) (h5 : -1000 ≤ d) (h6 : d ≤ 1000) (h : List Blk) :
    CallP Tryd.prog 37 [.d (.int .i64 y), .d (.int .i64 w), .d (.int .i64 d)] h (.d (.int .i64 (fm y + 7 * (w - 1) + d))) := by
  refine callW tb_ok fn37 (by simp) (fun hok => ?_)
  have hb := dB_nonneg h1
  have hl := dB_le (y := y) (by omega)
  have hf := dayOf_first y
  have e7 : (dB y + 1 + 6) % 7 = dB y % 7 := by omega
  simp (disch := first | omega | (simp; done) | (simp; omega)) [ltT, ltF, leT, leF, eqT', eqF, ltTn, leTn, ltFn, leFn, wrapI, tdivP, tmodP, mid, c37]
  refine (day23_V y 1 1 (by omega) (by omega) (by omega) (by omega) (by omega) (by omega) _).useV ?_
  rw [hf]
  simp (disch := first | omega | (simp; done) | (simp; omega)) [ltT, ltF, leT, leF, eqT', eqF, ltTn, leTn, ltFn, leFn, wrapI, tdivP, tmodP, mid]
  refine (weekdayOf_V (dB y + 1) (by omega) (by omega) _).useV ?_
  rw [e7]
  by_cases a1 : 3 < dB y % 7
  · have e : dB y + 1 + 7 - dB y % 7 = fm y := by unfold fm; omega
    have := fm_bnd y
    simp (disch := first | omega | (simp; done) | (simp; omega)) [ltT, ltF, leT, leF, eqT', eqF, ltTn, leTn, ltFn, leFn, wrapI, tdivP, tmodP, mid, a1, e]
  · have e : dB y + 1 - dB y % 7 = fm y := by unfold fm; omega
    have := fm_bnd y
    simp (disch := first | omega | (simp; done) | (simp; omega)) [ltT, ltF, leT, leF, eqT', eqF, ltTn, leTn, ltFn, leFn, wrapI, tdivP, tmodP, mid, a1, e]

end Go.Vm

/- date: what the package exports, but for texts. -/
namespace Go.Vm
open Proofs
set_option maxRecDepth 20000
set_option maxHeartbeats 1000000
set_option linter.unusedSimpArgs false

theorem number20_V (m : Mo) (h : List Blk) : CallP Tryd.prog 20 [.d (encMo m)] h (.tup [.d (.int .i64 (if (momF m).1 ≠ 0 then 0 else m.secs)), .d (encF (momF m))]) := by
  refine callW tb_ok fn20 (by simp) (fun hok => ?_)
  simp (disch := first | omega | (simp; done) | (simp; omega)) [ltT, ltF, leT, leF, eqT', eqF, ltTn, leTn, ltFn, leFn, wrapI, tdivP, tmodP, mid, c20]
  refine (check_V m _).useV ?_
  by_cases h1 : (momF m).1 ≠ 0
  · simp (disch := first | omega | (simp; done) | (simp; omega)) [ltT, ltF, leT, leF, eqT', eqF, ltTn, leTn, ltFn, leFn, wrapI, tdivP, tmodP, mid, h1]
    exact RShift.subs ⟨.refl _, .refl _, trivial⟩ (by simp) hok (Nat.le_refl _)
  obtain ⟨hz, hm⟩ := momF_ok h1
  simp (disch := first | omega | (simp; done) | (simp; omega)) [ltT, ltF, leT, leF, eqT', eqF, ltTn, leTn, ltFn, leFn, wrapI, tdivP, tmodP, mid, hz]
  refine (number_V m hm _).useV ?_
  simp (disch := first | omega | (simp; done) | (simp; omega)) [ltT, ltF, leT, leF, eqT', eqF, ltTn, leTn, ltFn, leFn, wrapI, tdivP, tmodP, mid]
  exact RShift.subs ⟨.refl _, .refl _, trivial⟩ (by simp) hok (Nat.le_refl _)

theorem weekday21_V (m : Mo) (h : List Blk) : CallP Tryd.prog 21 [.d (encMo m)] h (.tup [.d (.int .i64 (if (momF m).1 ≠ 0 then 0 else (m.day - 1) % 7)), .d (encF (momF m))]) := by
  refine callW tb_ok fn21 (by simp) (fun hok => ?_)
  simp (disch := first | omega | (simp; done) | (simp; omega)) [ltT, ltF, leT, leF, eqT', eqF, ltTn, leTn, ltFn, leFn, wrapI, tdivP, tmodP, mid, c21]
  refine (check_V m _).useV ?_
  by_cases h1 : (momF m).1 ≠ 0
  · simp (disch := first | omega | (simp; done) | (simp; omega)) [ltT, ltF, leT, leF, eqT', eqF, ltTn, leTn, ltFn, leFn, wrapI, tdivP, tmodP, mid, h1]
    exact RShift.subs ⟨.refl _, .refl _, trivial⟩ (by simp) hok (Nat.le_refl _)
  obtain ⟨hz, hm⟩ := momF_ok h1
  have hr := Mo.day_range hm
  simp (disch := first | omega | (simp; done) | (simp; omega)) [ltT, ltF, leT, leF, eqT', eqF, ltTn, leTn, ltFn, leFn, wrapI, tdivP, tmodP, mid, hz]
  refine (dayNumber_V m hm _).useV ?_
  simp (disch := first | omega | (simp; done) | (simp; omega)) [ltT, ltF, leT, leF, eqT', eqF, ltTn, leTn, ltFn, leFn, wrapI, tdivP, tmodP, mid]
  refine (weekday_V m.day (by omega) (by omega) _).useV ?_
  simp (disch := first | omega | (simp; done) | (simp; omega)) [ltT, ltF, leT, leF, eqT', eqF, ltTn, leTn, ltFn, leFn, wrapI, tdivP, tmodP, mid]
  exact RShift.subs ⟨.refl _, .refl _, trivial⟩ (by simp) hok (Nat.le_refl _)

theorem week22_V (m : Mo) (h : List Blk) : CallP Tryd.prog 22 [.d (encMo m)] h (.tup [.d (.int .i64 (if (momF m).1 ≠ 0 then 0 else (weekS m.y m.day).1)), .d (.int .i64 (if (momF m).1 ≠ 0 then 0 else (weekS m.y m.day).2)), .d (encF (momF m))]) := by
  refine callW tb_ok fn22 (by simp) (fun hok => ?_)
  simp (disch := first | omega | (simp; done) | (simp; omega)) [ltT, ltF, leT, leF, eqT', eqF, ltTn, leTn, ltFn, leFn, wrapI, tdivP, tmodP, mid, c22]
  refine (check_V m _).useV ?_
  by_cases h1 : (momF m).1 ≠ 0
  · simp (disch := first | omega | (simp; done) | (simp; omega)) [ltT, ltF, leT, leF, eqT', eqF, ltTn, leTn, ltFn, leFn, wrapI, tdivP, tmodP, mid, h1]
    exact RShift.subs ⟨.refl _, .refl _, .refl _, trivial⟩ (by simp) hok (Nat.le_refl _)
  obtain ⟨hz, hm⟩ := momF_ok h1
  simp (disch := first | omega | (simp; done) | (simp; omega)) [ltT, ltF, leT, leF, eqT', eqF, ltTn, leTn, ltFn, leFn, wrapI, tdivP, tmodP, mid, hz]
  refine (week_V m hm _).useV ?_
  simp (disch := first | omega | (simp; done) | (simp; omega)) [ltT, ltF, leT, leF, eqT', eqF, ltTn, leTn, ltFn, leFn, wrapI, tdivP, tmodP, mid]
  exact RShift.subs ⟨.refl _, .refl _, .refl _, trivial⟩ (by simp) hok (Nat.le_refl _)

theorem at31_V (n : Int) (h : List Blk) : CallP Tryd.prog 31 [.d (.int .i64 n)] h (.tup [.d (encMo (if n < 0 ∨ 315537897599 < n then mo0 else frS n)), .d (encF (if n < 0 ∨ 315537897599 < n then (4, -1) else (0, 0)))]) := by
  refine callW tb_ok fn31 (by simp) (fun hok => ?_)
  by_cases h1 : n < 0
  · rw [if_pos (.inl h1), if_pos (.inl h1)]
    simp (disch := first | omega | (simp; done) | (simp; omega)) [ltT, ltF, leT, leF, eqT', eqF, ltTn, leTn, ltFn, leFn, wrapI, tdivP, tmodP, mid, c31, h1]
    exact RShift.subs ⟨.refl _, .refl _, trivial⟩ (by simp) hok (Nat.le_refl _)
  · by_cases h2 : 315537897599 < n
    · rw [if_pos (.inr h2), if_pos (.inr h2)]
      simp (disch := first | omega | (simp; done) | (simp; omega)) [ltT, ltF, leT, leF, eqT', eqF, ltTn, leTn, ltFn, leFn, wrapI, tdivP, tmodP, mid, c31, h1, h2]
      exact RShift.subs ⟨.refl _, .refl _, trivial⟩ (by simp) hok (Nat.le_refl _)
    · rw [if_neg (by omega), if_neg (by omega)]
      simp (disch := first | omega | (simp; done) | (simp; omega)) [ltT, ltF, leT, leF, eqT', eqF, ltTn, leTn, ltFn, leFn, wrapI, tdivP, tmodP, mid, c31, h1, h2]
      refine (at_V' n (by omega) (by omega) _).useV ?_
      simp (disch := first | omega | (simp; done) | (simp; omega)) [ltT, ltF, leT, leF, eqT', eqF, ltTn, leTn, ltFn, leFn, wrapI, tdivP, tmodP, mid]
      exact RShift.subs ⟨.refl _, .refl _, trivial⟩ (by simp) hok (Nat.le_refl _)

def fromWeekS (y w d : Int) : Mo × (Int × Int) :=
  if y < 1 ∨ 9999 < y then (mo0, (4, -1)) else if w < 1 ∨ weeksR y < w then (mo0, (4, -2)) else if d < 0 ∨ 6 < d then (mo0, (4, -3))
  else if 3652059 < fm y + 7 * (w - 1) + d then (mo0, (4, -3)) else (frD (fm y + 7 * (w - 1) + d), (0, 0))

theorem weeksR_le (y : Int) : weeksR y = 52 ∨ weeksR y = 53 := by unfold weeksR; split <;> simp
theorem fm_pos {y : Int} (h : 1 ≤ y) : 1 ≤ fm y := by
  rcases Int.lt_or_le 1 y with h1 | h1
  · have h2 := fm_bnd y
    have h3 := dB_mono (y := 2) (z := y) (by omega)
    have : dB 2 = 365 := rfl
    omega
  · have : y = 1 := by omega
    rw [this, fm_one]; omega

theorem fromWeek_V (y w d : Int) (h : List Blk) : CallP Tryd.prog 35 [.d (.int .i64 y), .d (.int .i64 w), .d (.int .i64 d)] h (.tup [.d (encMo (fromWeekS y w d).1), .d (encF (fromWeekS y w d).2)]) := by
  refine callW tb_ok fn35 (by simp) (fun hok => ?_)
  by_cases h1 : y < 1 ∨ 9999 < y
  · rw [show fromWeekS y w d = (mo0, (4, -1)) from by unfold fromWeekS; rw [if_pos h1]]
    by_cases h2 : y < 1
    · simp (disch := first | omega | (simp; done) | (simp; omega)) [ltT, ltF, leT, leF, eqT', eqF, ltTn, leTn, ltFn, leFn, wrapI, tdivP, tmodP, mid, c35, h2]
      exact RShift.subs ⟨.refl _, .refl _, trivial⟩ (by simp) hok (Nat.le_refl _)
    · have h3 : 9999 < y := by omega
      simp (disch := first | omega | (simp; done) | (simp; omega)) [ltT, ltF, leT, leF, eqT', eqF, ltTn, leTn, ltFn, leFn, wrapI, tdivP, tmodP, mid, c35, h2, h3]
      exact RShift.subs ⟨.refl _, .refl _, trivial⟩ (by simp) hok (Nat.le_refl _)
  have b1 : 1 ≤ y := by omega
  have b2 : y ≤ 9999 := by omega
  have f0 := fm_bnd y
  have f1 := fm_bnd (y + 1)
  have f2 := fm_pos b1
  have g0 := dB_nonneg b1
  have g1 := dB_le (y := y + 1) (by omega)
  have g2 := dB_mono (y := y) (z := y + 1) (by omega)
  have g3 := weeksR_le y
  have g4 := weeks_eq y
  have hs := dB_succ y
  have hn := leapN_le y
  by_cases h2 : w < 1
  · rw [show fromWeekS y w d = (mo0, (4, -2)) from by unfold fromWeekS; rw [if_neg h1, if_pos (.inl h2)]]
    simp (disch := first | omega | (simp; done) | (simp; omega)) [ltT, ltF, leT, leF, eqT', eqF, ltTn, leTn, ltFn, leFn, wrapI, tdivP, tmodP, mid, c35, h2]
    exact RShift.subs ⟨.refl _, .refl _, trivial⟩ (by simp) hok (Nat.le_refl _)
  simp (disch := first | omega | (simp; done) | (simp; omega)) [ltT, ltF, leT, leF, eqT', eqF, ltTn, leTn, ltFn, leFn, wrapI, tdivP, tmodP, mid, c35, h2]
  refine (firstMonday_V (y + 1) (by omega) (by omega) _).useV ?_
  simp (disch := first | omega | (simp; done) | (simp; omega)) [ltT, ltF, leT, leF, eqT', eqF, ltTn, leTn, ltFn, leFn, wrapI, tdivP, tmodP, mid]
  refine (firstMonday_V y (by omega) (by omega) _).useV ?_
  by_cases h3 : weeksR y < w
  · rw [show fromWeekS y w d = (mo0, (4, -2)) from by unfold fromWeekS; rw [if_neg h1, if_pos (.inr h3)]]
    simp (disch := first | omega | (simp; done) | (simp; omega)) [ltT, ltF, leT, leF, eqT', eqF, ltTn, leTn, ltFn, leFn, wrapI, tdivP, tmodP, mid, g4, h3]
    exact RShift.subs ⟨.refl _, .refl _, trivial⟩ (by simp) hok (Nat.le_refl _)
  by_cases h4 : d < 0
  · rw [show fromWeekS y w d = (mo0, (4, -3)) from by unfold fromWeekS; rw [if_neg h1, if_neg (by omega), if_pos (.inl h4)]]
    simp (disch := first | omega | (simp; done) | (simp; omega)) [ltT, ltF, leT, leF, eqT', eqF, ltTn, leTn, ltFn, leFn, wrapI, tdivP, tmodP, mid, g4, h3, h4]
    exact RShift.subs ⟨.refl _, .refl _, trivial⟩ (by simp) hok (Nat.le_refl _)
  by_cases h5 : 6 < d
  · rw [show fromWeekS y w d = (mo0, (4, -3)) from by unfold fromWeekS; rw [if_neg h1, if_neg (by omega), if_pos (.inr h5)]]
    simp (disch := first | omega | (simp; done) | (simp; omega)) [ltT, ltF, leT, leF, eqT', eqF, ltTn, leTn, ltFn, leFn, wrapI, tdivP, tmodP, mid, g4, h3, h4, h5]
    exact RShift.subs ⟨.refl _, .refl _, trivial⟩ (by simp) hok (Nat.le_refl _)
  simp (disch := first | omega | (simp; done) | (simp; omega)) [ltT, ltF, leT, leF, eqT', eqF, ltTn, leTn, ltFn, leFn, wrapI, tdivP, tmodP, mid, g4, h3, h4, h5]
  refine (firstMonday_V y (by omega) (by omega) _).useV ?_
  by_cases h6 : 3652059 < fm y + 7 * (w - 1) + d
  · rw [show fromWeekS y w d = (mo0, (4, -3)) from by unfold fromWeekS; rw [if_neg h1, if_neg (by omega), if_neg (by omega), if_pos h6]]
    simp (disch := first | omega | (simp; done) | (simp; omega)) [ltT, ltF, leT, leF, eqT', eqF, ltTn, leTn, ltFn, leFn, wrapI, tdivP, tmodP, mid, h6]
    exact RShift.subs ⟨.refl _, .refl _, trivial⟩ (by simp) hok (Nat.le_refl _)
  · rw [show fromWeekS y w d = (frD (fm y + 7 * (w - 1) + d), (0, 0)) from by unfold fromWeekS; rw [if_neg h1, if_neg (by omega), if_neg (by omega), if_neg h6]]
    simp (disch := first | omega | (simp; done) | (simp; omega)) [ltT, ltF, leT, leF, eqT', eqF, ltTn, leTn, ltFn, leFn, wrapI, tdivP, tmodP, mid, h6]
    refine (fromDay_V _ (by omega) (by omega) _).useV ?_
    simp (disch := first | omega | (simp; done) | (simp; omega)) [ltT, ltF, leT, leF, eqT', eqF, ltTn, leTn, ltFn, leFn, wrapI, tdivP, tmodP, mid]
    exact RShift.subs ⟨.refl _, .refl _, trivial⟩ (by simp) hok (Nat.le_refl _)

def addMonthsS (m : Mo) (n : Int) : Mo × (Int × Int) :=
  if (momF m).1 ≠ 0 then (mo0, momF m) else if n < -120000 ∨ 120000 < n then (mo0, (4, -2)) else match addS m n with
    | some x => (x, (0, 0))
    | none => (mo0, (4, -3))

theorem addMonths27_V (m : Mo) (n : Int) (h : List Blk) : CallP Tryd.prog 27 [.d (encMo m), .d (.int .i64 n)] h (.tup [.d (encMo (addMonthsS m n).1), .d (encF (addMonthsS m n).2)]) := by
  refine callW tb_ok fn27 (by simp) (fun hok => ?_)
  simp (disch := first | omega | (simp; done) | (simp; omega)) [ltT, ltF, leT, leF, eqT', eqF, ltTn, leTn, ltFn, leFn, wrapI, tdivP, tmodP, mid, c27]
  refine (check_V m _).useV ?_
  by_cases h1 : (momF m).1 ≠ 0
  · rw [show addMonthsS m n = (mo0, momF m) from by unfold addMonthsS; rw [if_pos h1]]
    simp (disch := first | omega | (simp; done) | (simp; omega)) [ltT, ltF, leT, leF, eqT', eqF, ltTn, leTn, ltFn, leFn, wrapI, tdivP, tmodP, mid, h1]
    refine regV_all ?_
    simp (disch := first | omega | (simp; done) | (simp; omega)) [ltT, ltF, leT, leF, eqT', eqF, ltTn, leTn, ltFn, leFn, wrapI, tdivP, tmodP, mid]
    exact RShift.subs ⟨.refl _, .refl _, trivial⟩ (by simp) hok (Nat.le_refl _)
  obtain ⟨hz, hm⟩ := momF_ok h1
  by_cases h2 : n < -120000
  · rw [show addMonthsS m n = (mo0, (4, -2)) from by unfold addMonthsS; rw [if_neg h1, if_pos (.inl h2)]]
    simp (disch := first | omega | (simp; done) | (simp; omega)) [ltT, ltF, leT, leF, eqT', eqF, ltTn, leTn, ltFn, leFn, wrapI, tdivP, tmodP, mid, hz, h2]
    exact RShift.subs ⟨.refl _, .refl _, trivial⟩ (by simp) hok (Nat.le_refl _)
  by_cases h3 : 120000 < n
  · rw [show addMonthsS m n = (mo0, (4, -2)) from by unfold addMonthsS; rw [if_neg h1, if_pos (.inr h3)]]
    simp (disch := first | omega | (simp; done) | (simp; omega)) [ltT, ltF, leT, leF, eqT', eqF, ltTn, leTn, ltFn, leFn, wrapI, tdivP, tmodP, mid, hz, h2, h3]
    exact RShift.subs ⟨.refl _, .refl _, trivial⟩ (by simp) hok (Nat.le_refl _)
  simp (disch := first | omega | (simp; done) | (simp; omega)) [ltT, ltF, leT, leF, eqT', eqF, ltTn, leTn, ltFn, leFn, wrapI, tdivP, tmodP, mid, hz, h2, h3]
  refine (addMonths_V' m n hm (by omega) (by omega) _).useV ?_
  cases ha : addS m n with
  | some x =>
    rw [show addMonthsS m n = (x, (0, 0)) from by unfold addMonthsS; rw [if_neg h1, if_neg (by omega), ha]]
    simp (disch := first | omega | (simp; done) | (simp; omega)) [ltT, ltF, leT, leF, eqT', eqF, ltTn, leTn, ltFn, leFn, wrapI, tdivP, tmodP, mid, ha]
    exact RShift.subs ⟨.refl _, .refl _, trivial⟩ (by simp) hok (Nat.le_refl _)
  | none =>
    rw [show addMonthsS m n = (mo0, (4, -3)) from by unfold addMonthsS; rw [if_neg h1, if_neg (by omega), ha]]
    simp (disch := first | omega | (simp; done) | (simp; omega)) [ltT, ltF, leT, leF, eqT', eqF, ltTn, leTn, ltFn, leFn, wrapI, tdivP, tmodP, mid, ha]
    exact RShift.subs ⟨.refl _, .refl _, trivial⟩ (by simp) hok (Nat.le_refl _)

/-- The reference's months. -/
theorem months_V (m : Mo) (n : Int) (hm : m.ok) (hn : -1000000 ≤ n) (hn2 : n ≤ 1000000) (h : List Blk) :
    CallP Tryd.prog 30 [.d (encMo m), .d (.int .i64 n)] h (.tup [.d (encMo ((addS m n).getD mo0)), .d (.bool (addS m n).isSome)]) := by
  refine callW tb_ok fn30 (by simp) (fun hok => ?_)
  obtain ⟨⟨h1, h2, h3, h4, h5, h6⟩, h7, h8, h9⟩ := id hm
  obtain ⟨k, hk⟩ : ∃ k, k = 12 * m.y + m.m - 1 + n := ⟨_, rfl⟩
  obtain ⟨q, hq⟩ : ∃ q, q = n.tdiv 12 := ⟨_, rfl⟩
  obtain ⟨r, hr⟩ : ∃ r, r = n.tmod 12 := ⟨_, rfl⟩
  have hqr := tdiv_cases n 12 (by omega)
  rw [← hq, ← hr] at hqr
  unfold addS
  simp only [← hk]
  by_cases b1 : 12 < m.m + r
  · have b2 : ¬ m.m + r - 12 < 1 := by omega
    have e1 : k / 12 = m.y + q + 1 := by omega
    have e2 : k % 12 + 1 = m.m + r - 12 := by omega
    by_cases b3 : k < 12 ∨ 120000 ≤ k
    · rw [if_pos b3]
      have b4 : ¬ (1 ≤ m.y + q + 1 ∧ m.y + q + 1 ≤ 9999) := by omega
      simp (disch := first | omega | (simp; done) | (simp; omega)) [ltT, ltF, leT, leF, eqT', eqF, ltTn, leTn, ltFn, leFn, wrapI, mid, c30, ← hq, ← hr, b1, b2]
      refine (in_V _ _ _ _).useV ?_
      simp (disch := first | omega | (simp; done) | (simp; omega)) [ltT, ltF, leT, leF, eqT', eqF, ltTn, leTn, ltFn, leFn, wrapI, mid, b4]
      exact RShift.subs ⟨.refl _, .refl _, trivial⟩ (by simp) hok (Nat.le_refl _)
    · rw [if_neg b3, e1, e2]
      have b4 : 1 ≤ m.y + q + 1 ∧ m.y + q + 1 ≤ 9999 := by omega
      simp (disch := first | omega | (simp; done) | (simp; omega)) [ltT, ltF, leT, leF, eqT', eqF, ltTn, leTn, ltFn, leFn, wrapI, mid, c30, ← hq, ← hr, b1, b2]
      refine (in_V _ _ _ _).useV ?_
      simp (disch := first | omega | (simp; done) | (simp; omega)) [ltT, ltF, leT, leF, eqT', eqF, ltTn, leTn, ltFn, leFn, wrapI, mid, b4]
      refine regV_all ?_
      simp (disch := first | omega | (simp; done) | (simp; omega)) [ltT, ltF, leT, leF, eqT', eqF, ltTn, leTn, ltFn, leFn, wrapI, mid]
      refine (daysOf_V _ _ (by omega) (by omega) (by omega) _).useV ?_
      by_cases b5 : dim (m.y + q + 1) (m.m + r - 12) < m.d
      · have e5 : min m.d (dim (m.y + q + 1) (m.m + r - 12)) = dim (m.y + q + 1) (m.m + r - 12) := by omega
        simp (disch := first | omega | (simp; done) | (simp; omega)) [ltT, ltF, leT, leF, eqT', eqF, ltTn, leTn, ltFn, leFn, wrapI, mid, b5, e5]
        refine (daysOf_V _ _ (by omega) (by omega) (by omega) _).useV ?_
        simp (disch := first | omega | (simp; done) | (simp; omega)) [ltT, ltF, leT, leF, eqT', eqF, ltTn, leTn, ltFn, leFn, wrapI, mid]
        exact RShift.subs ⟨.refl _, .refl _, trivial⟩ (by simp) hok (Nat.le_refl _)
      · have e5 : min m.d (dim (m.y + q + 1) (m.m + r - 12)) = m.d := by omega
        simp (disch := first | omega | (simp; done) | (simp; omega)) [ltT, ltF, leT, leF, eqT', eqF, ltTn, leTn, ltFn, leFn, wrapI, mid, b5, e5]
        exact RShift.subs ⟨.refl _, .refl _, trivial⟩ (by simp) hok (Nat.le_refl _)
  · by_cases b2 : m.m + r < 1
    · skip
      have e1 : k / 12 = m.y + q - 1 := by omega
      have e2 : k % 12 + 1 = m.m + r + 12 := by omega
      by_cases b3 : k < 12 ∨ 120000 ≤ k
      · rw [if_pos b3]
        have b4 : ¬ (1 ≤ m.y + q - 1 ∧ m.y + q - 1 ≤ 9999) := by omega
        simp (disch := first | omega | (simp; done) | (simp; omega)) [ltT, ltF, leT, leF, eqT', eqF, ltTn, leTn, ltFn, leFn, wrapI, mid, c30, ← hq, ← hr, b1, b2]
        refine (in_V _ _ _ _).useV ?_
        simp (disch := first | omega | (simp; done) | (simp; omega)) [ltT, ltF, leT, leF, eqT', eqF, ltTn, leTn, ltFn, leFn, wrapI, mid, b4]
        exact RShift.subs ⟨.refl _, .refl _, trivial⟩ (by simp) hok (Nat.le_refl _)
      · rw [if_neg b3, e1, e2]
        have b4 : 1 ≤ m.y + q - 1 ∧ m.y + q - 1 ≤ 9999 := by omega
        simp (disch := first | omega | (simp; done) | (simp; omega)) [ltT, ltF, leT, leF, eqT', eqF, ltTn, leTn, ltFn, leFn, wrapI, mid, c30, ← hq, ← hr, b1, b2]
        refine (in_V _ _ _ _).useV ?_
        simp (disch := first | omega | (simp; done) | (simp; omega)) [ltT, ltF, leT, leF, eqT', eqF, ltTn, leTn, ltFn, leFn, wrapI, mid, b4]
        refine regV_all ?_
        simp (disch := first | omega | (simp; done) | (simp; omega)) [ltT, ltF, leT, leF, eqT', eqF, ltTn, leTn, ltFn, leFn, wrapI, mid]
        refine (daysOf_V _ _ (by omega) (by omega) (by omega) _).useV ?_
        by_cases b5 : dim (m.y + q - 1) (m.m + r + 12) < m.d
        · have e5 : min m.d (dim (m.y + q - 1) (m.m + r + 12)) = dim (m.y + q - 1) (m.m + r + 12) := by omega
          simp (disch := first | omega | (simp; done) | (simp; omega)) [ltT, ltF, leT, leF, eqT', eqF, ltTn, leTn, ltFn, leFn, wrapI, mid, b5, e5]
          refine (daysOf_V _ _ (by omega) (by omega) (by omega) _).useV ?_
          simp (disch := first | omega | (simp; done) | (simp; omega)) [ltT, ltF, leT, leF, eqT', eqF, ltTn, leTn, ltFn, leFn, wrapI, mid]
          exact RShift.subs ⟨.refl _, .refl _, trivial⟩ (by simp) hok (Nat.le_refl _)
        · have e5 : min m.d (dim (m.y + q - 1) (m.m + r + 12)) = m.d := by omega
          simp (disch := first | omega | (simp; done) | (simp; omega)) [ltT, ltF, leT, leF, eqT', eqF, ltTn, leTn, ltFn, leFn, wrapI, mid, b5, e5]
          exact RShift.subs ⟨.refl _, .refl _, trivial⟩ (by simp) hok (Nat.le_refl _)
    · skip
      have e1 : k / 12 = m.y + q := by omega
      have e2 : k % 12 + 1 = m.m + r := by omega
      by_cases b3 : k < 12 ∨ 120000 ≤ k
      · rw [if_pos b3]
        have b4 : ¬ (1 ≤ m.y + q ∧ m.y + q ≤ 9999) := by omega
        simp (disch := first | omega | (simp; done) | (simp; omega)) [ltT, ltF, leT, leF, eqT', eqF, ltTn, leTn, ltFn, leFn, wrapI, mid, c30, ← hq, ← hr, b1, b2]
        refine (in_V _ _ _ _).useV ?_
        simp (disch := first | omega | (simp; done) | (simp; omega)) [ltT, ltF, leT, leF, eqT', eqF, ltTn, leTn, ltFn, leFn, wrapI, mid, b4]
        exact RShift.subs ⟨.refl _, .refl _, trivial⟩ (by simp) hok (Nat.le_refl _)
      · rw [if_neg b3, e1, e2]
        have b4 : 1 ≤ m.y + q ∧ m.y + q ≤ 9999 := by omega
        simp (disch := first | omega | (simp; done) | (simp; omega)) [ltT, ltF, leT, leF, eqT', eqF, ltTn, leTn, ltFn, leFn, wrapI, mid, c30, ← hq, ← hr, b1, b2]
        refine (in_V _ _ _ _).useV ?_
        simp (disch := first | omega | (simp; done) | (simp; omega)) [ltT, ltF, leT, leF, eqT', eqF, ltTn, leTn, ltFn, leFn, wrapI, mid, b4]
        refine regV_all ?_
        simp (disch := first | omega | (simp; done) | (simp; omega)) [ltT, ltF, leT, leF, eqT', eqF, ltTn, leTn, ltFn, leFn, wrapI, mid]
        refine (daysOf_V _ _ (by omega) (by omega) (by omega) _).useV ?_
        by_cases b5 : dim (m.y + q) (m.m + r) < m.d
        · have e5 : min m.d (dim (m.y + q) (m.m + r)) = dim (m.y + q) (m.m + r) := by omega
          simp (disch := first | omega | (simp; done) | (simp; omega)) [ltT, ltF, leT, leF, eqT', eqF, ltTn, leTn, ltFn, leFn, wrapI, mid, b5, e5]
          refine (daysOf_V _ _ (by omega) (by omega) (by omega) _).useV ?_
          simp (disch := first | omega | (simp; done) | (simp; omega)) [ltT, ltF, leT, leF, eqT', eqF, ltTn, leTn, ltFn, leFn, wrapI, mid]
          exact RShift.subs ⟨.refl _, .refl _, trivial⟩ (by simp) hok (Nat.le_refl _)
        · have e5 : min m.d (dim (m.y + q) (m.m + r)) = m.d := by omega
          simp (disch := first | omega | (simp; done) | (simp; omega)) [ltT, ltF, leT, leF, eqT', eqF, ltTn, leTn, ltFn, leFn, wrapI, mid, b5, e5]
          exact RShift.subs ⟨.refl _, .refl _, trivial⟩ (by simp) hok (Nat.le_refl _)

end Go.Vm

/- date: spans. -/
namespace Go.Vm
open Proofs
set_option maxRecDepth 20000
set_option maxHeartbeats 1000000
set_option linter.unusedSimpArgs false

def Mo.idx (m : Mo) : Int := 12 * m.y + m.m - 1
def Mo.tod (m : Mo) : Int := (m.h * 60 + m.mi) * 60 + m.s
theorem Mo.tod_bnd {m : Mo} (h : m.ok) : 0 ≤ m.tod ∧ m.tod < 86400 := by
  obtain ⟨_, h1, h2, h3⟩ := h
  unfold Mo.tod; omega
theorem Mo.secs_eq (m : Mo) : m.secs = (m.day - 1) * 86400 + m.tod := rfl
theorem Mo.day_idx {m : Mo} (h : m.ok) : m.day = mStart m.idx + m.d ∧ m.d ≤ dim (m.idx / 12) (m.idx % 12 + 1) ∧ 12 ≤ m.idx ∧ m.idx < 120000 := by
  have hd := day_in h.1.g
  have e : 12 * m.y + (m.m - 1) = m.idx := by unfold Mo.idx; omega
  rw [e] at hd
  obtain ⟨h1, h2, h3, h4, h5, h6⟩ := h.1
  refine ⟨hd.1, hd.2, ?_, ?_⟩ <;> (unfold Mo.idx; omega)

theorem addS_some {m x : Mo} {n : Int} (hm : m.ok) (h : addS m n = some x) : x.ok ∧ x.idx = m.idx + n ∧ x.tod = m.tod ∧ x.d = min m.d (dim (x.idx / 12) (x.idx % 12 + 1)) ∧ x.h = m.h ∧ x.mi = m.mi ∧ x.s = m.s := by
  obtain ⟨⟨h1, h2, h3, h4, h5, h6⟩, h7, h8, h9⟩ := id hm
  unfold addS at h
  obtain ⟨k, hk⟩ : ∃ k, k = 12 * m.y + m.m - 1 + n := ⟨_, rfl⟩
  simp only [← hk] at h
  by_cases b : k < 12 ∨ 120000 ≤ k
  · rw [if_pos b] at h; cases h
  · rw [if_neg b] at h
    cases h
    have hdm := dim_le (k / 12) (k % 12 + 1)
    have hi : 12 * (k / 12) + (k % 12 + 1) - 1 = k := by omega
    have hmin : 1 ≤ min m.d (dim (k / 12) (k % 12 + 1)) ∧ min m.d (dim (k / 12) (k % 12 + 1)) ≤ dim (k / 12) (k % 12 + 1) := by omega
    refine ⟨⟨⟨?_, ?_, ?_, ?_, ?_, ?_⟩, h7, h8, h9⟩, ?_, rfl, ?_, rfl, rfl, rfl⟩
    · show 1 ≤ k / 12; omega
    · show k / 12 ≤ 9999; omega
    · show 1 ≤ k % 12 + 1; omega
    · show k % 12 + 1 ≤ 12; omega
    · exact hmin.1
    · exact hmin.2
    · show 12 * (k / 12) + (k % 12 + 1) - 1 = m.idx + n
      rw [hi, hk]; unfold Mo.idx; omega
    · show min m.d (dim (k / 12) (k % 12 + 1)) = min m.d (dim ((12 * (k / 12) + (k % 12 + 1) - 1) / 12) ((12 * (k / 12) + (k % 12 + 1) - 1) % 12 + 1))
      rw [hi]

theorem addS_isSome {m : Mo} {n : Int} (h1 : 12 ≤ m.idx + n) (h2 : m.idx + n < 120000) : ∃ x, addS m n = some x := by
  unfold addS
  unfold Mo.idx at h1 h2
  simp only
  rw [if_neg (by omega)]
  exact ⟨_, rfl⟩
theorem addS_none {m : Mo} {n : Int} (h : m.idx + n < 12 ∨ 120000 ≤ m.idx + n) : addS m n = none := by
  unfold addS
  unfold Mo.idx at h
  simp only
  rw [if_pos (by omega)]

/-- Later months are later. -/
theorem idx_day {x y : Mo} (hx : x.ok) (hy : y.ok) (h : x.idx < y.idx) : x.day < y.day := by
  obtain ⟨a1, a2, _, _⟩ := x.day_idx hx
  obtain ⟨b1, b2, _, _⟩ := y.day_idx hy
  have := mStart_succ x.idx
  have := mStart_mono (a := x.idx + 1) (b := y.idx) (by omega)
  have := hy.1.2.2.2.2.1
  omega
theorem idx_secs {x y : Mo} (hx : x.ok) (hy : y.ok) (h : x.idx < y.idx) : x.secs < y.secs := by
  have h1 := idx_day hx hy h
  have h2 := Mo.tod_bnd hx
  have h3 := Mo.tod_bnd hy
  rw [Mo.secs_eq, Mo.secs_eq]
  omega

theorem addS_zero {m : Mo} (hm : m.ok) : addS m 0 = some m := by
  obtain ⟨⟨h1, h2, h3, h4, h5, h6⟩, h7, h8, h9⟩ := id hm
  have e1 : (12 * m.y + m.m - 1 + 0) / 12 = m.y := by omega
  have e2 : (12 * m.y + m.m - 1 + 0) % 12 + 1 = m.m := by omega
  have e3 : min m.d (dim m.y m.m) = m.d := by omega
  unfold addS
  simp only [e1, e2, e3]
  rw [if_neg (by omega)]

/-- Do n months lead not beyond b? -/
def upTo (a b : Mo) (n : Int) : Bool := match addS a n with
  | some x => decide (x.secs ≤ b.secs)
  | none => false
theorem upTo_anti {a b : Mo} (ha : a.ok) {n n' : Int} (h0 : 0 ≤ n) (h1 : n < n') (h : upTo a b n' = true) : upTo a b n = true := by
  have hi := a.day_idx ha
  unfold upTo at h ⊢
  cases hx : addS a n' with
  | none => rw [hx] at h; simp at h
  | some x' =>
    rw [hx] at h
    obtain ⟨b1, b2, _⟩ := addS_some ha hx
    have := x'.day_idx b1
    obtain ⟨x, hx2⟩ := addS_isSome (m := a) (n := n) (by omega) (by omega)
    obtain ⟨c1, c2, _⟩ := addS_some ha hx2
    have := idx_secs c1 b1 (by omega)
    rw [hx2]
    simp only [decide_eq_true_eq] at h ⊢
    omega

structure IsK (a b : Mo) (K : Int) : Prop where
  le : 0 ≤ K
  yes : upTo a b K = true
  no : upTo a b (K + 1) = false

theorem IsK.uniq {a b : Mo} {K n : Int} (ha : a.ok) (h : IsK a b K) (hn : 0 ≤ n) (h1 : upTo a b n = true) (h2 : upTo a b (n + 1) = false) : n = K := by
  rcases Int.lt_trichotomy n K with c | c | c
  · rcases Int.lt_or_le (n + 1) K with d | d
    · have := upTo_anti ha (by omega) d h.yes; rw [this] at h2; cases h2
    · have : n + 1 = K := by omega
      rw [this] at h2; rw [h.yes] at h2; cases h2
  · exact c
  · have hK := h.le
    rcases Int.lt_or_le (K + 1) n with d | d
    · have := upTo_anti ha (by omega) d h1; rw [h.no] at this; cases this
    · have : K + 1 = n := by omega
      have h3 := h.no
      rw [this, h1] at h3; cases h3

/-- The months between two moments. -/
def betK (a b : Mo) : Int := if upTo a b (12 * (b.y - a.y) + b.m - a.m) = true then 12 * (b.y - a.y) + b.m - a.m else 12 * (b.y - a.y) + b.m - a.m - 1
theorem betK_ok {a b : Mo} (ha : a.ok) (hb : b.ok) (h : a.secs ≤ b.secs) : IsK a b (betK a b) := by
  obtain ⟨k, hk⟩ : ∃ k, k = 12 * (b.y - a.y) + b.m - a.m := ⟨_, rfl⟩
  have hai := a.day_idx ha
  have hbi := b.day_idx hb
  have hki : a.idx + k = b.idx := by unfold Mo.idx; omega
  have hk0 : 0 ≤ k := by
    rcases Int.lt_or_le b.idx a.idx with c | c
    · have := idx_secs hb ha c; omega
    · omega
  have hno : upTo a b (k + 1) = false := by
    unfold upTo
    cases hx : addS a (k + 1) with
    | none => rfl
    | some x =>
      obtain ⟨b1, b2, _⟩ := addS_some ha hx
      have := idx_secs hb b1 (by omega)
      simp only [decide_eq_false_iff_not]
      omega
  have h0 : upTo a b 0 = true := by unfold upTo; rw [addS_zero ha]; simpa using h
  unfold betK
  rw [← hk]
  by_cases hy : upTo a b k = true
  · rw [if_pos hy]
    exact ⟨hk0, hy, hno⟩
  · rw [if_neg hy]
    have hk1 : k ≠ 0 := fun e => hy (by rw [e]; exact h0)
    refine ⟨by omega, ?_, ?_⟩
    · unfold upTo
      obtain ⟨x, hx⟩ := addS_isSome (m := a) (n := k - 1) (by omega) (by omega)
      obtain ⟨b1, b2, _⟩ := addS_some ha hx
      have := idx_secs b1 hb (by omega)
      rw [hx]
      simp only [decide_eq_true_eq]
      omega
    · rw [Int.sub_add_cancel]; simpa using hy

def fromK (a b : Mo) : Mo := (addS a (betK a b)).getD mo0
theorem IsK.some {a b : Mo} {K : Int} (h : IsK a b K) (ha : a.ok) : ∃ x, addS a K = some x ∧ x.ok ∧ x.secs ≤ b.secs ∧ K < 120000 := by
  have h1 := h.yes
  unfold upTo at h1
  cases hx : addS a K with
  | none => rw [hx] at h1; cases h1
  | some x =>
    rw [hx] at h1
    obtain ⟨b1, b2, _⟩ := addS_some ha hx
    have := x.day_idx b1
    have := a.day_idx ha
    exact ⟨x, rfl, b1, by simpa using h1, by omega⟩

theorem secs_bnd {m : Mo} (h : m.ok) : 0 ≤ m.secs ∧ m.secs ≤ 315537897599 := by
  have h1 := Mo.day_range h
  have h2 := Mo.tod_bnd h
  rw [Mo.secs_eq]; omega

theorem apart_V (a b : Mo) (ha : a.ok) (hb : b.ok) (hab : a.secs ≤ b.secs) (h : List Blk) : CallP Tryd.prog 34 [.d (encMo a), .d (encMo b)] h (.d (encF (betK a b, b.secs - (fromK a b).secs))) := by
  refine callW tb_ok fn34 (by simp) (fun hok => ?_)
  have hK := betK_ok ha hb hab
  obtain ⟨xK, hxK, hxo, hxs, hK2⟩ := hK.some ha
  have hfk : fromK a b = xK := by unfold fromK; rw [hxK]; rfl
  rw [hfk]
  have sb := secs_bnd hb
  have sx := secs_bnd hxo
  have hH : HOk (h ++ [.cells 23 [.d (encMo a)], .cells 23 [.d (encMo b)], .cells 55 [.d (encF (0, 0))]]) := by
    refine hok.append ?_
    intro z hz
    simp only [List.mem_cons, List.not_mem_nil, or_false] at hz
    rcases hz with rfl | rfl | rfl <;> exact bel_cellsD _ _ _
  simp (disch := first | omega | (simp; done) | (simp; omega)) [ltT, ltF, leT, leF, eqT', eqF, ltTn, leTn, ltFn, leFn, wrapI, mid, c34]
  refine W_loopA (ι := Int × Int) (fun p => 0 ≤ p.1 ∧ p.1 < p.2 ∧ p.2 ≤ 120000 ∧ upTo a b p.1 = true ∧ upTo a b p.2 = false) (fun p => ⟨[(2, .ptr h.length 23 0 0), (3, .ptr (h.length + 1) 23 0 0), (4, .ptr (h.length + 2) 55 0 0), (5, .d (.int .i64 p.1)), (6, .d (.int .i64 p.2))],
    h ++ [.cells 23 [.d (encMo a)], .cells 23 [.d (encMo b)], .cells 55 [.d (encF (0, 0))]]⟩) (fun p => (p.2 - p.1).toNat) (0, 120000) ?_ (Shift.slots' rfl (by simp)) ?_
  · refine ⟨by omega, by omega, by omega, by unfold upTo; rw [addS_zero ha]; simpa using hab, ?_⟩
    unfold upTo
    have := a.day_idx ha
    rw [addS_none (by omega)]
  rintro ⟨low, high⟩ ⟨p1, p2, p3, p4, p5⟩ A hA
  simp only at p1 p2 p3 p4 p5
  by_cases hd : high - low > 1
  · obtain ⟨n, hn⟩ : ∃ n, n = (low + high) / 2 := ⟨_, rfl⟩
    simp (disch := first | omega | (simp; done) | (simp; omega)) [ltT, ltF, leT, leF, eqT', eqF, ltTn, leTn, ltFn, leFn, wrapI, tdivP, tmodP, mid, ← hn]
    refine (months_V a n ha (by omega) (by omega) _).useV ?_
    cases hx : addS a n with
    | none =>
      have hu : upTo a b n = false := by unfold upTo; rw [hx]
      simp (disch := first | omega | (simp; done) | (simp; omega)) [ltT, ltF, leT, leF, eqT', eqF, ltTn, leTn, ltFn, leFn, wrapI, tdivP, tmodP, mid, hx]
      refine regV_all ?_
      simp (disch := first | omega | (simp; done) | (simp; omega)) [ltT, ltF, leT, leF, eqT', eqF, ltTn, leTn, ltFn, leFn, wrapI, tdivP, tmodP, mid]
      exact hA (low, n) _ ⟨by omega, by simp only; omega, by simp only; omega, p4, hu⟩ (by simp only; omega) (Shift.weak' (g := [.cells 23 [.d (encMo mo0)]]) (by simp) hH (by simp) (by simp))
    | some x =>
      obtain ⟨b1, b2, _⟩ := addS_some ha hx
      simp (disch := first | omega | (simp; done) | (simp; omega)) [ltT, ltF, leT, leF, eqT', eqF, ltTn, leTn, ltFn, leFn, wrapI, tdivP, tmodP, mid, hx]
      refine regV_all ?_
      simp (disch := first | omega | (simp; done) | (simp; omega)) [ltT, ltF, leT, leF, eqT', eqF, ltTn, leTn, ltFn, leFn, wrapI, tdivP, tmodP, mid]
      refine (seconds_V x b1 _).useV ?_
      simp (disch := first | omega | (simp; done) | (simp; omega)) [ltT, ltF, leT, leF, eqT', eqF, ltTn, leTn, ltFn, leFn, wrapI, tdivP, tmodP, mid]
      refine (seconds_V b hb _).useV ?_
      by_cases hs : x.secs ≤ b.secs
      · have hu : upTo a b n = true := by unfold upTo; rw [hx]; simpa using hs
        simp (disch := first | omega | (simp; done) | (simp; omega)) [ltT, ltF, leT, leF, eqT', eqF, ltTn, leTn, ltFn, leFn, wrapI, tdivP, tmodP, mid, hs]
        exact hA (n, high) _ ⟨by simp only; omega, by simp only; omega, by simp only; omega, hu, p5⟩ (by simp only; omega) (Shift.weak' (g := [.cells 23 [.d (encMo x)]]) (by simp) hH (by simp) (by simp))
      · have hu : upTo a b n = false := by unfold upTo; rw [hx]; simpa using hs
        simp (disch := first | omega | (simp; done) | (simp; omega)) [ltT, ltF, leT, leF, eqT', eqF, ltTn, leTn, ltFn, leFn, wrapI, tdivP, tmodP, mid, hs]
        exact hA (low, n) _ ⟨by simp only; omega, by simp only; omega, by simp only; omega, p4, hu⟩ (by simp only; omega) (Shift.weak' (g := [.cells 23 [.d (encMo x)]]) (by simp) hH (by simp) (by simp))
  · have hh : high = low + 1 := by omega
    subst hh
    have hlow := hK.uniq ha p1 p4 p5
    subst hlow
    clear hA
    simp (disch := first | omega | (simp; done) | (simp; omega)) [ltT, ltF, leT, leF, eqT', eqF, ltTn, leTn, ltFn, leFn, wrapI, tdivP, tmodP, mid]
    refine (months_V a (betK a b) ha (by omega) (by omega) _).useV ?_
    simp (disch := first | omega | (simp; done) | (simp; omega)) [ltT, ltF, leT, leF, eqT', eqF, ltTn, leTn, ltFn, leFn, wrapI, tdivP, tmodP, mid, hxK]
    refine regV_all ?_
    simp (disch := first | omega | (simp; done) | (simp; omega)) [ltT, ltF, leT, leF, eqT', eqF, ltTn, leTn, ltFn, leFn, wrapI, tdivP, tmodP, mid]
    refine (seconds_V b hb _).useV ?_
    simp (disch := first | omega | (simp; done) | (simp; omega)) [ltT, ltF, leT, leF, eqT', eqF, ltTn, leTn, ltFn, leFn, wrapI, tdivP, tmodP, mid]
    refine (seconds_V xK hxo _).useV ?_
    simp (disch := first | omega | (simp; done) | (simp; omega)) [ltT, ltF, leT, leF, eqT', eqF, ltTn, leTn, ltFn, leFn, wrapI, tdivP, tmodP, mid]
    exact rshift_d hok

end Go.Vm
