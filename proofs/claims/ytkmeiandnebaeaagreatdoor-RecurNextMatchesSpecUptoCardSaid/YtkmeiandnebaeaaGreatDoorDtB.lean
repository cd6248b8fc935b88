/- DtB: Dt6, Dt7. -/
import Derived.Test.YtkmeiandnebaeaaGreatDoorDtA
/- date: the reference's functions over days and months. -/
namespace Go.Vm
open Proofs
set_option maxRecDepth 20000
set_option maxHeartbeats 1000000
set_option linter.unusedSimpArgs false

theorem in_V (n a b : Int) (h : List Blk) : CallP Tryz.prog 11 [.d (.int .i64 n), .d (.int .i64 a), .d (.int .i64 b)] h (.d (.bool (decide (a ≤ n ∧ n ≤ b)))) := by
  refine callW tb_ok fn11 (by simp) (fun hok => ?_)
  by_cases h1 : a ≤ n <;> by_cases h2 : n ≤ b <;> simp [c11, h1, h2]

theorem atF_V (a b : Int) (h : List Blk) : CallP Tryz.prog 12 [.d (.int .i64 a), .d (.int .i64 b)] h (.d (encF (a, b))) := by
  refine callW tb_ok fn12 (by simp) (fun hok => ?_)
  simp [c12]
  exact rshift_d hok

theorem daysOf_V (y m : Int) (h0 : 0 ≤ y) (h1 : 1 ≤ m) (h2 : m ≤ 12) (h : List Blk) : CallP Tryz.prog 78 [.d (.int .i64 y), .d (.int .i64 m)] h (.d (.int .i64 (dim y m))) := by
  refine callW tb_ok fn78 (by simp) (fun hok => ?_)
  by_cases hm : m = 2
  · subst hm
    by_cases a1 : y % 400 = 0
    · have hl : leapB y = true := by unfold leapB; simp; omega
      simp (disch := first | omega | (simp; done) | (simp; omega)) [ltT, ltF, leT, leF, eqT', eqF, ltTn, leTn, ltFn, leFn, wrapI, tdivP, tmodP, mid, c78, dim, hl, a1]
    · by_cases a2 : y % 4 = 0
      · by_cases a3 : y % 100 = 0
        · have hl : leapB y = false := by unfold leapB; simp; omega
          simp (disch := first | omega | (simp; done) | (simp; omega)) [ltT, ltF, leT, leF, eqT', eqF, ltTn, leTn, ltFn, leFn, wrapI, tdivP, tmodP, mid, c78, dim, hl, a1, a2, a3]
        · have hl : leapB y = true := by unfold leapB; simp; omega
          simp (disch := first | omega | (simp; done) | (simp; omega)) [ltT, ltF, leT, leF, eqT', eqF, ltTn, leTn, ltFn, leFn, wrapI, tdivP, tmodP, mid, c78, dim, hl, a1, a2, a3]
      · have hl : leapB y = false := by unfold leapB; simp; omega
        simp (disch := first | omega | (simp; done) | (simp; omega)) [ltT, ltF, leT, leF, eqT', eqF, ltTn, leTn, ltFn, leFn, wrapI, tdivP, tmodP, mid, c78, dim, hl, a1, a2]
  · have e : dim y m = 30 + (m + m / 8) % 2 := by
      rcases month_cases h1 h2 with rfl | rfl | rfl | rfl | rfl | rfl | rfl | rfl | rfl | rfl | rfl | rfl <;> simp [dim_eq] at hm ⊢
    rw [e]
    simp (disch := first | omega | (simp; done) | (simp; omega)) [ltT, ltF, leT, leF, eqT', eqF, ltTn, leTn, ltFn, leFn, wrapI, tdivP, tmodP, mid, c78, hm]

theorem day23_V (y m d : Int) (h1 : 1 ≤ y) (h2 : y ≤ 100000) (h3 : 1 ≤ m) (h4 : m ≤ 12) (h5 : -1000000 ≤ d) (h6 : d ≤ 1000000) (h : List Blk) :
    CallP Tryz.prog 77 [.d (.int .i64 y), .d (.int .i64 m), .d (.int .i64 d)] h (.d (.int .i64 (dayOf y m d))) := by
  refine callW tb_ok fn77 (by simp) (fun hok => ?_)
  rw [← dayRef_eq h3 h4]
  unfold dayRef
  by_cases hm : m < 3
  · simp (disch := first | omega | (simp; done) | (simp; omega)) [ltT, ltF, leT, leF, eqT', eqF, ltTn, leTn, ltFn, leFn, wrapI, tdivP, tmodP, mid, c77, hm]
  · simp (disch := first | omega | (simp; done) | (simp; omega)) [ltT, ltF, leT, leF, eqT', eqF, ltTn, leTn, ltFn, leFn, wrapI, tdivP, tmodP, mid, c77, hm]

theorem date38_V (n : Int) (h1 : 1 ≤ n) (h2 : n ≤ 10000000) (h : List Blk) : CallP Tryz.prog 75 [.d (.int .i64 n)] h (.d (encMo (frD n))) := by
  refine callW tb_ok fn75 (by simp) (fun hok => ?_)
  obtain ⟨z, hz⟩ : ∃ z, z = n + 305 := ⟨_, rfl⟩
  obtain ⟨era, hera⟩ : ∃ x, x = z / 146097 := ⟨_, rfl⟩
  obtain ⟨of, hof⟩ : ∃ x, x = z % 146097 := ⟨_, rfl⟩
  obtain ⟨year, hyear⟩ : ∃ x, x = (of - of / 1460 + of / 36524 - of / 146096) / 365 := ⟨_, rfl⟩
  obtain ⟨rest, hrest⟩ : ∃ x, x = of - 365 * year - year / 4 + year / 100 := ⟨_, rfl⟩
  obtain ⟨month, hmonth⟩ : ∃ x, x = (5 * rest + 2) / 153 := ⟨_, rfl⟩
  have hd : dateRef n = if month + 3 > 12 then (year + 400 * era + 1, month + 3 - 12, rest - (153 * month + 2) / 5 + 1) else (year + 400 * era, month + 3, rest - (153 * month + 2) / 5 + 1) := by
    unfold dateRef
    simp only [← hz, ← hera, ← hof, ← hyear, ← hrest, ← hmonth]
  have hmid := midRef_ok h1
  have hmm : midRef n = (year, rest) := by
    unfold midRef
    simp only [← hz, ← hof, ← hyear, ← hrest]
  rw [hmm] at hmid
  simp only at hmid
  have b0 : 0 ≤ of ∧ of ≤ 146096 := by omega
  have b1 : 0 ≤ era ∧ era ≤ 100 := by omega
  have b5 : 0 ≤ month ∧ month ≤ 100000 := by omega
  unfold frD
  rw [hd]
  by_cases hm : month + 3 > 12
  · rw [if_pos hm]
    simp (disch := first | omega | (simp; done) | (simp; omega)) [ltT, ltF, leT, leF, eqT', eqF, ltTn, leTn, ltFn, leFn, wrapI, tdivP, tmodP, mid, c75, ← hz, ← hera, ← hof, ← hyear, ← hrest, ← hmonth]
    exact rshift_d hok
  · rw [if_neg hm]
    simp (disch := first | omega | (simp; done) | (simp; omega)) [ltT, ltF, leT, leF, eqT', eqF, ltTn, leTn, ltFn, leFn, wrapI, tdivP, tmodP, mid, c75, ← hz, ← hera, ← hof, ← hyear, ← hrest, ← hmonth]
    exact rshift_d hok

theorem weekdayOf_V (n : Int) (h1 : 0 ≤ n) (h2 : n ≤ 100000000) (h : List Blk) : CallP Tryz.prog 76 [.d (.int .i64 n)] h (.d (.int .i64 ((n + 6) % 7))) := by
  refine callW tb_ok fn76 (by simp) (fun hok => ?_)
  simp (disch := first | omega | (simp; done) | (simp; omega)) [ltT, ltF, leT, leF, eqT', eqF, ltTn, leTn, ltFn, leFn, wrapI, tdivP, tmodP, mid, c76]

end Go.Vm

/- date: what the package exports, but for texts. -/
namespace Go.Vm
open Proofs
set_option maxRecDepth 20000
set_option maxHeartbeats 1000000
set_option linter.unusedSimpArgs false

theorem number20_V (m : Mo) (h : List Blk) : CallP Tryz.prog 100 [.d (encMo m)] h (.tup [.d (.int .i64 (if (momF m).1 ≠ 0 then 0 else m.secs)), .d (encF (momF m))]) := by
  refine callW tb_ok fn100 (by simp) (fun hok => ?_)
  simp (disch := first | omega | (simp; done) | (simp; omega)) [ltT, ltF, leT, leF, eqT', eqF, ltTn, leTn, ltFn, leFn, wrapI, tdivP, tmodP, mid, c100]
  refine (check_V m _).useV ?_
  by_cases h1 : (momF m).1 ≠ 0
  · simp (disch := first | omega | (simp; done) | (simp; omega)) [ltT, ltF, leT, leF, eqT', eqF, ltTn, leTn, ltFn, leFn, wrapI, tdivP, tmodP, mid, h1]
    exact RShift.subs ⟨.refl _, .refl _, trivial⟩ (by simp) hok (Nat.le_refl _)
  obtain ⟨hz, hm⟩ := momF_ok h1
  simp (disch := first | omega | (simp; done) | (simp; omega)) [ltT, ltF, leT, leF, eqT', eqF, ltTn, leTn, ltFn, leFn, wrapI, tdivP, tmodP, mid, hz]
  refine (number_V m hm _).useV ?_
  simp (disch := first | omega | (simp; done) | (simp; omega)) [ltT, ltF, leT, leF, eqT', eqF, ltTn, leTn, ltFn, leFn, wrapI, tdivP, tmodP, mid]
  exact RShift.subs ⟨.refl _, .refl _, trivial⟩ (by simp) hok (Nat.le_refl _)

theorem at31_V (n : Int) (h : List Blk) : CallP Tryz.prog 116 [.d (.int .i64 n)] h (.tup [.d (encMo (if n < 0 ∨ 315537897599 < n then mo0 else frS n)), .d (encF (if n < 0 ∨ 315537897599 < n then (4, -1) else (0, 0)))]) := by
  refine callW tb_ok fn116 (by simp) (fun hok => ?_)
  by_cases h1 : n < 0
  · rw [if_pos (.inl h1), if_pos (.inl h1)]
    simp (disch := first | omega | (simp; done) | (simp; omega)) [ltT, ltF, leT, leF, eqT', eqF, ltTn, leTn, ltFn, leFn, wrapI, tdivP, tmodP, mid, c116, h1]
    exact RShift.subs ⟨.refl _, .refl _, trivial⟩ (by simp) hok (Nat.le_refl _)
  · by_cases h2 : 315537897599 < n
    · rw [if_pos (.inr h2), if_pos (.inr h2)]
      simp (disch := first | omega | (simp; done) | (simp; omega)) [ltT, ltF, leT, leF, eqT', eqF, ltTn, leTn, ltFn, leFn, wrapI, tdivP, tmodP, mid, c116, h1, h2]
      exact RShift.subs ⟨.refl _, .refl _, trivial⟩ (by simp) hok (Nat.le_refl _)
    · rw [if_neg (by omega), if_neg (by omega)]
      simp (disch := first | omega | (simp; done) | (simp; omega)) [ltT, ltF, leT, leF, eqT', eqF, ltTn, leTn, ltFn, leFn, wrapI, tdivP, tmodP, mid, c116, h1, h2]
      refine (at_V' n (by omega) (by omega) _).useV ?_
      simp (disch := first | omega | (simp; done) | (simp; omega)) [ltT, ltF, leT, leF, eqT', eqF, ltTn, leTn, ltFn, leFn, wrapI, tdivP, tmodP, mid]
      exact RShift.subs ⟨.refl _, .refl _, trivial⟩ (by simp) hok (Nat.le_refl _)

def fromWeekS (y w d : Int) : Mo × (Int × Int) :=
  if y < 1 ∨ 9999 < y then (mo0, (4, -1)) else if w < 1 ∨ weeksR y < w then (mo0, (4, -2)) else if d < 0 ∨ 6 < d then (mo0, (4, -3))
  else if 3652059 < fm y + 7 * (w - 1) + d then (mo0, (4, -3)) else (frD (fm y + 7 * (w - 1) + d), (0, 0))

theorem weeksR_le (y : Int) : weeksR y = 52 ∨ weeksR y = 53 := by unfold weeksR; split <;> simp
theorem fm_pos {y : Int} (h : 1 ≤ y) : 1 ≤ fm y := by
  rcases Int.lt_or_le 1 y with h1 | h1
  · have h2 := fm_bnd y
    have h3 := dB_mono (y := 2) (z := y) (by omega)
    have : dB 2 = 365 := rfl
    omega
  · have : y = 1 := by omega
    rw [this, fm_one]; omega

def addMonthsS (m : Mo) (n : Int) : Mo × (Int × Int) :=
  if (momF m).1 ≠ 0 then (mo0, momF m) else if n < -120000 ∨ 120000 < n then (mo0, (4, -2)) else match addS m n with
    | some x => (x, (0, 0))
    | none => (mo0, (4, -3))

end Go.Vm
