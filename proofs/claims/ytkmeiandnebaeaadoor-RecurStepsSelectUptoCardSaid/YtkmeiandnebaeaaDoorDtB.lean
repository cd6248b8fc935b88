/- DtB: Dt6, Dt7. -/
import Derived.Test.YtkmeiandnebaeaaDoorDtA
/- date: the reference's functions over days and months. -/
namespace Go.Vm
open Proofs
set_option maxRecDepth 20000
set_option maxHeartbeats 1000000
set_option linter.unusedSimpArgs false

theorem in_V (n a b : Int) (h : List Blk) : CallP Tryd.prog 8 [.d (.int .i64 n), .d (.int .i64 a), .d (.int .i64 b)] h (.d (.bool (decide (a ≤ n ∧ n ≤ b)))) := by
  refine callW tb_ok fn8 (by simp) (fun hok => ?_)
  by_cases h1 : a ≤ n <;> by_cases h2 : n ≤ b <;> simp [c8, h1, h2]

theorem atF_V (a b : Int) (h : List Blk) : CallP Tryd.prog 16 [.d (.int .i64 a), .d (.int .i64 b)] h (.d (encF (a, b))) := by
  refine callW tb_ok fn16 (by simp) (fun hok => ?_)
  simp [c16]
  exact rshift_d hok

end Go.Vm

/- date: what the package exports, but for texts. -/
namespace Go.Vm
open Proofs
set_option maxRecDepth 20000
set_option maxHeartbeats 1000000
set_option linter.unusedSimpArgs false

theorem number20_V (m : Mo) (h : List Blk) : CallP Tryd.prog 67 [.d (encMo m)] h (.tup [.d (.int .i64 (if (momF m).1 ≠ 0 then 0 else m.secs)), .d (encF (momF m))]) := by
  refine callW tb_ok fn67 (by simp) (fun hok => ?_)
  simp (disch := first | omega | (simp; done) | (simp; omega)) [ltT, ltF, leT, leF, eqT', eqF, ltTn, leTn, ltFn, leFn, wrapI, tdivP, tmodP, mid, c67]
  refine (check_V m _).useV ?_
  by_cases h1 : (momF m).1 ≠ 0
  · simp (disch := first | omega | (simp; done) | (simp; omega)) [ltT, ltF, leT, leF, eqT', eqF, ltTn, leTn, ltFn, leFn, wrapI, tdivP, tmodP, mid, h1]
    exact RShift.subs ⟨.refl _, .refl _, trivial⟩ (by simp) hok (Nat.le_refl _)
  obtain ⟨hz, hm⟩ := momF_ok h1
  simp (disch := first | omega | (simp; done) | (simp; omega)) [ltT, ltF, leT, leF, eqT', eqF, ltTn, leTn, ltFn, leFn, wrapI, tdivP, tmodP, mid, hz]
  refine (number_V m hm _).useV ?_
  simp (disch := first | omega | (simp; done) | (simp; omega)) [ltT, ltF, leT, leF, eqT', eqF, ltTn, leTn, ltFn, leFn, wrapI, tdivP, tmodP, mid]
  exact RShift.subs ⟨.refl _, .refl _, trivial⟩ (by simp) hok (Nat.le_refl _)

theorem at31_V (n : Int) (h : List Blk) : CallP Tryd.prog 13 [.d (.int .i64 n)] h (.tup [.d (encMo (if n < 0 ∨ 315537897599 < n then mo0 else frS n)), .d (encF (if n < 0 ∨ 315537897599 < n then (4, -1) else (0, 0)))]) := by
  refine callW tb_ok fn13 (by simp) (fun hok => ?_)
  by_cases h1 : n < 0
  · rw [if_pos (.inl h1), if_pos (.inl h1)]
    simp (disch := first | omega | (simp; done) | (simp; omega)) [ltT, ltF, leT, leF, eqT', eqF, ltTn, leTn, ltFn, leFn, wrapI, tdivP, tmodP, mid, c13, h1]
    exact RShift.subs ⟨.refl _, .refl _, trivial⟩ (by simp) hok (Nat.le_refl _)
  · by_cases h2 : 315537897599 < n
    · rw [if_pos (.inr h2), if_pos (.inr h2)]
      simp (disch := first | omega | (simp; done) | (simp; omega)) [ltT, ltF, leT, leF, eqT', eqF, ltTn, leTn, ltFn, leFn, wrapI, tdivP, tmodP, mid, c13, h1, h2]
      exact RShift.subs ⟨.refl _, .refl _, trivial⟩ (by simp) hok (Nat.le_refl _)
    · rw [if_neg (by omega), if_neg (by omega)]
      simp (disch := first | omega | (simp; done) | (simp; omega)) [ltT, ltF, leT, leF, eqT', eqF, ltTn, leTn, ltFn, leFn, wrapI, tdivP, tmodP, mid, c13, h1, h2]
      refine (at_V' n (by omega) (by omega) _).useV ?_
      simp (disch := first | omega | (simp; done) | (simp; omega)) [ltT, ltF, leT, leF, eqT', eqF, ltTn, leTn, ltFn, leFn, wrapI, tdivP, tmodP, mid]
      exact RShift.subs ⟨.refl _, .refl _, trivial⟩ (by simp) hok (Nat.le_refl _)

def fromWeekS (y w d : Int) : Mo × (Int × Int) :=
  if y < 1 ∨ 9999 < y then (mo0, (4, -1)) else if w < 1 ∨ weeksR y < w then (mo0, (4, -2)) else if d < 0 ∨ 6 < d then (mo0, (4, -3))
  else if 3652059 < fm y + 7 * (w - 1) + d then (mo0, (4, -3)) else (frD (fm y + 7 * (w - 1) + d), (0, 0))

theorem weeksR_le (y : Int) : weeksR y = 52 ∨ weeksR y = 53 := by unfold weeksR; split <;> simp
theorem fm_pos {y : Int} (h : 1 ≤ y) : 1 ≤ fm y := by
  rcases Int.lt_or_le 1 y with h1 | h1
  · have h2 := fm_bnd y
    have h3 := dB_mono (y := 2) (z := y) (by omega)
    have : dB 2 = 365 := rfl
    omega
  · have : y = 1 := by omega
    rw [this, fm_one]; omega

def addMonthsS (m : Mo) (n : Int) : Mo × (Int × Int) :=
  if (momF m).1 ≠ 0 then (mo0, momF m) else if n < -120000 ∨ 120000 < n then (mo0, (4, -2)) else match addS m n with
    | some x => (x, (0, 0))
    | none => (mo0, (4, -3))

end Go.Vm
