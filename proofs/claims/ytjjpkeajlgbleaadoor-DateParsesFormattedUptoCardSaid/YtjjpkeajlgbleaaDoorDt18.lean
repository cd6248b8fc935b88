/- date: the reference's patterns: letters, fields. -/
import Derived.Test.YtjjpkeajlgbleaaDoorDt17
import Derived.Test.YtjjpkeajlgbleaaDoorWide
namespace Go.Vm
open Proofs
set_option maxRecDepth 20000
set_option maxHeartbeats 4000000
set_option linter.unusedSimpArgs false

def let12 : List UInt8 := [89, 109, 100, 72, 77, 83, 106, 71, 86, 117, 97, 98]
def letR (c : UInt8) : Int := idxFrom (fun x => decide (x = c)) 0 let12

theorem letter_V (c : UInt8) (h : List Blk) : CallP Tryd.prog 50 [.d (.int .u8 (c.toNat : Int))] h (.d (.int .i64 (letR c))) := by
  refine callW tb_ok fn50 (by simp) (fun hok => ?_)
  simp (disch := first | omega | (simp; done) | (simp; omega)) [ltT, ltF, leT, leF, eqT', eqF, ltTn, leTn, ltFn, leFn, wrapI, mid, c50]
  refine W_loopA (ι := List UInt8 × List UInt8) (fun q => q.1 ++ q.2 = let12 ∧ idxFrom (fun x => decide (x = c)) q.1.length q.2 = letR c) (fun q => ⟨[(0, .d (.int .u8 (c.toNat : Int))), (3, .d (.int .i64 q.1.length))], h⟩) (fun q => q.2.length) ([], let12) ⟨rfl, rfl⟩ (Shift.slots' rfl (by simp)) ?_
  rintro ⟨pre, rest⟩ ⟨hx, hc⟩ A hA
  simp only at hx hc
  have hlen := congrArg List.length hx
  simp only [List.length_append, show let12.length = 12 from rfl] at hlen
  cases rest with
  | nil =>
    simp only [List.length_nil, Nat.add_zero] at hlen
    simp only [idxFrom] at hc
    rw [← hc]
    simp (disch := first | omega | (simp; done) | (simp; omega)) [ltT, ltF, leT, leF, eqT', eqF, ltTn, leTn, ltFn, leFn, wrapI, mid]
  | cons x rest =>
    simp only [List.length_cons] at hlen
    have hl : ([89, 109, 100, 72, 77, 83, 106, 71, 86, 117, 97, 98] : List UInt8) = pre ++ x :: rest := hx.symm
    rw [hl]
    by_cases hp : x = c
    · have hr : letR c = pre.length := by rw [← hc, idxFrom, if_pos (by simpa using hp)]
      rw [hr]
      simp (disch := first | omega | (simp; done) | (simp; omega)) [ltT, ltF, leT, leF, eqT', eqF, ltTn, leTn, ltFn, leFn, wrapI, mid, u8_inj, eq_true hp]
    · simp (disch := first | omega | (simp; done) | (simp; omega)) [ltT, ltF, leT, leF, eqT', eqF, ltTn, leTn, ltFn, leFn, wrapI, mid, u8_inj, eq_false hp]
      refine hA (pre ++ [x], rest) _ ⟨by simpa using hx, ?_⟩ (by simp) (Shift.slots' rfl (by simp))
      rw [← hc, idxFrom, if_neg (by simpa using hp)]
      simp

theorem letR_neg (e : UInt8) : (letR e < 0 ∧ e ≠ 37) ↔ letL.contains e = false := by
  by_cases h1 : e = 37
  · subst h1; decide
  · have : letR e < 0 ↔ letL.contains e = false := by
      unfold letR let12
      simp only [idxFrom, letL, List.contains_cons, List.contains_nil]
      by_cases a1 : e = 89
      · subst a1; decide
      by_cases a2 : e = 109
      · subst a2; decide
      by_cases a3 : e = 100
      · subst a3; decide
      by_cases a4 : e = 72
      · subst a4; decide
      by_cases a5 : e = 77
      · subst a5; decide
      by_cases a6 : e = 83
      · subst a6; decide
      by_cases a7 : e = 106
      · subst a7; decide
      by_cases a8 : e = 71
      · subst a8; decide
      by_cases a9 : e = 86
      · subst a9; decide
      by_cases a10 : e = 117
      · subst a10; decide
      by_cases a11 : e = 97
      · subst a11; decide
      by_cases a12 : e = 98
      · subst a12; decide
      have b : ∀ k : UInt8, e ≠ k → decide (k = e) = false := fun k hk => by simp [Ne.symm hk]
      simp [b _ a1, b _ a2, b _ a3, b _ a4, b _ a5, b _ a6, b _ a7, b _ a8, b _ a9, b _ a10, b _ a11, b _ a12, a1, a2, a3, a4, a5, a6, a7, a8, a9, a10, a11, a12, h1]
    simp [this, h1]

theorem patternFault_V (p : List UInt8) (f : Int) (hp : p.length ≤ 1048576) (hf : 0 ≤ f) (hf2 : f ≤ 10000) (h : List Blk) : CallP Tryd.prog 17 [.d (.str p), .d (.int .i64 f)] h (.d (encF (patF f p))) := by
  refine callW tb_ok fn17 (by simp) (fun hok => ?_)
  unfold patF
  by_cases h1 : 200 < p.length
  · rw [if_pos h1]
    simp (disch := first | omega | (simp; done) | (simp; omega)) [ltT, ltF, leT, leF, eqT', eqF, ltTn, leTn, ltFn, leFn, wrapI, mid, c17]
    refine (atF_V _ _ _).useV ?_
    simp (disch := first | omega | (simp; done) | (simp; omega)) [ltT, ltF, leT, leF, eqT', eqF, ltTn, leTn, ltFn, leFn, wrapI, mid]
    exact rshift_d hok
  rw [if_neg h1]
  simp (disch := first | omega | (simp; done) | (simp; omega)) [ltT, ltF, leT, leF, eqT', eqF, ltTn, leTn, ltFn, leFn, wrapI, mid, c17]
  refine W_loopA (ι := List UInt8 × List UInt8) (fun q => q.1 ++ q.2 = p ∧ patFrom f q.1.length q.2 = patFrom f 0 p) (fun q => ⟨[(0, .d (.str p)), (1, .d (.int .i64 f)), (4, .ptr h.length 25 0 0), (5, .d (.int .i64 q.1.length))], h ++ [.cells 25 [.d (encF (0, 0))]]⟩) (fun q => q.2.length) ([], p) ⟨rfl, rfl⟩ (Shift.slots' rfl (by simp)) ?_
  rintro ⟨pre, rest⟩ ⟨hx, hc⟩ A hA
  simp only at hx hc
  have hlen := congrArg List.length hx
  simp only [List.length_append] at hlen
  match rest, hc, hx, hA, hlen with
  | [], hc, hx, hA, hlen =>
    simp only [List.append_nil] at hx
    subst hx
    rw [← hc]
    simp (disch := first | omega | (simp; done) | (simp; omega)) [ltT, ltF, leT, leF, eqT', eqF, ltTn, leTn, ltFn, leFn, wrapI, mid, patFrom]
    refine (atF_V _ _ _).useV ?_
    simp (disch := first | omega | (simp; done) | (simp; omega)) [ltT, ltF, leT, leF, eqT', eqF, ltTn, leTn, ltFn, leFn, wrapI, mid]
    exact rshift_d hok
  | [c], hc, hx, hA, hlen =>
    subst hx
    simp only [List.length_cons, List.length_nil] at hlen
    by_cases h2 : c = 37
    · rw [← hc, patFrom, if_neg (by simpa using h2)]
      simp (disch := first | omega | (simp; done) | (simp; omega)) [ltT, ltF, leT, leF, eqT', eqF, ltTn, leTn, ltFn, leFn, wrapI, mid, u8_37, eq_true h2]
      refine (atF_V _ _ _).useV ?_
      simp (disch := first | omega | (simp; done) | (simp; omega)) [ltT, ltF, leT, leF, eqT', eqF, ltTn, leTn, ltFn, leFn, wrapI, mid]
      exact rshift_d hok
    · simp (disch := first | omega | (simp; done) | (simp; omega)) [ltT, ltF, leT, leF, eqT', eqF, ltTn, leTn, ltFn, leFn, wrapI, mid, u8_37, eq_false h2]
      refine hA (pre ++ [c], []) _ ⟨by simp, ?_⟩ (by simp) (Shift.slots' rfl (by simp))
      rw [← hc]; simp [patFrom, h2]
  | c :: e :: l, hc, hx, hA, hlen =>
    subst hx
    simp only [List.length_cons] at hlen
    by_cases h2 : c = 37
    · have hln := letR_neg e
      simp (disch := first | omega | (simp; done) | (simp; omega)) [ltT, ltF, leT, leF, eqT', eqF, ltTn, leTn, ltFn, leFn, wrapI, mid, u8_37, eq_true h2]
      refine (letter_V e _).useV ?_
      cases h3 : letL.contains e with
      | true =>
        rw [h3] at hln
        have hok2 : ¬ (letR e < 0 ∧ e ≠ 37) := by rw [hln]; simp
        have step : patFrom f (pre ++ [c, e]).length l = patFrom f 0 (pre ++ c :: e :: l) := by
          rw [← hc, patFrom, if_neg (by simpa using h2), if_pos h3]; simp
        by_cases h4 : letR e < 0
        · have h5 : e = 37 := Classical.byContradiction fun hh => hok2 ⟨h4, hh⟩
          simp (disch := first | omega | (simp; done) | (simp; omega)) [ltT, ltF, leT, leF, eqT', eqF, ltTn, leTn, ltFn, leFn, wrapI, mid, h4, u8_37, eq_true h5]
          exact hA (pre ++ [c, e], l) _ ⟨by simp, step⟩ (by simp only [List.length_cons]; omega) (Shift.slots' rfl (by simp [Int.add_assoc]))
        · simp (disch := first | omega | (simp; done) | (simp; omega)) [ltT, ltF, leT, leF, eqT', eqF, ltTn, leTn, ltFn, leFn, wrapI, mid, h4]
          exact hA (pre ++ [c, e], l) _ ⟨by simp, step⟩ (by simp only [List.length_cons]; omega) (Shift.slots' rfl (by simp [Int.add_assoc]))
      | false =>
        rw [h3] at hln
        obtain ⟨h4, h5⟩ := hln.mpr rfl
        rw [← hc, patFrom, if_neg (by simpa using h2), if_neg (by rw [h3]; simp)]
        simp (disch := first | omega | (simp; done) | (simp; omega)) [ltT, ltF, leT, leF, eqT', eqF, ltTn, leTn, ltFn, leFn, wrapI, mid, h4, u8_37, eq_false h5]
        refine (atF_V _ _ _).useV ?_
        simp (disch := first | omega | (simp; done) | (simp; omega)) [ltT, ltF, leT, leF, eqT', eqF, ltTn, leTn, ltFn, leFn, wrapI, mid]
        exact rshift_d hok
    · simp (disch := first | omega | (simp; done) | (simp; omega)) [ltT, ltF, leT, leF, eqT', eqF, ltTn, leTn, ltFn, leFn, wrapI, mid, u8_37, eq_false h2]
      refine hA (pre ++ [c], e :: l) _ ⟨by simp, ?_⟩ (by simp) (Shift.slots' rfl (by simp))
      rw [← hc, patFrom, if_pos h2]
      simp

/-- The numbers of directives. -/
def fieldL (m : Mo) : List Int := [m.y, m.m, m.d, m.h, m.mi, m.s, m.doy, (weekS m.y m.day).1, (weekS m.y m.day).2, (m.day - 1) % 7 + 1, (m.day - 1) % 7 + 1, m.m]
theorem fieldL_len (m : Mo) : (fieldL m).length = 12 := rfl

theorem field_V (m : Mo) (k : Nat) (hm : m.ok) (hk : k < 12) (h : List Blk) : CallP Tryd.prog 52 [.d (encMo m), .d (.int .i64 k)] h (.d (.int .i64 ((fieldL m).getD k 0))) := by
  refine callW tb_ok fn52 (by simp) (fun hok => ?_)
  have hr := Mo.day_range hm
  have hww := weekR_weekS hm
  have hdo := doy_bnd2 hm
  have e6 : (m.day - 1) % 7 = (m.day + 6) % 7 := by omega
  obtain ⟨⟨m1, m2, m3, m4, m5, m6⟩, _⟩ := id hm
  have hdl := dim_le m.y m.m
  have hfirst := dayOf_first m.y
  have hdoy : m.day - (dB m.y + 1) + 1 = m.doy := by unfold Mo.day dayOf Mo.doy; omega
  simp (disch := first | omega | (simp; done) | (simp; omega)) [ltT, ltF, leT, leF, eqT', eqF, ltTn, leTn, ltFn, leFn, wrapI, mid, c52]
  refine (day23_V m.y m.m m.d (by omega) (by omega) (by omega) (by omega) (by omega) (by omega) _).useV ?_
  rw [show dayOf m.y m.m m.d = m.day from rfl]
  simp (disch := first | omega | (simp; done) | (simp; omega)) [ltT, ltF, leT, leF, eqT', eqF, ltTn, leTn, ltFn, leFn, wrapI, mid]
  refine (weekOf_V m.day (by omega) (by omega) _).useV ?_
  rw [hww]
  simp (disch := first | omega | (simp; done) | (simp; omega)) [ltT, ltF, leT, leF, eqT', eqF, ltTn, leTn, ltFn, leFn, wrapI, mid]
  refine regV_all ?_
  simp (disch := first | omega | (simp; done) | (simp; omega)) [ltT, ltF, leT, leF, eqT', eqF, ltTn, leTn, ltFn, leFn, wrapI, mid]
  refine (day23_V m.y 1 1 (by omega) (by omega) (by omega) (by omega) (by omega) (by omega) _).useV ?_
  rw [hfirst]
  have hb := dB_nonneg m1
  have hl := dB_le (y := m.y) (by omega)
  simp (disch := first | omega | (simp; done) | (simp; omega)) [ltT, ltF, leT, leF, eqT', eqF, ltTn, leTn, ltFn, leFn, wrapI, mid, hdoy]
  refine (weekdayOf_V m.day (by omega) (by omega) _).useV ?_
  simp (disch := first | omega | (simp; done) | (simp; omega)) [ltT, ltF, leT, leF, eqT', eqF, ltTn, leTn, ltFn, leFn, wrapI, mid]
  refine (weekdayOf_V m.day (by omega) (by omega) _).useV ?_
  rw [← e6]
  simp (disch := first | omega | (simp; done) | (simp; omega)) [ltT, ltF, leT, leF, eqT', eqF, ltTn, leTn, ltFn, leFn, wrapI, mid]
  have hk12 : k = 0 ∨ k = 1 ∨ k = 2 ∨ k = 3 ∨ k = 4 ∨ k = 5 ∨ k = 6 ∨ k = 7 ∨ k = 8 ∨ k = 9 ∨ k = 10 ∨ k = 11 := by omega
  rcases hk12 with rfl | rfl | rfl | rfl | rfl | rfl | rfl | rfl | rfl | rfl | rfl | rfl <;> exact rshift_d hok

end Go.Vm
