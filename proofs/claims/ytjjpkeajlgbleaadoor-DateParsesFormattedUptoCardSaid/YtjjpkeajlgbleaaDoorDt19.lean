/- date: the reference's Formatted; the law of Format. -/
import Derived.Test.YtjjpkeajlgbleaaDoorDt18
namespace Go.Vm
open Proofs
set_option maxRecDepth 20000
set_option maxHeartbeats 4000000
set_option linter.unusedSimpArgs false

theorem day_slice {n : Int} (h1 : 1 ≤ n) (h2 : n ≤ 7) : List.drop (4 * n - 4).toNat (List.take (4 * n - 1).toNat daysT) = dayNames.getD (n - 1).toNat [] := by
  have : n = 1 ∨ n = 2 ∨ n = 3 ∨ n = 4 ∨ n = 5 ∨ n = 6 ∨ n = 7 := by omega
  rcases this with rfl | rfl | rfl | rfl | rfl | rfl | rfl <;> decide +kernel
theorem month_slice {n : Int} (h1 : 1 ≤ n) (h2 : n ≤ 12) : List.drop (4 * n - 4).toNat (List.take (4 * n - 1).toNat monthsT) = monthNames.getD (n - 1).toNat [] := by
  rcases month_cases h1 h2 with rfl | rfl | rfl | rfl | rfl | rfl | rfl | rfl | rfl | rfl | rfl | rfl <;> decide +kernel

theorem names_le (n : Nat) : (dayNames.getD n []).length ≤ 5 ∧ (monthNames.getD n []).length ≤ 5 := by
  constructor
  · rcases Nat.lt_or_ge n dayNames.length with h | h
    · have := names_len.1 dayNames[n] (List.getElem_mem h)
      rw [List.getD, List.getElem?_eq_getElem h]; simp; omega
    · rw [List.getD, List.getElem?_eq_none h]; simp
  · rcases Nat.lt_or_ge n monthNames.length with h | h
    · have := names_len.2 monthNames[n] (List.getElem_mem h)
      rw [List.getD, List.getElem?_eq_getElem h]; simp; omega
    · rw [List.getD, List.getElem?_eq_none h]; simp

theorem formatted_V (m : Mo) (p : List UInt8) (hm : m.ok) (hp : p.length ≤ 200) (hpz : (patFrom 100 0 p).1 = 0) (h : List Blk) : CallP Tryd.prog 19 [.d (encMo m), .d (.str p)] h (.d (.str (fmtS m p))) := by
  refine callW tb_ok fn19 (by simp) (fun hok => ?_)
  have hH : HOk (h ++ [.cells 23 [.d (encMo m)]]) := by
    refine hok.append ?_
    intro z hz
    rw [List.mem_singleton] at hz
    subst hz
    exact bel_cellsD _ _ _
  simp (disch := first | omega | (simp; done) | (simp; omega)) [ltT, ltF, leT, leF, eqT', eqF, ltTn, leTn, ltFn, leFn, wrapI, mid, c19]
  refine W_loopA (ι := List UInt8 × List UInt8 × List UInt8) (fun q => q.1 ++ q.2.1 = p ∧ q.2.2 ++ fmtS m q.2.1 = fmtS m p ∧ (patFrom 100 q.1.length q.2.1).1 = 0 ∧ q.2.2.length ≤ 5 * q.1.length) (fun q => ⟨[(1, .d (.str p)), (2, .ptr h.length 23 0 0), (5, .d (.str q.2.2)), (6, .d (.int .i64 q.1.length))],
    h ++ [.cells 23 [.d (encMo m)]]⟩) (fun q => q.2.1.length) ([], p, []) ⟨rfl, rfl, hpz, by simp⟩ (Shift.slots' rfl (by simp)) ?_
  rintro ⟨pre, rest, acc⟩ ⟨hx, hc, hpat, hal⟩ A hA
  simp only at hx hc hpat hal
  have hlen := congrArg List.length hx
  simp only [List.length_append] at hlen
  match rest, hc, hx, hA, hlen, hpat with
  | [], hc, hx, hA, hlen, hpat =>
    simp only [List.append_nil] at hx
    simp only [fmtS, List.append_nil] at hc
    subst hx
    simp (disch := first | omega | (simp; done) | (simp; omega)) [ltT, ltF, leT, leF, eqT', eqF, ltTn, leTn, ltFn, leFn, wrapI, mid, hc]
    exact rshift_d hok
  | [c], hc, hx, hA, hlen, hpat =>
    subst hx
    simp only [List.length_cons, List.length_nil] at hlen
    by_cases h3 : c = 37
    · simp [patFrom, h3] at hpat
    · simp (disch := first | omega | (simp; done) | (simp; omega)) [ltT, ltF, leT, leF, eqT', eqF, ltTn, leTn, ltFn, leFn, wrapI, mid, u8_37, eq_false h3]
      exact hA (pre ++ [c], [], acc ++ [c]) _ ⟨by simp, by rw [← hc]; simp [fmtS], by simp [patFrom], by simp; omega⟩ (by simp) (Shift.slots' (by simp) (by simp))
  | c :: e :: l, hc, hx, hA, hlen, hpat =>
    subst hx
    simp only [List.length_cons] at hlen
    by_cases h3 : c = 37
    · have h3' : ¬ c ≠ 37 := by simpa using h3
      rw [patFrom, if_neg h3'] at hpat
      rw [fmtS, if_neg h3'] at hc
      have hlet : letL.contains e = true := by
        cases hl : letL.contains e with
        | true => rfl
        | false => rw [hl] at hpat; simp at hpat
      rw [if_pos hlet] at hpat
      have e2 : ((pre.length : Int) + 1 + 1).toNat = pre.length + 1 + 1 := by omega
      by_cases h4 : e = 37
      · rw [if_pos h4] at hc
        simp (disch := first | omega | (simp; done) | (simp; omega)) [ltT, ltF, leT, leF, eqT', eqF, ltTn, leTn, ltFn, leFn, wrapI, mid, u8_37, eq_true h3, eq_true h4, e2]
        exact hA (pre ++ [c, e], l, acc ++ [37]) _ ⟨by simp, by rw [← hc]; simp, by simpa using hpat, by simp; omega⟩ (by simp only [List.length_cons]; omega) (Shift.slots' (by simp) (by simp [Int.add_assoc, h4]))
      rw [if_neg h4] at hc
      have hem : e = 89 ∨ e = 109 ∨ e = 100 ∨ e = 72 ∨ e = 77 ∨ e = 83 ∨ e = 106 ∨ e = 71 ∨ e = 86 ∨ e = 117 ∨ e = 97 ∨ e = 98 := by
        simp [letL] at hlet
        simp [h4] at hlet
        rcases hlet with h | h | h | h | h | h | h | h | h | h | h | h <;> simp [h]
      have hr := Mo.day_range hm
      have hw := weekS_bnd hm
      have hdo := doy_bnd2 hm
      have hml := dim_le m.y m.m
      obtain ⟨⟨m1, m2, m3, m4, m5, m6⟩, m7, m8, m9⟩ := id hm
      have fin : ∀ (s : List UInt8), s = fmtDir m e → s.length ≤ 5 → ∀ (env : Env), Shift Tryd.prog h.length 79 env ⟨[(1, .d (.str (pre ++ c :: e :: l))), (2, .ptr h.length 23 0 0), (5, .d (.str (acc ++ s))), (6, .d (.int .i64 ((pre.length : Int) + 2)))],
          h ++ [.cells 23 [.d (encMo m)]]⟩ → A env := by
        intro s hs hs5 env hsh
        refine hA (pre ++ [c, e], l, acc ++ s) env ⟨by simp, by rw [← hc, hs]; simp, by simpa using hpat, by simp; omega⟩ (by simp only [List.length_cons]; omega) ?_
        have : ((pre ++ [c, e]).length : Int) = (pre.length : Int) + 2 := by simp
        simp only [this]
        exact hsh
      clear hA hc
      rcases hem with rfl | rfl | rfl | rfl | rfl | rfl | rfl | rfl | rfl | rfl | rfl | rfl
      · -- 89
        have hlr : letR 89 = 0 := by decide
        have hfv := field_V m 0 hm (by omega)
        rw [show (fieldL m).getD 0 0 = m.y from rfl] at hfv
        simp (disch := first | omega | (simp; done) | (simp; omega)) [ltT, ltF, leT, leF, eqT', eqF, ltTn, leTn, ltFn, leFn, wrapI, mid, u8_37, eq_true h3]
        refine (letter_V 89 _).useV ?_
        rw [hlr]
        simp (disch := first | omega | (simp; done) | (simp; omega)) [ltT, ltF, leT, leF, eqT', eqF, ltTn, leTn, ltFn, leFn, wrapI, mid]
        refine (hfv _).useV ?_
        have hpl : (padS 4 m.y).length ≤ 5 := padS_len 4 (by omega) (by omega) (by omega)
        simp (disch := first | omega | (simp; done) | (simp; omega)) [ltT, ltF, leT, leF, eqT', eqF, ltTn, leTn, ltFn, leFn, wrapI, mid]
        refine (wide_V m.y 4 (by omega) (by omega) (by omega) _).useV ?_
        rw [show Lib.repeatL [48] (4 - (Lib.itoa m.y).length) ++ Lib.itoa m.y = padS 4 m.y from rfl]
        simp (disch := first | omega | (simp; done) | (simp; omega)) [ltT, ltF, leT, leF, eqT', eqF, ltTn, leTn, ltFn, leFn, wrapI, mid]
        exact fin (padS 4 m.y) (by simp [fmtDir]) hpl _ (Shift.slots' (by simp) (by simp [Int.add_assoc]))
      · -- 109
        have hlr : letR 109 = 1 := by decide
        have hfv := field_V m 1 hm (by omega)
        rw [show (fieldL m).getD 1 0 = m.m from rfl] at hfv
        simp (disch := first | omega | (simp; done) | (simp; omega)) [ltT, ltF, leT, leF, eqT', eqF, ltTn, leTn, ltFn, leFn, wrapI, mid, u8_37, eq_true h3]
        refine (letter_V 109 _).useV ?_
        rw [hlr]
        simp (disch := first | omega | (simp; done) | (simp; omega)) [ltT, ltF, leT, leF, eqT', eqF, ltTn, leTn, ltFn, leFn, wrapI, mid]
        refine (hfv _).useV ?_
        have hpl : (padS 2 m.m).length ≤ 5 := padS_len 2 (by omega) (by omega) (by omega)
        simp (disch := first | omega | (simp; done) | (simp; omega)) [ltT, ltF, leT, leF, eqT', eqF, ltTn, leTn, ltFn, leFn, wrapI, mid]
        refine (wide_V m.m 2 (by omega) (by omega) (by omega) _).useV ?_
        rw [show Lib.repeatL [48] (2 - (Lib.itoa m.m).length) ++ Lib.itoa m.m = padS 2 m.m from rfl]
        simp (disch := first | omega | (simp; done) | (simp; omega)) [ltT, ltF, leT, leF, eqT', eqF, ltTn, leTn, ltFn, leFn, wrapI, mid]
        exact fin (padS 2 m.m) (by simp [fmtDir]) hpl _ (Shift.slots' (by simp) (by simp [Int.add_assoc]))
      · -- 100
        have hlr : letR 100 = 2 := by decide
        have hfv := field_V m 2 hm (by omega)
        rw [show (fieldL m).getD 2 0 = m.d from rfl] at hfv
        simp (disch := first | omega | (simp; done) | (simp; omega)) [ltT, ltF, leT, leF, eqT', eqF, ltTn, leTn, ltFn, leFn, wrapI, mid, u8_37, eq_true h3]
        refine (letter_V 100 _).useV ?_
        rw [hlr]
        simp (disch := first | omega | (simp; done) | (simp; omega)) [ltT, ltF, leT, leF, eqT', eqF, ltTn, leTn, ltFn, leFn, wrapI, mid]
        refine (hfv _).useV ?_
        have hpl : (padS 2 m.d).length ≤ 5 := padS_len 2 (by omega) (by omega) (by omega)
        simp (disch := first | omega | (simp; done) | (simp; omega)) [ltT, ltF, leT, leF, eqT', eqF, ltTn, leTn, ltFn, leFn, wrapI, mid]
        refine (wide_V m.d 2 (by omega) (by omega) (by omega) _).useV ?_
        rw [show Lib.repeatL [48] (2 - (Lib.itoa m.d).length) ++ Lib.itoa m.d = padS 2 m.d from rfl]
        simp (disch := first | omega | (simp; done) | (simp; omega)) [ltT, ltF, leT, leF, eqT', eqF, ltTn, leTn, ltFn, leFn, wrapI, mid]
        exact fin (padS 2 m.d) (by simp [fmtDir]) hpl _ (Shift.slots' (by simp) (by simp [Int.add_assoc]))
      · -- 72
        have hlr : letR 72 = 3 := by decide
        have hfv := field_V m 3 hm (by omega)
        rw [show (fieldL m).getD 3 0 = m.h from rfl] at hfv
        simp (disch := first | omega | (simp; done) | (simp; omega)) [ltT, ltF, leT, leF, eqT', eqF, ltTn, leTn, ltFn, leFn, wrapI, mid, u8_37, eq_true h3]
        refine (letter_V 72 _).useV ?_
        rw [hlr]
        simp (disch := first | omega | (simp; done) | (simp; omega)) [ltT, ltF, leT, leF, eqT', eqF, ltTn, leTn, ltFn, leFn, wrapI, mid]
        refine (hfv _).useV ?_
        have hpl : (padS 2 m.h).length ≤ 5 := padS_len 2 (by omega) (by omega) (by omega)
        simp (disch := first | omega | (simp; done) | (simp; omega)) [ltT, ltF, leT, leF, eqT', eqF, ltTn, leTn, ltFn, leFn, wrapI, mid]
        refine (wide_V m.h 2 (by omega) (by omega) (by omega) _).useV ?_
        rw [show Lib.repeatL [48] (2 - (Lib.itoa m.h).length) ++ Lib.itoa m.h = padS 2 m.h from rfl]
        simp (disch := first | omega | (simp; done) | (simp; omega)) [ltT, ltF, leT, leF, eqT', eqF, ltTn, leTn, ltFn, leFn, wrapI, mid]
        exact fin (padS 2 m.h) (by simp [fmtDir]) hpl _ (Shift.slots' (by simp) (by simp [Int.add_assoc]))
      · -- 77
        have hlr : letR 77 = 4 := by decide
        have hfv := field_V m 4 hm (by omega)
        rw [show (fieldL m).getD 4 0 = m.mi from rfl] at hfv
        simp (disch := first | omega | (simp; done) | (simp; omega)) [ltT, ltF, leT, leF, eqT', eqF, ltTn, leTn, ltFn, leFn, wrapI, mid, u8_37, eq_true h3]
        refine (letter_V 77 _).useV ?_
        rw [hlr]
        simp (disch := first | omega | (simp; done) | (simp; omega)) [ltT, ltF, leT, leF, eqT', eqF, ltTn, leTn, ltFn, leFn, wrapI, mid]
        refine (hfv _).useV ?_
        have hpl : (padS 2 m.mi).length ≤ 5 := padS_len 2 (by omega) (by omega) (by omega)
        simp (disch := first | omega | (simp; done) | (simp; omega)) [ltT, ltF, leT, leF, eqT', eqF, ltTn, leTn, ltFn, leFn, wrapI, mid]
        refine (wide_V m.mi 2 (by omega) (by omega) (by omega) _).useV ?_
        rw [show Lib.repeatL [48] (2 - (Lib.itoa m.mi).length) ++ Lib.itoa m.mi = padS 2 m.mi from rfl]
        simp (disch := first | omega | (simp; done) | (simp; omega)) [ltT, ltF, leT, leF, eqT', eqF, ltTn, leTn, ltFn, leFn, wrapI, mid]
        exact fin (padS 2 m.mi) (by simp [fmtDir]) hpl _ (Shift.slots' (by simp) (by simp [Int.add_assoc]))
      · -- 83
        have hlr : letR 83 = 5 := by decide
        have hfv := field_V m 5 hm (by omega)
        rw [show (fieldL m).getD 5 0 = m.s from rfl] at hfv
        simp (disch := first | omega | (simp; done) | (simp; omega)) [ltT, ltF, leT, leF, eqT', eqF, ltTn, leTn, ltFn, leFn, wrapI, mid, u8_37, eq_true h3]
        refine (letter_V 83 _).useV ?_
        rw [hlr]
        simp (disch := first | omega | (simp; done) | (simp; omega)) [ltT, ltF, leT, leF, eqT', eqF, ltTn, leTn, ltFn, leFn, wrapI, mid]
        refine (hfv _).useV ?_
        have hpl : (padS 2 m.s).length ≤ 5 := padS_len 2 (by omega) (by omega) (by omega)
        simp (disch := first | omega | (simp; done) | (simp; omega)) [ltT, ltF, leT, leF, eqT', eqF, ltTn, leTn, ltFn, leFn, wrapI, mid]
        refine (wide_V m.s 2 (by omega) (by omega) (by omega) _).useV ?_
        rw [show Lib.repeatL [48] (2 - (Lib.itoa m.s).length) ++ Lib.itoa m.s = padS 2 m.s from rfl]
        simp (disch := first | omega | (simp; done) | (simp; omega)) [ltT, ltF, leT, leF, eqT', eqF, ltTn, leTn, ltFn, leFn, wrapI, mid]
        exact fin (padS 2 m.s) (by simp [fmtDir]) hpl _ (Shift.slots' (by simp) (by simp [Int.add_assoc]))
      · -- 106
        have hlr : letR 106 = 6 := by decide
        have hfv := field_V m 6 hm (by omega)
        rw [show (fieldL m).getD 6 0 = m.doy from rfl] at hfv
        simp (disch := first | omega | (simp; done) | (simp; omega)) [ltT, ltF, leT, leF, eqT', eqF, ltTn, leTn, ltFn, leFn, wrapI, mid, u8_37, eq_true h3]
        refine (letter_V 106 _).useV ?_
        rw [hlr]
        simp (disch := first | omega | (simp; done) | (simp; omega)) [ltT, ltF, leT, leF, eqT', eqF, ltTn, leTn, ltFn, leFn, wrapI, mid]
        refine (hfv _).useV ?_
        have hpl : (padS 3 m.doy).length ≤ 5 := padS_len 3 (by omega) (by omega) (by omega)
        simp (disch := first | omega | (simp; done) | (simp; omega)) [ltT, ltF, leT, leF, eqT', eqF, ltTn, leTn, ltFn, leFn, wrapI, mid]
        refine (wide_V m.doy 3 (by omega) (by omega) (by omega) _).useV ?_
        rw [show Lib.repeatL [48] (3 - (Lib.itoa m.doy).length) ++ Lib.itoa m.doy = padS 3 m.doy from rfl]
        simp (disch := first | omega | (simp; done) | (simp; omega)) [ltT, ltF, leT, leF, eqT', eqF, ltTn, leTn, ltFn, leFn, wrapI, mid]
        exact fin (padS 3 m.doy) (by simp [fmtDir]) hpl _ (Shift.slots' (by simp) (by simp [Int.add_assoc]))
      · -- 71
        have hlr : letR 71 = 7 := by decide
        have hfv := field_V m 7 hm (by omega)
        rw [show (fieldL m).getD 7 0 = (weekS m.y m.day).1 from rfl] at hfv
        simp (disch := first | omega | (simp; done) | (simp; omega)) [ltT, ltF, leT, leF, eqT', eqF, ltTn, leTn, ltFn, leFn, wrapI, mid, u8_37, eq_true h3]
        refine (letter_V 71 _).useV ?_
        rw [hlr]
        simp (disch := first | omega | (simp; done) | (simp; omega)) [ltT, ltF, leT, leF, eqT', eqF, ltTn, leTn, ltFn, leFn, wrapI, mid]
        refine (hfv _).useV ?_
        have hpl : (padS 4 (weekS m.y m.day).1).length ≤ 5 := padS_len 4 (by omega) (by omega) (by omega)
        simp (disch := first | omega | (simp; done) | (simp; omega)) [ltT, ltF, leT, leF, eqT', eqF, ltTn, leTn, ltFn, leFn, wrapI, mid]
        refine (wide_V (weekS m.y m.day).1 4 (by omega) (by omega) (by omega) _).useV ?_
        rw [show Lib.repeatL [48] (4 - (Lib.itoa (weekS m.y m.day).1).length) ++ Lib.itoa (weekS m.y m.day).1 = padS 4 (weekS m.y m.day).1 from rfl]
        simp (disch := first | omega | (simp; done) | (simp; omega)) [ltT, ltF, leT, leF, eqT', eqF, ltTn, leTn, ltFn, leFn, wrapI, mid]
        exact fin (padS 4 (weekS m.y m.day).1) (by simp [fmtDir]) hpl _ (Shift.slots' (by simp) (by simp [Int.add_assoc]))
      · -- 86
        have hlr : letR 86 = 8 := by decide
        have hfv := field_V m 8 hm (by omega)
        rw [show (fieldL m).getD 8 0 = (weekS m.y m.day).2 from rfl] at hfv
        simp (disch := first | omega | (simp; done) | (simp; omega)) [ltT, ltF, leT, leF, eqT', eqF, ltTn, leTn, ltFn, leFn, wrapI, mid, u8_37, eq_true h3]
        refine (letter_V 86 _).useV ?_
        rw [hlr]
        simp (disch := first | omega | (simp; done) | (simp; omega)) [ltT, ltF, leT, leF, eqT', eqF, ltTn, leTn, ltFn, leFn, wrapI, mid]
        refine (hfv _).useV ?_
        have hpl : (padS 2 (weekS m.y m.day).2).length ≤ 5 := padS_len 2 (by omega) (by omega) (by omega)
        simp (disch := first | omega | (simp; done) | (simp; omega)) [ltT, ltF, leT, leF, eqT', eqF, ltTn, leTn, ltFn, leFn, wrapI, mid]
        refine (wide_V (weekS m.y m.day).2 2 (by omega) (by omega) (by omega) _).useV ?_
        rw [show Lib.repeatL [48] (2 - (Lib.itoa (weekS m.y m.day).2).length) ++ Lib.itoa (weekS m.y m.day).2 = padS 2 (weekS m.y m.day).2 from rfl]
        simp (disch := first | omega | (simp; done) | (simp; omega)) [ltT, ltF, leT, leF, eqT', eqF, ltTn, leTn, ltFn, leFn, wrapI, mid]
        exact fin (padS 2 (weekS m.y m.day).2) (by simp [fmtDir]) hpl _ (Shift.slots' (by simp) (by simp [Int.add_assoc]))
      · -- 117
        have hlr : letR 117 = 9 := by decide
        have hfv := field_V m 9 hm (by omega)
        rw [show (fieldL m).getD 9 0 = ((m.day - 1) % 7 + 1) from rfl] at hfv
        simp (disch := first | omega | (simp; done) | (simp; omega)) [ltT, ltF, leT, leF, eqT', eqF, ltTn, leTn, ltFn, leFn, wrapI, mid, u8_37, eq_true h3]
        refine (letter_V 117 _).useV ?_
        rw [hlr]
        simp (disch := first | omega | (simp; done) | (simp; omega)) [ltT, ltF, leT, leF, eqT', eqF, ltTn, leTn, ltFn, leFn, wrapI, mid]
        refine (hfv _).useV ?_
        have hpl : (padS 1 ((m.day - 1) % 7 + 1)).length ≤ 5 := padS_len 1 (by omega) (by omega) (by omega)
        simp (disch := first | omega | (simp; done) | (simp; omega)) [ltT, ltF, leT, leF, eqT', eqF, ltTn, leTn, ltFn, leFn, wrapI, mid]
        refine (wide_V ((m.day - 1) % 7 + 1) 1 (by omega) (by omega) (by omega) _).useV ?_
        rw [show Lib.repeatL [48] (1 - (Lib.itoa ((m.day - 1) % 7 + 1)).length) ++ Lib.itoa ((m.day - 1) % 7 + 1) = padS 1 ((m.day - 1) % 7 + 1) from rfl]
        simp (disch := first | omega | (simp; done) | (simp; omega)) [ltT, ltF, leT, leF, eqT', eqF, ltTn, leTn, ltFn, leFn, wrapI, mid]
        exact fin (padS 1 ((m.day - 1) % 7 + 1)) (by simp [fmtDir]) hpl _ (Shift.slots' (by simp) (by simp [Int.add_assoc]))
      · -- 97
        have hlr : letR 97 = 10 := by decide
        have hfv := field_V m 10 hm (by omega)
        rw [show (fieldL m).getD 10 0 = ((m.day - 1) % 7 + 1) from rfl] at hfv
        simp (disch := first | omega | (simp; done) | (simp; omega)) [ltT, ltF, leT, leF, eqT', eqF, ltTn, leTn, ltFn, leFn, wrapI, mid, u8_37, eq_true h3]
        refine (letter_V 97 _).useV ?_
        rw [hlr]
        simp (disch := first | omega | (simp; done) | (simp; omega)) [ltT, ltF, leT, leF, eqT', eqF, ltTn, leTn, ltFn, leFn, wrapI, mid]
        refine (hfv _).useV ?_
        have hsl := day_slice (n := ((m.day - 1) % 7 + 1)) (by omega) (by omega)
        have hnl := (names_le ((((m.day - 1) % 7 + 1) : Int) - 1).toNat).1
        have hfd : dayNames.getD ((((m.day - 1) % 7 + 1) : Int) - 1).toNat [] = fmtDir m 97 := by simp [fmtDir]
        rw [hfd] at hsl hnl
        unfold daysT at hsl
        obtain ⟨v, hv⟩ : ∃ v, v = ((m.day - 1) % 7 + 1) := ⟨_, rfl⟩
        rw [← hv] at hsl ⊢
        have hv1 : 1 ≤ v ∧ v ≤ 7 := by omega
        simp (disch := first | omega | (simp; done) | (simp; omega)) [ltT, ltF, leT, leF, eqT', eqF, ltTn, leTn, ltFn, leFn, wrapI, mid, -Int.pred_toNat, hsl]
        exact fin (fmtDir m 97) rfl hnl _ (Shift.slots' (by simp) (by simp [Int.add_assoc]))
      · -- 98
        have hlr : letR 98 = 11 := by decide
        have hfv := field_V m 11 hm (by omega)
        rw [show (fieldL m).getD 11 0 = m.m from rfl] at hfv
        simp (disch := first | omega | (simp; done) | (simp; omega)) [ltT, ltF, leT, leF, eqT', eqF, ltTn, leTn, ltFn, leFn, wrapI, mid, u8_37, eq_true h3]
        refine (letter_V 98 _).useV ?_
        rw [hlr]
        simp (disch := first | omega | (simp; done) | (simp; omega)) [ltT, ltF, leT, leF, eqT', eqF, ltTn, leTn, ltFn, leFn, wrapI, mid]
        refine (hfv _).useV ?_
        have hsl := month_slice (n := m.m) (by omega) (by omega)
        have hnl := (names_le ((m.m : Int) - 1).toNat).2
        have hfd : monthNames.getD ((m.m : Int) - 1).toNat [] = fmtDir m 98 := by simp [fmtDir]
        rw [hfd] at hsl hnl
        unfold monthsT at hsl
        obtain ⟨v, hv⟩ : ∃ v, v = m.m := ⟨_, rfl⟩
        rw [← hv] at hsl ⊢
        have hv1 : 1 ≤ v ∧ v ≤ 12 := by omega
        simp (disch := first | omega | (simp; done) | (simp; omega)) [ltT, ltF, leT, leF, eqT', eqF, ltTn, leTn, ltFn, leFn, wrapI, mid, -Int.pred_toNat, hsl]
        exact fin (fmtDir m 98) rfl hnl _ (Shift.slots' (by simp) (by simp [Int.add_assoc]))
    · rw [fmtS, if_pos h3] at hc
      rw [patFrom_cons h3] at hpat
      simp (disch := first | omega | (simp; done) | (simp; omega)) [ltT, ltF, leT, leF, eqT', eqF, ltTn, leTn, ltFn, leFn, wrapI, mid, u8_37, eq_false h3]
      exact hA (pre ++ [c], e :: l, acc ++ [c]) _ ⟨by simp, by rw [← hc]; simp, by simpa using hpat, by simp; omega⟩ (by simp) (Shift.slots' (by simp) (by simp))

theorem law3 (m : Mo) (p : List UInt8) (hp : p.length ≤ 1048576) (h : List Blk) : CallP Tryd.prog 3 [.d (encMo m), .d (.str p)] h (.d (.bool true)) := by
  refine callW tb_ok fn3 (by simp) (fun hok => ?_)
  simp (disch := first | omega | (simp; done) | (simp; omega)) [ltT, ltF, leT, leF, eqT', eqF, ltTn, leTn, ltFn, leFn, wrapI, mid, c3]
  refine (format_V m p hp _).useV ?_
  simp (disch := first | omega | (simp; done) | (simp; omega)) [ltT, ltF, leT, leF, eqT', eqF, ltTn, leTn, ltFn, leFn, wrapI, mid]
  refine (momentFault_V m _).useV ?_
  by_cases h1 : (momF m).1 ≠ 0
  · rw [show formatS m p = ([], momF m) from by unfold formatS; rw [if_pos h1]]
    simp (disch := first | omega | (simp; done) | (simp; omega)) [ltT, ltF, leT, leF, eqT', eqF, ltTn, leTn, ltFn, leFn, wrapI, mid, h1]
    refine (dated_V _).useV ?_
    simp (disch := first | omega | (simp; done) | (simp; omega)) [ltT, ltF, leT, leF, eqT', eqF, ltTn, leTn, ltFn, leFn, wrapI, mid]
    exact rshift_d hok
  obtain ⟨hz, hm⟩ := momF_ok h1
  rw [hz]
  simp (disch := first | omega | (simp; done) | (simp; omega)) [ltT, ltF, leT, leF, eqT', eqF, ltTn, leTn, ltFn, leFn, wrapI, mid]
  refine (patternFault_V p 100 hp (by omega) (by omega) _).useV ?_
  by_cases h2 : (patF 100 p).1 ≠ 0
  · rw [show formatS m p = ([], patF 100 p) from by unfold formatS; rw [if_neg h1, if_pos h2]]
    simp (disch := first | omega | (simp; done) | (simp; omega)) [ltT, ltF, leT, leF, eqT', eqF, ltTn, leTn, ltFn, leFn, wrapI, mid, h2]
    refine (dated_V _).useV ?_
    simp (disch := first | omega | (simp; done) | (simp; omega)) [ltT, ltF, leT, leF, eqT', eqF, ltTn, leTn, ltFn, leFn, wrapI, mid]
    exact rshift_d hok
  rw [show formatS m p = (fmtS m p, (0, 0)) from by unfold formatS; rw [if_neg h1, if_neg h2]]
  have hp2 : p.length ≤ 200 := by
    unfold patF at h2
    by_cases c : 200 < p.length
    · rw [if_pos c] at h2; simp at h2
    · omega
  have hpz : (patFrom 100 0 p).1 = 0 := by
    unfold patF at h2
    rw [if_neg (by omega)] at h2
    simpa using h2
  obtain ⟨pf, hpf⟩ : ∃ pf, pf = patF 100 p := ⟨_, rfl⟩
  rw [← hpf] at h2
  simp (disch := first | omega | (simp; done) | (simp; omega)) [ltT, ltF, leT, leF, eqT', eqF, ltTn, leTn, ltFn, leFn, wrapI, mid, h2, ← hpf]
  refine (formatted_V m p hm hp2 hpz _).useV ?_
  simp (disch := first | omega | (simp; done) | (simp; omega)) [ltT, ltF, leT, leF, eqT', eqF, ltTn, leTn, ltFn, leFn, wrapI, mid]
  refine (dated_V _).useV ?_
  simp (disch := first | omega | (simp; done) | (simp; omega)) [ltT, ltF, leT, leF, eqT', eqF, ltTn, leTn, ltFn, leFn, wrapI, mid]
  exact rshift_d hok

end Go.Vm
