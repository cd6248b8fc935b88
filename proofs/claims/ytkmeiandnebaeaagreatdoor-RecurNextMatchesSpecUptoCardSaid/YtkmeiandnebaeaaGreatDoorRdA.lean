/- recur: the reference's faults of rules: the walk. -/
import Derived.Test.YtkmeiandnebaeaaGreatDoorRd9
namespace Go.Vm
open Proofs
set_option maxRecDepth 20000
set_option maxHeartbeats 4000000
set_option linter.unusedSimpArgs false

theorem ruleFault_V (r : Ru) (h : List Blk) : CallP Tryz.prog 9 [.d (encRu r)] h (.d (encF (ruleF r))) := by
  refine callW tb_ok fn9 (by simp) (fun hok => ?_)
  obtain ⟨res, hres⟩ : ∃ res, ruleF r = res := ⟨_, rfl⟩
  rw [hres]
  unfold ruleF codesR at hres
  simp only [firstC] at hres
  simp (disch := first | omega | (simp; done) | (simp; omega)) [ltT, ltF, leT, leF, eqT', eqF, ltTn, leTn, ltFn, leFn, wrapI, mid, c9]
  refine (in_V r.unit 1 4 _).useV ?_
  by_cases q0 : r.unit < 1 ∨ 4 < r.unit
  · have e0 : ¬ (1 ≤ r.unit ∧ r.unit ≤ 4) := by omega
    rw [if_pos (show (if r.unit < 1 ∨ 4 < r.unit then (5 : Int) else 0) ≠ 0 from by rw [if_pos q0]; decide)] at hres
    simp (disch := first | omega | (simp; done) | (simp; omega)) [ltT, ltF, leT, leF, eqT', eqF, ltTn, leTn, ltFn, leFn, wrapI, mid, e0]
    refine (atF_V 5 0 _).useV ?_
    rw [show (if r.unit < 1 ∨ 4 < r.unit then (5 : Int) else 0) = 5 from if_pos q0] at hres
    simp (disch := first | omega | (simp; done) | (simp; omega)) [ltT, ltF, leT, leF, eqT', eqF, ltTn, leTn, ltFn, leFn, wrapI, mid, ← hres]
    exact rshift_d hok
  have e0 : 1 ≤ r.unit ∧ r.unit ≤ 4 := by omega
  rw [if_neg (show ¬ (if r.unit < 1 ∨ 4 < r.unit then (5 : Int) else 0) ≠ 0 from by rw [if_neg q0]; simp)] at hres
  simp (disch := first | omega | (simp; done) | (simp; omega)) [ltT, ltF, leT, leF, eqT', eqF, ltTn, leTn, ltFn, leFn, wrapI, mid, e0]
  refine (in_V r.step 1 1000 _).useV ?_
  by_cases q1 : r.step < 1 ∨ 1000 < r.step
  · have e1 : ¬ (1 ≤ r.step ∧ r.step ≤ 1000) := by omega
    rw [if_pos (show inC r.step 1 1000 ≠ 0 from by unfold inC; rw [if_pos q1]; decide)] at hres
    simp (disch := first | omega | (simp; done) | (simp; omega)) [ltT, ltF, leT, leF, eqT', eqF, ltTn, leTn, ltFn, leFn, wrapI, mid, e1]
    refine (atF_V 4 1 _).useV ?_
    rw [show inC r.step 1 1000 = 4 from if_pos q1] at hres
    simp (disch := first | omega | (simp; done) | (simp; omega)) [ltT, ltF, leT, leF, eqT', eqF, ltTn, leTn, ltFn, leFn, wrapI, mid, ← hres]
    exact rshift_d hok
  have e1 : 1 ≤ r.step ∧ r.step ≤ 1000 := by omega
  rw [if_neg (show ¬ inC r.step 1 1000 ≠ 0 from by unfold inC; rw [if_neg q1]; simp)] at hres
  simp (disch := first | omega | (simp; done) | (simp; omega)) [ltT, ltF, leT, leF, eqT', eqF, ltTn, leTn, ltFn, leFn, wrapI, mid, e1]
  refine (listFault_V (lo := 1) (hi := 12) r.months okM (fun n => by unfold okM; rw [decide_eq_decide]; omega) _).useV ?_
  obtain ⟨v2, w2⟩ : ∃ v, checkS okM r.months = v := ⟨_, rfl⟩
  rw [w2] at hres ⊢
  by_cases z2 : v2 = 0
  · rw [if_neg (by simpa using z2)] at hres
    simp (disch := first | omega | (simp; done) | (simp; omega)) [ltT, ltF, leT, leF, eqT', eqF, ltTn, leTn, ltFn, leFn, wrapI, mid, z2]
    refine (listFault_V (lo := -31) (hi := 31) r.mdays (okS 31) (fun n => rfl) _).useV ?_
    obtain ⟨v3, w3⟩ : ∃ v, checkS (okS 31) r.mdays = v := ⟨_, rfl⟩
    rw [w3] at hres ⊢
    by_cases z3 : v3 = 0
    · rw [if_neg (by simpa using z3)] at hres
      simp (disch := first | omega | (simp; done) | (simp; omega)) [ltT, ltF, leT, leF, eqT', eqF, ltTn, leTn, ltFn, leFn, wrapI, mid, z3]
      by_cases l12 : 12 < r.wds.length
      · rw [if_pos (show checkS okW r.wds ≠ 0 from by unfold checkS; rw [if_pos l12]; decide), show checkS okW r.wds = 2 from if_pos l12] at hres
        simp (disch := first | omega | (simp; done) | (simp; omega)) [ltT, ltF, leT, leF, eqT', eqF, ltTn, leTn, ltFn, leFn, wrapI, mid, l12]
        refine (atF_V 2 4 _).useV ?_
        simp (disch := first | omega | (simp; done) | (simp; omega)) [ltT, ltF, leT, leF, eqT', eqF, ltTn, leTn, ltFn, leFn, wrapI, mid, ← hres]
        exact rshift_d hok
      have e4 : checkS okW r.wds = chkS okW [] r.wds := if_neg l12
      rw [e4] at hres
      simp (disch := first | omega | (simp; done) | (simp; omega)) [ltT, ltF, leT, leF, eqT', eqF, ltTn, leTn, ltFn, leFn, wrapI, mid, l12]
      refine W_loopA (ι := Nat) (fun k => k ≤ r.wds.length ∧ chkS okW (r.wds.take k) (r.wds.drop k) = chkS okW [] r.wds) (fun k => ⟨[(1, .ptr h.length 25 0 0), (2, .ptr (h.length + 1) 27 0 0), (5, .d (.int .i64 k))], h ++ [.cells 25 [.d (encRu r)], .cells 27 [.d (encF (0, 0))]]⟩) (fun k => r.wds.length - k) 0 ⟨by omega, by simp⟩ (Shift.slots' (by simp) (by simp)) ?_
      rintro k ⟨hk, hc⟩ A hA
      by_cases hkn : k = r.wds.length
      · subst hkn
        rw [List.drop_length] at hc
        simp only [chkS] at hc
        rw [← hc, if_neg (by simp)] at hres
        simp (disch := first | omega | (simp; done) | (simp; omega)) [ltT, ltF, leT, leF, eqT', eqF, ltTn, leTn, ltFn, leFn, wrapI, mid]
        refine (listFault_V (lo := -366) (hi := 366) r.picks (okS 366) (fun n => rfl) _).useV ?_
        obtain ⟨v5, w5⟩ : ∃ v, checkS (okS 366) r.picks = v := ⟨_, rfl⟩
        rw [w5] at hres ⊢
        by_cases z5 : v5 = 0
        · rw [if_neg (by simpa using z5)] at hres
          simp (disch := first | omega | (simp; done) | (simp; omega)) [ltT, ltF, leT, leF, eqT', eqF, ltTn, leTn, ltFn, leFn, wrapI, mid, z5]
          refine (in_V r.count 0 20001 _).useV ?_
          by_cases q6 : r.count < 0 ∨ 20001 < r.count
          · have e6 : ¬ (0 ≤ r.count ∧ r.count ≤ 20001) := by omega
            rw [if_pos (show inC r.count 0 20001 ≠ 0 from by unfold inC; rw [if_pos q6]; decide)] at hres
            simp (disch := first | omega | (simp; done) | (simp; omega)) [ltT, ltF, leT, leF, eqT', eqF, ltTn, leTn, ltFn, leFn, wrapI, mid, e6]
            refine (atF_V 4 6 _).useV ?_
            rw [show inC r.count 0 20001 = 4 from if_pos q6] at hres
            simp (disch := first | omega | (simp; done) | (simp; omega)) [ltT, ltF, leT, leF, eqT', eqF, ltTn, leTn, ltFn, leFn, wrapI, mid, ← hres]
            exact rshift_d hok
          have e6 : 0 ≤ r.count ∧ r.count ≤ 20001 := by omega
          rw [if_neg (show ¬ inC r.count 0 20001 ≠ 0 from by unfold inC; rw [if_neg q6]; simp)] at hres
          simp (disch := first | omega | (simp; done) | (simp; omega)) [ltT, ltF, leT, leF, eqT', eqF, ltTn, leTn, ltFn, leFn, wrapI, mid, e6]
          refine (in_V r.til 0 3652059 _).useV ?_
          by_cases q7 : r.til < 0 ∨ 3652059 < r.til
          · have e7 : ¬ (0 ≤ r.til ∧ r.til ≤ 3652059) := by omega
            rw [if_pos (show inC r.til 0 3652059 ≠ 0 from by unfold inC; rw [if_pos q7]; decide)] at hres
            simp (disch := first | omega | (simp; done) | (simp; omega)) [ltT, ltF, leT, leF, eqT', eqF, ltTn, leTn, ltFn, leFn, wrapI, mid, e7]
            refine (atF_V 4 7 _).useV ?_
            rw [show inC r.til 0 3652059 = 4 from if_pos q7] at hres
            simp (disch := first | omega | (simp; done) | (simp; omega)) [ltT, ltF, leT, leF, eqT', eqF, ltTn, leTn, ltFn, leFn, wrapI, mid, ← hres]
            exact rshift_d hok
          have e7 : 0 ≤ r.til ∧ r.til ≤ 3652059 := by omega
          rw [if_neg (show ¬ inC r.til 0 3652059 ≠ 0 from by unfold inC; rw [if_neg q7]; simp)] at hres
          simp (disch := first | omega | (simp; done) | (simp; omega)) [ltT, ltF, leT, leF, eqT', eqF, ltTn, leTn, ltFn, leFn, wrapI, mid, e7]
          refine (atF_V 0 0 _).useV ?_
          simp (disch := first | omega | (simp; done) | (simp; omega)) [ltT, ltF, leT, leF, eqT', eqF, ltTn, leTn, ltFn, leFn, wrapI, mid, ← hres]
          exact rshift_d hok
        · rw [if_pos z5] at hres
          simp (disch := first | omega | (simp; done) | (simp; omega)) [ltT, ltF, leT, leF, eqT', eqF, ltTn, leTn, ltFn, leFn, wrapI, mid, z5]
          refine (atF_V v5 5 _).useV ?_
          simp (disch := first | omega | (simp; done) | (simp; omega)) [ltT, ltF, leT, leF, eqT', eqF, ltTn, leTn, ltFn, leFn, wrapI, mid, ← hres]
          exact rshift_d hok

      · have hkl : k < r.wds.length := by omega
        rw [List.drop_eq_getElem_cons hkl] at hc
        simp only [chkS] at hc
        obtain ⟨w, hw⟩ : ∃ w, r.wds[k] = w := ⟨_, rfl⟩
        rw [hw] at hc
        simp (disch := first | omega | (simp; done) | (simp; omega)) [ltT, ltF, leT, leF, eqT', eqF, ltTn, leTn, ltFn, leFn, wrapI, mid, hw]
        refine (in_V w.1 0 6 _).useV ?_
        by_cases a1 : 0 ≤ w.1 ∧ w.1 ≤ 6
        · simp (disch := first | omega | (simp; done) | (simp; omega)) [ltT, ltF, leT, leF, eqT', eqF, ltTn, leTn, ltFn, leFn, wrapI, mid, a1, hw]
          refine (in_V w.2 (-5) 5 _).useV ?_
          by_cases a2 : -5 ≤ w.2 ∧ w.2 ≤ 5
          · rw [if_neg (by simp [okW, a1, a2])] at hc
            simp (disch := first | omega | (simp; done) | (simp; omega)) [ltT, ltF, leT, leF, eqT', eqF, ltTn, leTn, ltFn, leFn, wrapI, mid, a1, a2]
            refine W_loopA (ι := Nat) (fun j => j ≤ k ∧ ∀ i (hi : i < r.wds.length), i < j → r.wds[i] ≠ w) (fun j => ⟨[(1, .ptr h.length 25 0 0), (2, .ptr (h.length + 1) 27 0 0), (5, .d (.int .i64 k)), (6, .d (.int .i64 j))], h ++ [.cells 25 [.d (encRu r)], .cells 27 [.d (encF (0, 0))]]⟩) (fun j => k - j) 0 ⟨by omega, fun i _ h => by omega⟩ (Shift.slots' (by simp) (by simp)) ?_
            rintro j ⟨hj, hne⟩ B hB
            by_cases hjk : j = k
            · subst hjk
              rw [if_neg (by
                rw [List.mem_take_iff_getElem]
                rintro ⟨i, hi, e⟩
                exact hne i (by omega) (by omega) e)] at hc
              simp (disch := first | omega | (simp; done) | (simp; omega)) [ltT, ltF, leT, leF, eqT', eqF, ltTn, leTn, ltFn, leFn, wrapI, mid]
              exact hA (j + 1) _ ⟨by omega, by rw [← hc, List.take_succ_eq_append_getElem hkl, hw]⟩ (by omega) (Shift.slots' (by simp) (by simp))
            · have hjl : j < r.wds.length := by omega
              obtain ⟨y, hy⟩ : ∃ y, r.wds[j] = y := ⟨_, rfl⟩
              by_cases hp : y = w
              · rw [if_pos (by rw [List.mem_take_iff_getElem]; exact ⟨j, by omega, by rw [hy, hp]⟩)] at hc
                rw [← hc, if_pos (by decide)] at hres
                have hp' : (y.1, y.2) = (w.1, w.2) := hp
                simp (disch := first | omega | (simp; done) | (simp; omega)) [ltT, ltF, leT, leF, eqT', eqF, ltTn, leTn, ltFn, leFn, wrapI, mid, hw, hy, hp']
                refine (atF_V 8 4 _).useV ?_
                simp (disch := first | omega | (simp; done) | (simp; omega)) [ltT, ltF, leT, leF, eqT', eqF, ltTn, leTn, ltFn, leFn, wrapI, mid, ← hres]
                exact rshift_d hok
              · have hp' : ¬ (y.1, y.2) = (w.1, w.2) := hp
                simp (disch := first | omega | (simp; done) | (simp; omega)) [ltT, ltF, leT, leF, eqT', eqF, ltTn, leTn, ltFn, leFn, wrapI, mid, hw, hy, eq_false hp']
                exact hB (j + 1) _ ⟨by omega, fun i hi hij => by
                  by_cases e : i = j
                  · subst e; rw [hy]; exact hp
                  · exact hne i hi (by omega)⟩ (by omega) (Shift.slots' (by simp) (by simp))
          · rw [if_pos (by unfold okW; rw [decide_eq_false_iff_not]; omega)] at hc
            rw [← hc, if_pos (by decide)] at hres
            simp (disch := first | omega | (simp; done) | (simp; omega)) [ltT, ltF, leT, leF, eqT', eqF, ltTn, leTn, ltFn, leFn, wrapI, mid, a1, a2]
            refine (atF_V 4 4 _).useV ?_
            simp (disch := first | omega | (simp; done) | (simp; omega)) [ltT, ltF, leT, leF, eqT', eqF, ltTn, leTn, ltFn, leFn, wrapI, mid, ← hres]
            exact rshift_d hok
        · rw [if_pos (by unfold okW; rw [decide_eq_false_iff_not]; omega)] at hc
          rw [← hc, if_pos (by decide)] at hres
          simp (disch := first | omega | (simp; done) | (simp; omega)) [ltT, ltF, leT, leF, eqT', eqF, ltTn, leTn, ltFn, leFn, wrapI, mid, a1]
          refine (atF_V 4 4 _).useV ?_
          simp (disch := first | omega | (simp; done) | (simp; omega)) [ltT, ltF, leT, leF, eqT', eqF, ltTn, leTn, ltFn, leFn, wrapI, mid, ← hres]
          exact rshift_d hok
    · rw [if_pos z3] at hres
      simp (disch := first | omega | (simp; done) | (simp; omega)) [ltT, ltF, leT, leF, eqT', eqF, ltTn, leTn, ltFn, leFn, wrapI, mid, z3]
      refine (atF_V v3 3 _).useV ?_
      simp (disch := first | omega | (simp; done) | (simp; omega)) [ltT, ltF, leT, leF, eqT', eqF, ltTn, leTn, ltFn, leFn, wrapI, mid, ← hres]
      exact rshift_d hok

  · rw [if_pos z2] at hres
    simp (disch := first | omega | (simp; done) | (simp; omega)) [ltT, ltF, leT, leF, eqT', eqF, ltTn, leTn, ltFn, leFn, wrapI, mid, z2]
    refine (atF_V v2 2 _).useV ?_
    simp (disch := first | omega | (simp; done) | (simp; omega)) [ltT, ltF, leT, leF, eqT', eqF, ltTn, leTn, ltFn, leFn, wrapI, mid, ← hres]
    exact rshift_d hok

theorem startFault_V (s : Int) (r : Ru) (h : List Blk) : CallP Tryz.prog 10 [.d (.int .i64 s), .d (encRu r)] h (.d (encF (chkF s r))) := by
  refine callW tb_ok fn10 (by simp) (fun hok => ?_)
  obtain ⟨res, hres⟩ : ∃ res, chkF s r = res := ⟨_, rfl⟩
  rw [hres]
  unfold chkF at hres
  simp (disch := first | omega | (simp; done) | (simp; omega)) [ltT, ltF, leT, leF, eqT', eqF, ltTn, leTn, ltFn, leFn, wrapI, mid, c10]
  refine (ruleFault_V r _).useV ?_
  by_cases h1 : (ruleF r).1 = 0
  · rw [if_neg (by simpa using h1)] at hres
    simp (disch := first | omega | (simp; done) | (simp; omega)) [ltT, ltF, leT, leF, eqT', eqF, ltTn, leTn, ltFn, leFn, wrapI, mid, h1]
    refine (in_V s 1 3652059 _).useV ?_
    by_cases h2 : 1 ≤ s ∧ s ≤ 3652059
    · rw [if_neg (by omega)] at hres
      obtain ⟨hz, _⟩ := ruleF_ok (r := r) (by simpa using h1)
      simp (disch := first | omega | (simp; done) | (simp; omega)) [ltT, ltF, leT, leF, eqT', eqF, ltTn, leTn, ltFn, leFn, wrapI, mid, h2, hz, ← hres]
      exact rshift_d hok
    · rw [if_pos (by omega)] at hres
      simp (disch := first | omega | (simp; done) | (simp; omega)) [ltT, ltF, leT, leF, eqT', eqF, ltTn, leTn, ltFn, leFn, wrapI, mid, h2]
      refine (atF_V 4 (-1) _).useV ?_
      simp (disch := first | omega | (simp; done) | (simp; omega)) [ltT, ltF, leT, leF, eqT', eqF, ltTn, leTn, ltFn, leFn, wrapI, mid, ← hres]
      exact rshift_d hok
  · rw [if_pos h1] at hres
    simp (disch := first | omega | (simp; done) | (simp; omega)) [ltT, ltF, leT, leF, eqT', eqF, ltTn, leTn, ltFn, leFn, wrapI, mid, h1, ← hres]
    exact rshift_d hok

end Go.Vm
