/- recur: the reference's periods: the walk. -/
import Derived.Test.YtkmeiandnebaeaaGreatDoorRdA
namespace Go.Vm
open Proofs
set_option maxRecDepth 20000
set_option maxHeartbeats 4000000
set_option linter.unusedSimpArgs false

theorem pf_year {s k : Int} (h : pf 4 s k ≤ 3652059) : (dateRef s).1 + k ≤ 9999 := by
  unfold pf at h
  simp only [if_neg (show ¬ (4 : Int) = 2 from by decide), if_neg (show ¬ (4 : Int) = 3 from by decide), if_true] at h
  by_cases c : 9999 < (dateRef s).1 + k
  · have := dB_mono (y := 10000) (z := (dateRef s).1 + k) (by omega)
    have e : dB 10000 = 3652059 := rfl
    omega
  · omega
theorem pf_month {s k : Int} (h : pf 3 s k ≤ 3652059) : 12 * (dateRef s).1 + ((dateRef s).2.1 - 1) + k ≤ 119999 := by
  unfold pf at h
  simp only [if_neg (show ¬ (3 : Int) = 2 from by decide), if_true] at h
  by_cases c : 119999 < 12 * (dateRef s).1 + ((dateRef s).2.1 - 1) + k
  · have := mStart_mono (a := 120000) (b := 12 * (dateRef s).1 + ((dateRef s).2.1 - 1) + k) (by omega)
    have e : mStart 120000 = 3652059 := rfl
    omega
  · omega
theorem dayOf_mStart {y m d : Int} (h1 : 1 ≤ m) (h2 : m ≤ 12) : dayOf y m d = mStart (12 * y + (m - 1)) + d := by
  unfold dayOf mStart
  rw [show (12 * y + (m - 1)) / 12 = y from by omega, show (12 * y + (m - 1)) % 12 = m - 1 from by omega]
  omega

theorem period42_V (r : Ru) (s : Int) (k : Nat) (hs1 : 1 ≤ s) (hs2 : s ≤ 3652059) (hu : 1 ≤ r.unit ∧ r.unit ≤ 4) (j : Nat) (hj : pf r.unit s j ≤ 3652059) (hk : k ≤ j + 1000) (h : List Blk) :
    CallP Tryz.prog 42 [.d (encRu r), .d (.int .i64 s), .d (.int .i64 k)] h (.tup [.d (.int .i64 (pf r.unit s k)), .d (.int .i64 (pf r.unit s (k + 1) - 1))]) := by
  refine callW tb_ok fn42 (by simp) (fun hok => ?_)
  have hgr := pf_grow (u := r.unit) hs1 j
  obtain ⟨⟨y1, y2, m1, m2, d1, d2⟩, he⟩ := dateRef_ok hs1 hs2
  obtain ⟨u, hur⟩ : ∃ u, r.unit = u := ⟨_, rfl⟩
  rw [hur] at hu hj hgr ⊢
  simp (disch := first | omega | (simp; done) | (simp; omega)) [ltT, ltF, leT, leF, eqT', eqF, ltTn, leTn, ltFn, leFn, wrapI, mid, c42]
  refine (date38_V s (by omega) (by omega) _).useV ?_
  by_cases h1 : u = 1
  · have e1 : pf u s k = s + k := by rw [h1]; rfl
    have e2 : pf u s (k + 1) - 1 = s + k := by rw [h1]; show s + ((k : Int) + 1) - 1 = _; omega
    rw [e1, e2]
    simp (disch := first | omega | (simp; done) | (simp; omega)) [ltT, ltF, leT, leF, eqT', eqF, ltTn, leTn, ltFn, leFn, wrapI, mid, hur, h1, frD]
    exact RShift.subs ⟨.refl _, .refl _, trivial⟩ (by simp) hok (Nat.le_refl _)
  by_cases h2 : u = 2
  · have e1 : pf u s k = s - (s + 6) % 7 + 7 * k := by rw [h2]; show s - (s - 1) % 7 + 7 * (k : Int) = _; omega
    have e2 : pf u s (k + 1) - 1 = s - (s + 6) % 7 + 7 * k + 6 := by rw [h2]; show s - (s - 1) % 7 + 7 * ((k : Int) + 1) - 1 = _; omega
    rw [e1, e2]
    simp (disch := first | omega | (simp; done) | (simp; omega)) [ltT, ltF, leT, leF, eqT', eqF, ltTn, leTn, ltFn, leFn, wrapI, mid, hur, h1, h2, frD]
    refine (weekdayOf_V s (by omega) (by omega) _).useV ?_
    simp (disch := first | omega | (simp; done) | (simp; omega)) [ltT, ltF, leT, leF, eqT', eqF, ltTn, leTn, ltFn, leFn, wrapI, mid]
    exact RShift.subs ⟨.refl _, .refl _, trivial⟩ (by simp) hok (Nat.le_refl _)
  by_cases h4 : u = 4
  · subst h4
    have hy := pf_year hj
    have e1 : pf 4 s k = dayOf ((dateRef s).1 + k) 1 1 := by rw [dayOf_first]; rfl
    have e2 : pf 4 s (k + 1) - 1 = dayOf ((dateRef s).1 + k) 12 31 := by
      rw [dayOf_mStart (by omega) (by omega)]
      have hm := mStart_succ (12 * ((dateRef s).1 + k) + (12 - 1))
      rw [show (12 * ((dateRef s).1 + (k : Int)) + (12 - 1)) / 12 = (dateRef s).1 + k from by omega, show (12 * ((dateRef s).1 + (k : Int)) + (12 - 1)) % 12 + 1 = 12 from by omega] at hm
      have hd : dim ((dateRef s).1 + (k : Int)) 12 = 31 := rfl
      have hx : mStart (12 * ((dateRef s).1 + (k : Int)) + (12 - 1) + 1) = dB ((dateRef s).1 + ((k : Int) + 1)) := by
        unfold mStart
        rw [show (12 * ((dateRef s).1 + (k : Int)) + (12 - 1) + 1) / 12 = (dateRef s).1 + ((k : Int) + 1) from by omega, show (12 * ((dateRef s).1 + (k : Int)) + (12 - 1) + 1) % 12 = 0 from by omega]
        simp [cumM]
      have hp : pf 4 s ((k : Int) + 1) = dB ((dateRef s).1 + ((k : Int) + 1)) + 1 := rfl
      omega
    rw [e1, e2]
    simp (disch := first | omega | (simp; done) | (simp; omega)) [ltT, ltF, leT, leF, eqT', eqF, ltTn, leTn, ltFn, leFn, wrapI, mid, hur, frD]
    refine regV_all ?_
    simp (disch := first | omega | (simp; done) | (simp; omega)) [ltT, ltF, leT, leF, eqT', eqF, ltTn, leTn, ltFn, leFn, wrapI, mid, hur, frD]
    refine (day23_V ((dateRef s).1 + k) 1 1 (by omega) (by omega) (by omega) (by omega) (by omega) (by omega) _).useV ?_
    simp (disch := first | omega | (simp; done) | (simp; omega)) [ltT, ltF, leT, leF, eqT', eqF, ltTn, leTn, ltFn, leFn, wrapI, mid]
    refine (day23_V ((dateRef s).1 + k) 12 31 (by omega) (by omega) (by omega) (by omega) (by omega) (by omega) _).useV ?_
    simp (disch := first | omega | (simp; done) | (simp; omega)) [ltT, ltF, leT, leF, eqT', eqF, ltTn, leTn, ltFn, leFn, wrapI, mid]
    exact RShift.subs ⟨.refl _, .refl _, trivial⟩ (by simp) hok (Nat.le_refl _)
  · have h3 : u = 3 := by omega
    subst h3
    have hy := pf_month hj
    obtain ⟨i, hi⟩ : ∃ i, i = (dateRef s).2.1 - 1 + (k : Int) := ⟨_, rfl⟩
    have hi0 : 0 ≤ i := by omega
    have hm1 : 1 ≤ i % 12 + 1 := by omega
    have hm2 : i % 12 + 1 ≤ 12 := by omega
    have hY1 : 1 ≤ (dateRef s).1 + i / 12 := by omega
    have hY2 : (dateRef s).1 + i / 12 ≤ 100000 := by omega
    have hM : 12 * ((dateRef s).1 + i / 12) + (i % 12 + 1 - 1) = 12 * (dateRef s).1 + ((dateRef s).2.1 - 1) + k := by omega
    have e1 : pf 3 s k = dayOf ((dateRef s).1 + i / 12) (i % 12 + 1) 1 := by rw [dayOf_mStart hm1 hm2, hM]; rfl
    have e2 : pf 3 s (k + 1) - 1 = dayOf ((dateRef s).1 + i / 12) (i % 12 + 1) (dim ((dateRef s).1 + i / 12) (i % 12 + 1)) := by
      rw [dayOf_mStart hm1 hm2, hM]
      have hm := mStart_succ (12 * (dateRef s).1 + ((dateRef s).2.1 - 1) + k)
      rw [show (12 * (dateRef s).1 + ((dateRef s).2.1 - 1) + (k : Int)) / 12 = (dateRef s).1 + i / 12 from by omega, show (12 * (dateRef s).1 + ((dateRef s).2.1 - 1) + (k : Int)) % 12 + 1 = i % 12 + 1 from by omega] at hm
      have hp : pf 3 s ((k : Int) + 1) = mStart (12 * (dateRef s).1 + ((dateRef s).2.1 - 1) + ((k : Int) + 1)) + 1 := rfl
      rw [hp, show 12 * (dateRef s).1 + ((dateRef s).2.1 - 1) + ((k : Int) + 1) = 12 * (dateRef s).1 + ((dateRef s).2.1 - 1) + k + 1 from by omega]
      omega
    have hdl := dim_le ((dateRef s).1 + i / 12) (i % 12 + 1)
    rw [e1, e2]
    simp (disch := first | omega | (simp; done) | (simp; omega)) [ltT, ltF, leT, leF, eqT', eqF, ltTn, leTn, ltFn, leFn, wrapI, tdivP, tmodP, mid, hur, frD, ← hi]
    refine (day23_V ((dateRef s).1 + i / 12) (i % 12 + 1) 1 (by omega) (by omega) (by omega) (by omega) (by omega) (by omega) _).useV ?_
    simp (disch := first | omega | (simp; done) | (simp; omega)) [ltT, ltF, leT, leF, eqT', eqF, ltTn, leTn, ltFn, leFn, wrapI, tdivP, tmodP, mid]
    refine (daysOf_V ((dateRef s).1 + i / 12) (i % 12 + 1) (by omega) (by omega) (by omega) _).useV ?_
    simp (disch := first | omega | (simp; done) | (simp; omega)) [ltT, ltF, leT, leF, eqT', eqF, ltTn, leTn, ltFn, leFn, wrapI, tdivP, tmodP, mid]
    refine (day23_V ((dateRef s).1 + i / 12) (i % 12 + 1) _ (by omega) (by omega) (by omega) (by omega) (by omega) (by omega) _).useV ?_
    simp (disch := first | omega | (simp; done) | (simp; omega)) [ltT, ltF, leT, leF, eqT', eqF, ltTn, leTn, ltFn, leFn, wrapI, tdivP, tmodP, mid]
    exact RShift.subs ⟨.refl _, .refl _, trivial⟩ (by simp) hok (Nat.le_refl _)

end Go.Vm
