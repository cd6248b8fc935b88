/- recur: the reference's days that fit: the walk. -/
import Derived.Test.YtkmeiandnebaeaaGreatDoorRdA
import Derived.Test.YtkmeiandnebaeaaGreatDoorVmY
namespace Go.Vm
open Proofs
set_option maxRecDepth 20000
set_option maxHeartbeats 4000000
set_option linter.unusedSimpArgs false

def fitsH (h : List Blk) (r : Ru) (n s : Int) : List Blk := h ++ [.cells 25 [.d (encRu r)], .cells 99 [.d (encMo ⟨(dyS n).y, (dyS n).m, (dyS n).d, 0, 0, 0⟩)], .cells 99 [.d (encMo ⟨(dyS s).y, (dyS s).m, (dyS s).d, 0, 0, 0⟩)]]
def namedK (r : Ru) (y : Dy) (k : Nat) : Bool := decide (r.wds = []) || (r.wds.take k).any (wdIs y)
theorem hmo (n : Int) : frD n = ⟨(dyS n).y, (dyS n).m, (dyS n).d, 0, 0, 0⟩ := rfl
theorem wS (n : Int) : (n + 6) % 7 = (dyS n).w := by unfold dyS; simp only; omega
theorem wdIs_ref (y : Dy) (w : Int × Int) (h1 : 1 ≤ y.d) (h2 : 1 ≤ y.l) : wdIs y w = (decide (y.w = w.1) && (decide (w.2 = 0) || (decide (w.2 = (y.d + 6) / 7) || decide (w.2 = -((y.l + 6) / 7))))) := by
  unfold wdIs
  congr 1
  by_cases c1 : 0 < w.2
  · rw [if_pos c1]
    have a : decide (w.2 = 0) = false := by rw [decide_eq_false_iff_not]; omega
    have b : decide (w.2 = -((y.l + 6) / 7)) = false := by rw [decide_eq_false_iff_not]; omega
    rw [a, b, Bool.false_or, Bool.or_false, decide_eq_decide]
    omega
  · rw [if_neg c1]
    have b : decide (w.2 = (y.d + 6) / 7) = false := by rw [decide_eq_false_iff_not]; omega
    rw [b, Bool.false_or]
    by_cases c2 : w.2 < 0
    · rw [if_pos c2]
      have a : decide (w.2 = 0) = false := by rw [decide_eq_false_iff_not]; omega
      rw [a, Bool.false_or, decide_eq_decide]
      omega
    · rw [if_neg c2]
      have : w.2 = 0 := by omega
      simp [this]

theorem fitsR_V (r : Ru) (hr : r.ok) (s n : Int) (hs1 : 1 ≤ s) (hs2 : s ≤ 3652059) (hn1 : 1 ≤ n) (hn2 : n ≤ 3652059) (h : List Blk) :
    CallP Tryz.prog 43 [.d (.int .i64 n), .d (encRu r), .d (.int .i64 s)] h (.d (.bool (fitD r (dyS s) (dyS n)))) := by
  refine callW tb_ok fn43 (by simp) (fun hok => ?_)
  have hb := dy_bnd hn1 hn2
  have hb' := dy_bnd hs1 hs2
  have hokB : HOk (fitsH h r n s) := by
    unfold fitsH
    refine hok.append ?_
    intro z hz
    simp only [List.mem_cons, List.not_mem_nil, or_false] at hz
    rcases hz with rfl | rfl | rfl <;> simp [BlkBel, AV.cells]
  have hld : dim (dyS n).y (dyS n).m = (dyS n).d + (dyS n).l - 1 := by unfold dyS; simp only; omega
  obtain ⟨res, hres⟩ : ∃ res, fitD r (dyS s) (dyS n) = res := ⟨_, rfl⟩
  rw [hres]
  unfold fitD at hres
  have q1 := hr.months.1
  have q2 := hr.mdays.1
  have q3 := hr.wds.1
  simp (disch := first | omega | (simp; done) | (simp; omega)) [ltT, ltF, leT, leF, eqT', eqF, ltTn, leTn, ltFn, leFn, wrapI, mid, c43, -W_seq]
  rw [W_seq]
  simp (disch := first | omega | (simp; done) | (simp; omega)) [ltT, ltF, leT, leF, eqT', eqF, ltTn, leTn, ltFn, leFn, wrapI, mid, -W_seq]
  rw [W_seq]
  simp (disch := first | omega | (simp; done) | (simp; omega)) [ltT, ltF, leT, leF, eqT', eqF, ltTn, leTn, ltFn, leFn, wrapI, mid, -W_seq]
  refine (date38_V n (by omega) (by omega) _).useV ?_
  rw [hmo n]
  simp (disch := first | omega | (simp; done) | (simp; omega)) [ltT, ltF, leT, leF, eqT', eqF, ltTn, leTn, ltFn, leFn, wrapI, mid, -W_seq]
  rw [W_seq]
  simp (disch := first | omega | (simp; done) | (simp; omega)) [ltT, ltF, leT, leF, eqT', eqF, ltTn, leTn, ltFn, leFn, wrapI, mid, -W_seq]
  refine (date38_V s (by omega) (by omega) _).useV ?_
  rw [hmo s]
  simp (disch := first | omega | (simp; done) | (simp; omega)) [ltT, ltF, leT, leF, eqT', eqF, ltTn, leTn, ltFn, leFn, wrapI, mid, -W_seq]
  rw [W_seq]
  simp (disch := first | omega | (simp; done) | (simp; omega)) [ltT, ltF, leT, leF, eqT', eqF, ltTn, leTn, ltFn, leFn, wrapI, mid, -W_seq]
  refine (daysOf_V (dyS n).y (dyS n).m (by omega) (by omega) (by omega) _).useV ?_
  rw [hld]
  simp (disch := first | omega | (simp; done) | (simp; omega)) [ltT, ltF, leT, leF, eqT', eqF, ltTn, leTn, ltFn, leFn, wrapI, mid, -W_seq]
  by_cases k1 : r.months ≠ [] ∧ r.months.contains (dyS n).m = false
  · rw [if_pos k1] at hres
    have ml := List.length_pos_iff.mpr k1.1
    have mc := k1.2
    simp (disch := first | omega | (simp; done) | (simp; omega)) [ltT, ltF, leT, leF, eqT', eqF, ltTn, leTn, ltFn, leFn, wrapI, mid, ml]
    refine (has_V r.months (dyS n).m _ (by omega)).useV ?_
    have mc' := mc
    simp only [List.contains_eq_mem, decide_eq_true_eq, decide_eq_false_iff_not] at mc'
    simp (disch := first | omega | (simp; done) | (simp; omega)) [ltT, ltF, leT, leF, eqT', eqF, ltTn, leTn, ltFn, leFn, wrapI, mid, mc']
    rw [← hres]
    exact rshift_d hok
  rw [if_neg k1] at hres
  refine W_seqJ (fun e => ∃ S, e = ⟨S, fitsH h r n s⟩ ∧ look S 0 = some (.d (.int .i64 n)) ∧ look S 2 = some (.d (.int .i64 s)) ∧ look S 4 = some (.ptr h.length 25 0 0) ∧ look S 7 = some (.ptr (h.length + 1) 99 0 0) ∧ look S 8 = some (.ptr (h.length + 2) 99 0 0) ∧ look S 9 = some (.d (.int .i64 ((dyS n).d + (dyS n).l - 1)))) ?_ ?_
  · by_cases m0 : r.months = []
    · simp (disch := first | omega | (simp; done) | (simp; omega)) [ltT, ltF, leT, leF, eqT', eqF, ltTn, leTn, ltFn, leFn, wrapI, mid, m0, fitsH, hmo n, hmo s]
    · have ml := List.length_pos_iff.mpr m0
      have mc : r.months.contains (dyS n).m = true := by
        cases q : r.months.contains (dyS n).m with
        | true => rfl
        | false => exact absurd ⟨m0, q⟩ k1
      simp (disch := first | omega | (simp; done) | (simp; omega)) [ltT, ltF, leT, leF, eqT', eqF, ltTn, leTn, ltFn, leFn, wrapI, mid, ml]
      refine (has_V r.months (dyS n).m _ (by omega)).useV ?_
      have mc' := mc
      simp only [List.contains_eq_mem, decide_eq_true_eq, decide_eq_false_iff_not] at mc'
      simp (disch := first | omega | (simp; done) | (simp; omega)) [ltT, ltF, leT, leF, eqT', eqF, ltTn, leTn, ltFn, leFn, wrapI, mid, mc', fitsH, hmo n, hmo s]
  rintro _ ⟨S, rfl, l0, l2, l4, l7, l8, l9⟩
  by_cases k2 : r.mdays ≠ [] ∧ r.mdays.contains (dyS n).d = false ∧ r.mdays.contains (-(dyS n).l) = false
  · rw [if_pos k2] at hres
    have dl := List.length_pos_iff.mpr k2.1
    have dc := k2.2.1
    have dn := k2.2.2
    simp (disch := first | omega | (simp; done) | (simp; omega)) [ltT, ltF, leT, leF, eqT', eqF, ltTn, leTn, ltFn, leFn, wrapI, mid, dl, fitsH, hmo n, hmo s, l0, l2, l4, l7, l8, l9]
    refine (has_V r.mdays (dyS n).d _ (by omega)).useV ?_
    have dc' := dc
    simp only [List.contains_eq_mem, decide_eq_true_eq, decide_eq_false_iff_not] at dc'
    simp (disch := first | omega | (simp; done) | (simp; omega)) [ltT, ltF, leT, leF, eqT', eqF, ltTn, leTn, ltFn, leFn, wrapI, mid, dc', l0, l2, l4, l7, l8, l9]
    rw [show (dyS n).d - ((dyS n).d + (dyS n).l - 1) - 1 = -(dyS n).l from by omega]
    refine (has_V r.mdays (-(dyS n).l) _ (by omega)).useV ?_
    have dn' := dn
    simp only [List.contains_eq_mem, decide_eq_true_eq, decide_eq_false_iff_not] at dn'
    simp (disch := first | omega | (simp; done) | (simp; omega)) [ltT, ltF, leT, leF, eqT', eqF, ltTn, leTn, ltFn, leFn, wrapI, mid, dn', l0, l2, l4, l7, l8, l9]
    rw [← hres]
    exact rshift_d hok
  rw [if_neg k2] at hres
  refine W_seqJ (fun e => ∃ S, e = ⟨S, fitsH h r n s⟩ ∧ look S 0 = some (.d (.int .i64 n)) ∧ look S 2 = some (.d (.int .i64 s)) ∧ look S 4 = some (.ptr h.length 25 0 0) ∧ look S 7 = some (.ptr (h.length + 1) 99 0 0) ∧ look S 8 = some (.ptr (h.length + 2) 99 0 0) ∧ look S 9 = some (.d (.int .i64 ((dyS n).d + (dyS n).l - 1)))) ?_ ?_
  · by_cases d0 : r.mdays = []
    · simp (disch := first | omega | (simp; done) | (simp; omega)) [ltT, ltF, leT, leF, eqT', eqF, ltTn, leTn, ltFn, leFn, wrapI, mid, d0, fitsH, hmo n, hmo s, l0, l2, l4, l7, l8, l9]
    · have dl := List.length_pos_iff.mpr d0
      simp (disch := first | omega | (simp; done) | (simp; omega)) [ltT, ltF, leT, leF, eqT', eqF, ltTn, leTn, ltFn, leFn, wrapI, mid, dl, fitsH, hmo n, hmo s, l0, l2, l4, l7, l8, l9]
      refine (has_V r.mdays (dyS n).d _ (by omega)).useV ?_
      cases dc : r.mdays.contains (dyS n).d with
      | true =>
        have dc' := dc
        simp only [List.contains_eq_mem, decide_eq_true_eq, decide_eq_false_iff_not] at dc'
        simp (disch := first | omega | (simp; done) | (simp; omega)) [ltT, ltF, leT, leF, eqT', eqF, ltTn, leTn, ltFn, leFn, wrapI, mid, dc', fitsH, hmo n, hmo s, l0, l2, l4, l7, l8, l9]
      | false =>
        have dn : r.mdays.contains (-(dyS n).l) = true := by
          cases q : r.mdays.contains (-(dyS n).l) with
          | true => rfl
          | false => exact absurd ⟨d0, dc, q⟩ k2
        have dc' := dc
        simp only [List.contains_eq_mem, decide_eq_true_eq, decide_eq_false_iff_not] at dc'
        simp (disch := first | omega | (simp; done) | (simp; omega)) [ltT, ltF, leT, leF, eqT', eqF, ltTn, leTn, ltFn, leFn, wrapI, mid, dc', fitsH, hmo n, hmo s, l0, l2, l4, l7, l8, l9]
        rw [show (dyS n).d - ((dyS n).d + (dyS n).l - 1) - 1 = -(dyS n).l from by omega]
        refine (has_V r.mdays (-(dyS n).l) _ (by omega)).useV ?_
        have dn' := dn
        simp only [List.contains_eq_mem, decide_eq_true_eq, decide_eq_false_iff_not] at dn'
        simp (disch := first | omega | (simp; done) | (simp; omega)) [ltT, ltF, leT, leF, eqT', eqF, ltTn, leTn, ltFn, leFn, wrapI, mid, dn', fitsH, hmo n, hmo s, l0, l2, l4, l7, l8, l9]
  clear l0 l2 l4 l7 l8 l9
  rintro _ ⟨S, rfl, l0, l2, l4, l7, l8, l9⟩
  simp (disch := first | omega | (simp; done) | (simp; omega)) [ltT, ltF, leT, leF, eqT', eqF, ltTn, leTn, ltFn, leFn, wrapI, mid, fitsH, hmo n, hmo s, l0, l2, l4, l7, l8, l9]
  refine W_loopA (ι := Nat) (fun k => k ≤ r.wds.length) (fun k => ⟨[(0, .d (.int .i64 n)), (2, .d (.int .i64 s)), (4, .ptr h.length 25 0 0), (7, .ptr (h.length + 1) 99 0 0), (8, .ptr (h.length + 2) 99 0 0), (9, .d (.int .i64 ((dyS n).d + (dyS n).l - 1))), (10, .d (.bool (namedK r (dyS n) k))), (11, .d (.int .i64 k))], fitsH h r n s⟩) (fun k => r.wds.length - k) 0 (by omega) (Shift.slots' (by simp [fitsH]) (by simp [namedK, l0, l2, l4, l7, l8, l9])) ?_
  rintro k hk A hA
  by_cases hkn : k = r.wds.length
  · subst hkn
    rw [show namedK r (dyS n) r.wds.length = (decide (r.wds = []) || r.wds.any (wdIs (dyS n))) from by unfold namedK; rw [List.take_length]]
    simp (disch := first | omega | (simp; done) | (simp; omega)) [ltT, ltF, leT, leF, eqT', eqF, ltTn, leTn, ltFn, leFn, wrapI, mid, fitsH, hmo n, hmo s]
    by_cases w0 : r.wds = []
    · rw [if_neg (fun q => q w0)] at hres
      by_cases d0 : r.mdays = []
      · rw [if_neg (fun q => q d0)] at hres
        by_cases u2 : r.unit = 2
        · rw [if_pos u2] at hres
          simp (disch := first | omega | (simp; done) | (simp; omega)) [ltT, ltF, leT, leF, eqT', eqF, ltTn, leTn, ltFn, leFn, wrapI, mid, w0, d0, u2]
          refine (weekdayOf_V n (by omega) (by omega) _).useV ?_
          simp (disch := first | omega | (simp; done) | (simp; omega)) [ltT, ltF, leT, leF, eqT', eqF, ltTn, leTn, ltFn, leFn, wrapI, mid]
          refine (weekdayOf_V s (by omega) (by omega) _).useV ?_
          simp (disch := first | omega | (simp; done) | (simp; omega)) [ltT, ltF, leT, leF, eqT', eqF, ltTn, leTn, ltFn, leFn, wrapI, mid]
          rw [← hres, wS n, wS s]
          exact rshift_d hok
        rw [if_neg u2] at hres
        by_cases u3 : r.unit = 3
        · rw [if_pos u3] at hres
          by_cases yd : (dyS n).d = (dyS s).d
          · simp (disch := first | omega | (simp; done) | (simp; omega)) [ltT, ltF, leT, leF, eqT', eqF, ltTn, leTn, ltFn, leFn, wrapI, mid, w0, d0, u2, u3, yd]
            rw [← hres]
            simp only [yd, decide_true]
            exact rshift_d hok
          · simp (disch := first | omega | (simp; done) | (simp; omega)) [ltT, ltF, leT, leF, eqT', eqF, ltTn, leTn, ltFn, leFn, wrapI, mid, w0, d0, u2, u3, yd]
            rw [← hres]
            simp only [yd, decide_false]
            exact rshift_d hok
        rw [if_neg u3] at hres
        by_cases u4 : r.unit = 4
        · rw [if_pos u4] at hres
          by_cases yd : (dyS n).d = (dyS s).d
          · by_cases m0 : r.months = []
            · by_cases ym : (dyS n).m = (dyS s).m
              · simp (disch := first | omega | (simp; done) | (simp; omega)) [ltT, ltF, leT, leF, eqT', eqF, ltTn, leTn, ltFn, leFn, wrapI, mid, w0, d0, u2, u3, u4, yd, m0, ym]
                rw [← hres]
                simp only [yd, ym, decide_true, Bool.or_true, Bool.and_self]
                exact rshift_d hok
              · simp (disch := first | omega | (simp; done) | (simp; omega)) [ltT, ltF, leT, leF, eqT', eqF, ltTn, leTn, ltFn, leFn, wrapI, mid, w0, d0, u2, u3, u4, yd, m0, ym]
                rw [← hres]
                simp only [yd, ym, m0, ne_eq, not_true_eq_false, decide_false, decide_true, Bool.or_self, Bool.and_false]
                exact rshift_d hok
            · have ml := List.length_pos_iff.mpr m0
              simp (disch := first | omega | (simp; done) | (simp; omega)) [ltT, ltF, leT, leF, eqT', eqF, ltTn, leTn, ltFn, leFn, wrapI, mid, w0, d0, u2, u3, u4, yd, ml]
              rw [← hres]
              simp only [yd, m0, ne_eq, not_false_eq_true, decide_true, Bool.true_or, Bool.and_self, Bool.and_true]
              exact rshift_d hok
          · simp (disch := first | omega | (simp; done) | (simp; omega)) [ltT, ltF, leT, leF, eqT', eqF, ltTn, leTn, ltFn, leFn, wrapI, mid, w0, d0, u2, u3, u4, yd]
            rw [← hres]
            simp only [yd, decide_false, Bool.false_and]
            exact rshift_d hok
        rw [if_neg u4] at hres
        have u1 : r.unit = 1 := by have := hr.unit; omega
        simp (disch := first | omega | (simp; done) | (simp; omega)) [ltT, ltF, leT, leF, eqT', eqF, ltTn, leTn, ltFn, leFn, wrapI, mid, w0, d0, u1]
        rw [← hres]
        exact rshift_d hok
      · rw [if_pos d0] at hres
        have dl := List.length_pos_iff.mpr d0
        simp (disch := first | omega | (simp; done) | (simp; omega)) [ltT, ltF, leT, leF, eqT', eqF, ltTn, leTn, ltFn, leFn, wrapI, mid, w0, dl]
        rw [← hres]
        exact rshift_d hok
    · have wl := List.length_pos_iff.mpr w0
      rw [if_pos w0] at hres
      cases an : r.wds.any (wdIs (dyS n)) with
      | true =>
        rw [an] at hres
        by_cases d0 : r.mdays = []
        · simp (disch := first | omega | (simp; done) | (simp; omega)) [ltT, ltF, leT, leF, eqT', eqF, ltTn, leTn, ltFn, leFn, wrapI, mid, w0, an, wl, d0]
          rw [← hres]
          exact rshift_d hok
        · have dl := List.length_pos_iff.mpr d0
          simp (disch := first | omega | (simp; done) | (simp; omega)) [ltT, ltF, leT, leF, eqT', eqF, ltTn, leTn, ltFn, leFn, wrapI, mid, w0, an, wl, dl]
          rw [← hres]
          exact rshift_d hok
      | false =>
        rw [an] at hres
        simp (disch := first | omega | (simp; done) | (simp; omega)) [ltT, ltF, leT, leF, eqT', eqF, ltTn, leTn, ltFn, leFn, wrapI, mid, w0, an]
        rw [← hres]
        exact rshift_d hok
  · have hkl : k < r.wds.length := by omega
    obtain ⟨w, hw⟩ : ∃ w, r.wds[k] = w := ⟨_, rfl⟩
    have hsn : namedK r (dyS n) (k + 1) = (namedK r (dyS n) k || wdIs (dyS n) w) := by
      unfold namedK
      rw [List.take_succ_eq_append_getElem hkl, List.any_append, hw]
      simp [Bool.or_assoc]
    have hwi := wdIs_ref (dyS n) w (by omega) (by omega)
    simp (disch := first | omega | (simp; done) | (simp; omega)) [ltT, ltF, leT, leF, eqT', eqF, ltTn, leTn, ltFn, leFn, wrapI, tdivP, tmodP, mid, fitsH, hw, hmo n, hmo s]
    refine regV_all ?_
    simp (disch := first | omega | (simp; done) | (simp; omega)) [ltT, ltF, leT, leF, eqT', eqF, ltTn, leTn, ltFn, leFn, wrapI, tdivP, tmodP, mid, fitsH, hw, hmo n, hmo s]
    refine (weekdayOf_V n (by omega) (by omega) _).useV ?_
    rw [wS n]
    by_cases c1 : (dyS n).w = w.1
    · by_cases c2 : w.2 = 0
      · simp (disch := first | omega | (simp; done) | (simp; omega)) [ltT, ltF, leT, leF, eqT', eqF, ltTn, leTn, ltFn, leFn, wrapI, tdivP, tmodP, mid, hw]
        exact hA (k + 1) _ (by omega) (by omega) (Shift.weak' (g := [.cells 56 [.d (encF w)]]) (by simp [fitsH]) hokB (by simp [fitsH]) (by simp [hsn, hwi, c1, c2, fitsH]))
      · by_cases c3 : w.2 = ((dyS n).d + 6) / 7
        · simp (disch := first | omega | (simp; done) | (simp; omega)) [ltT, ltF, leT, leF, eqT', eqF, ltTn, leTn, ltFn, leFn, wrapI, tdivP, tmodP, mid, hw]
          exact hA (k + 1) _ (by omega) (by omega) (Shift.weak' (g := [.cells 56 [.d (encF w)]]) (by simp [fitsH]) hokB (by simp [fitsH]) (by simp [hsn, hwi, c1, c2, ← c3, fitsH]))
        · by_cases c4 : w.2 = -(((dyS n).l + 6) / 7)
          · simp (disch := first | omega | (simp; done) | (simp; omega)) [ltT, ltF, leT, leF, eqT', eqF, ltTn, leTn, ltFn, leFn, wrapI, tdivP, tmodP, mid, hw]
            exact hA (k + 1) _ (by omega) (by omega) (Shift.weak' (g := [.cells 56 [.d (encF w)]]) (by simp [fitsH]) hokB (by simp [fitsH]) (by simp [hsn, hwi, c1, c2, c3, ← c4, fitsH]))
          · simp (disch := first | omega | (simp; done) | (simp; omega)) [ltT, ltF, leT, leF, eqT', eqF, ltTn, leTn, ltFn, leFn, wrapI, tdivP, tmodP, mid, hw]
            exact hA (k + 1) _ (by omega) (by omega) (Shift.weak' (g := [.cells 56 [.d (encF w)]]) (by simp [fitsH]) hokB (by simp [fitsH]) (by simp [hsn, hwi, c1, c2, c3, c4, fitsH]))
    · simp (disch := first | omega | (simp; done) | (simp; omega)) [ltT, ltF, leT, leF, eqT', eqF, ltTn, leTn, ltFn, leFn, wrapI, tdivP, tmodP, mid, hw]
      exact hA (k + 1) _ (by omega) (by omega) (Shift.weak' (g := [.cells 56 [.d (encF w)]]) (by simp [fitsH]) hokB (by simp [fitsH]) (by simp [hsn, hwi, c1, fitsH]))

end Go.Vm
