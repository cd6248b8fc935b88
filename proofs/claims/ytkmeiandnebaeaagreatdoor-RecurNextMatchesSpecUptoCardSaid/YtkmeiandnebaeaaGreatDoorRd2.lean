/- recur: which days fit: the walks. -/
import Derived.Test.YtkmeiandnebaeaaGreatDoorRd1
namespace Go.Vm
open Proofs
set_option maxRecDepth 20000
set_option maxHeartbeats 1000000
set_option linter.unusedSimpArgs false

def encRu (r : Ru) : D := .agg [.int .i64 r.unit, .int .i64 r.step, .sl 3 (r.months.map encI), .sl 3 (r.mdays.map encI), .sl 56 (r.wds.map encF), .sl 3 (r.picks.map encI), .int .i64 r.count, .int .i64 r.til]
@[simp] theorem cells_Ru (r : Ru) : D.cells (encRu r) = [.int .i64 r.unit, .int .i64 r.step, .sl 3 (r.months.map encI), .sl 3 (r.mdays.map encI), .sl 56 (r.wds.map encF), .sl 3 (r.picks.map encI), .int .i64 r.count, .int .i64 r.til] := rfl
@[simp] theorem fold_Ru (u s : Int) (m d : List Int) (w : List (Int × Int)) (p : List Int) (c t : Int) : D.agg [.int .i64 u, .int .i64 s, .sl 3 (m.map encI), .sl 3 (d.map encI), .sl 56 (w.map encF), .sl 3 (p.map encI), .int .i64 c, .int .i64 t] = encRu ⟨u, s, m, d, w, p, c, t⟩ := rfl

theorem index78_V (l : List Int) (x : Int) (h : List Blk) (hl : l.length < 1000000000) : CallP Tryz.prog 103 [.d (.sl 3 (l.map encI)), .d (.int .i64 x)] h (.d (.int .i64 (idxFrom (fun y => decide (x = y)) 0 l))) := by
  refine callW tb_ok fn103 (by simp) (fun hok => ?_)
  simp [c103]
  refine W_loopA (ι := List Int × List Int) (fun q => q.1 ++ q.2 = l ∧ idxFrom (fun y => decide (x = y)) q.1.length q.2 = idxFrom (fun y => decide (x = y)) 0 l) (fun q => ⟨[(0, .d (.sl 3 (l.map encI))), (1, .d (.int .i64 x)), (7, .d (.int .i64 l.length)), (8, .d (.int .i64 q.1.length))], h⟩) (fun q => q.2.length) ([], l) (by simp) (Shift.slots' rfl (by simp [look])) ?_
  rintro ⟨pre, rest⟩ ⟨hx, hc⟩ A hA
  simp only at hx hc
  subst hx
  cases rest with
  | nil =>
    simp only [idxFrom, List.append_nil] at hc
    simp (disch := first | omega | (simp; done) | (simp; omega)) [ltT, ltF, leT, leF, eqT', eqF, ltTn, leTn, ltFn, leFn, wrapI, mid, ← hc]
  | cons y rest =>
    simp only [List.length_append, List.length_cons] at hl
    by_cases hp : x = y
    · have hr : idxFrom (fun y => decide (x = y)) 0 (pre ++ y :: rest) = pre.length := by rw [← hc, idxFrom, if_pos (by simpa using hp)]
      simp (disch := first | omega | (simp; done) | (simp; omega)) [ltT, ltF, leT, leF, eqT', eqF, ltTn, leTn, ltFn, leFn, wrapI, mid, encI, eq_true hp, hr]
    · simp (disch := first | omega | (simp; done) | (simp; omega)) [ltT, ltF, leT, leF, eqT', eqF, ltTn, leTn, ltFn, leFn, wrapI, mid, encI, eq_false hp]
      refine hA (pre ++ [y], rest) _ ⟨by simp, ?_⟩ (by simp) (Shift.slots' rfl (by simp [encI]))
      rw [← hc, idxFrom, if_neg (by simpa using hp)]
      simp
theorem any_contains (l : List Int) (x : Int) : l.any (fun y => decide (x = y)) = l.contains x := by
  induction l with
  | nil => rfl
  | cons y l ih => rw [List.any_cons, ih, List.contains_cons]; rfl
theorem contains66_V (l : List Int) (x : Int) (h : List Blk) (hl : l.length < 1000000000) : CallP Tryz.prog 72 [.d (.sl 3 (l.map encI)), .d (.int .i64 x)] h (.d (.bool (l.contains x))) := by
  refine callW tb_ok fn72 (by simp) (fun hok => ?_)
  simp (disch := first | omega | (simp; done) | (simp; omega)) [ltT, ltF, leT, leF, eqT', eqF, ltTn, leTn, ltFn, leFn, wrapI, mid, c72]
  refine (index78_V l x _ hl).useV ?_
  simp (disch := first | omega | (simp; done) | (simp; omega)) [ltT, ltF, leT, leF, eqT', eqF, ltTn, leTn, ltFn, leFn, wrapI, mid, idxFrom_any, any_contains]

theorem named_V (y : Dy) (w : Int × Int) (h1 : 1 ≤ y.d) (h2 : y.d ≤ 1000) (h3 : 1 ≤ y.l) (h4 : y.l ≤ 1000) (h5 : -100 ≤ w.2) (h6 : w.2 ≤ 100) (h : List Blk) : CallP Tryz.prog 102 [.d (encMo y.mo), .d (encF w)] h (.d (.bool (wdIs y w))) := by
  refine callW tb_ok fn102 (by simp) (fun hok => ?_)
  unfold wdIs
  by_cases c1 : y.w = w.1
  · by_cases c2 : 0 < w.2
    · simp (disch := first | omega | (simp; done) | (simp; omega)) [ltT, ltF, leT, leF, eqT', eqF, ltTn, leTn, ltFn, leFn, wrapI, tdivP, tmodP, mid, c102, Dy.mo, c1, c2]
      exact rshift_d hok
    · by_cases c3 : w.2 < 0
      · simp (disch := first | omega | (simp; done) | (simp; omega)) [ltT, ltF, leT, leF, eqT', eqF, ltTn, leTn, ltFn, leFn, wrapI, tdivP, tmodP, mid, c102, Dy.mo, c1, c2, c3]
        exact rshift_d hok
      · simp (disch := first | omega | (simp; done) | (simp; omega)) [ltT, ltF, leT, leF, eqT', eqF, ltTn, leTn, ltFn, leFn, wrapI, tdivP, tmodP, mid, c102, Dy.mo, c1, c2, c3]
        exact rshift_d hok
  · simp (disch := first | omega | (simp; done) | (simp; omega)) [ltT, ltF, leT, leF, eqT', eqF, ltTn, leTn, ltFn, leFn, wrapI, tdivP, tmodP, mid, c102, Dy.mo, c1]
    exact rshift_d hok

theorem indexFunc81_V (y : Dy) (l : List (Int × Int)) (h1 : 1 ≤ y.d) (h2 : y.d ≤ 1000) (h3 : 1 ≤ y.l) (h4 : y.l ≤ 1000) (h5 : ∀ w ∈ l, -100 ≤ w.2 ∧ w.2 ≤ 100) (h : List Blk) (hl : l.length < 1000000000) :
    CallP Tryz.prog 119 [.d (.sl 56 (l.map encF)), .bnd 102 [.d (encMo y.mo)]] h (.d (.int .i64 (idxFrom (wdIs y) 0 l))) := by
  refine callW tb_ok fn119 (by simp) (fun hok => ?_)
  simp [c119]
  refine W_loopA (ι := List (Int × Int) × List (Int × Int)) (fun q => q.1 ++ q.2 = l ∧ idxFrom (wdIs y) q.1.length q.2 = idxFrom (wdIs y) 0 l) (fun q => ⟨[(0, .d (.sl 56 (l.map encF))), (1, .bnd 102 [.d (encMo y.mo)]), (7, .d (.int .i64 l.length)), (8, .d (.int .i64 q.1.length))], h⟩) (fun q => q.2.length) ([], l) (by simp) (Shift.slots' rfl (by simp [look])) ?_
  rintro ⟨pre, rest⟩ ⟨hx, hc⟩ A hA
  simp only at hx hc
  subst hx
  cases rest with
  | nil =>
    simp only [idxFrom, List.append_nil] at hc
    simp (disch := first | omega | (simp; done) | (simp; omega)) [ltT, ltF, leT, leF, eqT', eqF, ltTn, leTn, ltFn, leFn, wrapI, mid, ← hc]
  | cons w rest =>
    simp only [List.length_append, List.length_cons] at hl
    have hw := h5 w (by simp)
    simp (disch := first | omega | (simp; done) | (simp; omega)) [ltT, ltF, leT, leF, eqT', eqF, ltTn, leTn, ltFn, leFn, wrapI, mid]
    refine (named_V y w h1 h2 h3 h4 hw.1 hw.2 _).useV ?_
    cases hp : wdIs y w with
    | true =>
      have hr : idxFrom (wdIs y) 0 (pre ++ w :: rest) = pre.length := by rw [← hc, idxFrom, if_pos hp]
      simp (disch := first | omega | (simp; done) | (simp; omega)) [ltT, ltF, leT, leF, eqT', eqF, ltTn, leTn, ltFn, leFn, wrapI, mid, hr]
    | false =>
      simp (disch := first | omega | (simp; done) | (simp; omega)) [ltT, ltF, leT, leF, eqT', eqF, ltTn, leTn, ltFn, leFn, wrapI, mid]
      refine hA (pre ++ [w], rest) _ ⟨by simp, ?_⟩ (by simp) (Shift.slots' rfl (by simp))
      rw [← hc, idxFrom, if_neg (by rw [hp]; simp)]
      simp
theorem containsFunc68_V (y : Dy) (l : List (Int × Int)) (h1 : 1 ≤ y.d) (h2 : y.d ≤ 1000) (h3 : 1 ≤ y.l) (h4 : y.l ≤ 1000) (h5 : ∀ w ∈ l, -100 ≤ w.2 ∧ w.2 ≤ 100) (h : List Blk) (hl : l.length < 1000000000) :
    CallP Tryz.prog 101 [.d (.sl 56 (l.map encF)), .bnd 102 [.d (encMo y.mo)]] h (.d (.bool (l.any (wdIs y)))) := by
  refine callW tb_ok fn101 (by simp) (fun hok => ?_)
  simp (disch := first | omega | (simp; done) | (simp; omega)) [ltT, ltF, leT, leF, eqT', eqF, ltTn, leTn, ltFn, leFn, wrapI, mid, c101]
  refine (indexFunc81_V y l h1 h2 h3 h4 h5 _ hl).useV ?_
  simp (disch := first | omega | (simp; done) | (simp; omega)) [ltT, ltF, leT, leF, eqT', eqF, ltTn, leTn, ltFn, leFn, wrapI, mid, idxFrom_any]

theorem fits_V (r : Ru) (hr : r.ok) (s y : Dy) (h1 : 1 ≤ y.d) (h2 : y.d ≤ 1000) (h3 : 1 ≤ y.l) (h4 : y.l ≤ 1000) (h : List Blk) : CallP Tryz.prog 71 [.d (encMo y.mo), .d (encRu r), .d (encMo s.mo)] h (.d (.bool (fitD r s y))) := by
  refine callW tb_ok fn71 (by simp) (fun hok => ?_)
  obtain ⟨res, hres⟩ : ∃ res, fitD r s y = res := ⟨_, rfl⟩
  rw [hres]
  unfold fitD at hres
  have q1 := hr.months.1
  have q2 := hr.mdays.1
  have q3 := hr.wds.1
  simp (disch := first | omega | (simp; done) | (simp; omega)) [ltT, ltF, leT, leF, eqT', eqF, ltTn, leTn, ltFn, leFn, wrapI, mid, c71, Dy.mo]
  by_cases m0 : r.months = []
  · rw [if_neg (fun q => q.1 m0)] at hres
    simp (disch := first | omega | (simp; done) | (simp; omega)) [ltT, ltF, leT, leF, eqT', eqF, ltTn, leTn, ltFn, leFn, wrapI, mid, m0]
    by_cases d0 : r.mdays = []
    · rw [if_neg (fun q => q.1 d0)] at hres
      simp (disch := first | omega | (simp; done) | (simp; omega)) [ltT, ltF, leT, leF, eqT', eqF, ltTn, leTn, ltFn, leFn, wrapI, mid, d0]
      by_cases w0 : r.wds = []
      · rw [if_neg (fun q => q w0)] at hres
        rw [if_neg (fun q => q d0)] at hres
        by_cases u2 : r.unit = 2
        · rw [if_pos u2] at hres
          simp (disch := first | omega | (simp; done) | (simp; omega)) [ltT, ltF, leT, leF, eqT', eqF, ltTn, leTn, ltFn, leFn, wrapI, mid, w0, d0, u2]
          rw [← hres]
          exact rshift_d hok
        rw [if_neg u2] at hres
        by_cases u3 : r.unit = 3
        · rw [if_pos u3] at hres
          simp (disch := first | omega | (simp; done) | (simp; omega)) [ltT, ltF, leT, leF, eqT', eqF, ltTn, leTn, ltFn, leFn, wrapI, mid, w0, d0, u2, u3]
          rw [← hres]
          exact rshift_d hok
        rw [if_neg u3] at hres
        by_cases u4 : r.unit = 4
        · rw [if_pos u4] at hres
          by_cases yd : y.d = s.d
          · by_cases ym : y.m = s.m
            · simp (disch := first | omega | (simp; done) | (simp; omega)) [ltT, ltF, leT, leF, eqT', eqF, ltTn, leTn, ltFn, leFn, wrapI, mid, w0, d0, u2, u3, u4, yd, m0, ym]
              rw [← hres]
              simp only [yd, ym, decide_true, Bool.or_true, Bool.and_self]
              exact rshift_d hok
            · simp (disch := first | omega | (simp; done) | (simp; omega)) [ltT, ltF, leT, leF, eqT', eqF, ltTn, leTn, ltFn, leFn, wrapI, mid, w0, d0, u2, u3, u4, yd, m0, ym]
              rw [← hres]
              simp only [yd, ym, m0, ne_eq, not_true_eq_false, decide_false, decide_true, Bool.or_self, Bool.and_false]
              exact rshift_d hok
          · simp (disch := first | omega | (simp; done) | (simp; omega)) [ltT, ltF, leT, leF, eqT', eqF, ltTn, leTn, ltFn, leFn, wrapI, mid, w0, d0, u2, u3, u4, yd, m0]
            rw [← hres]
            simp only [yd, decide_false, Bool.false_and]
            exact rshift_d hok
        rw [if_neg u4] at hres
        simp (disch := first | omega | (simp; done) | (simp; omega)) [ltT, ltF, leT, leF, eqT', eqF, ltTn, leTn, ltFn, leFn, wrapI, mid, w0, d0, u2, u3, u4]
        rw [← hres]
        exact rshift_d hok
      · have wl := List.length_pos_iff.mpr w0
        rw [if_pos w0] at hres
        simp (disch := first | omega | (simp; done) | (simp; omega)) [ltT, ltF, leT, leF, eqT', eqF, ltTn, leTn, ltFn, leFn, wrapI, mid, wl]
        refine (containsFunc68_V y r.wds h1 h2 h3 h4 (fun w hw => by have := (hr.wds.2 w hw).2; omega) _ (by omega)).useV ?_
        simp (disch := first | omega | (simp; done) | (simp; omega)) [ltT, ltF, leT, leF, eqT', eqF, ltTn, leTn, ltFn, leFn, wrapI, mid]
        rw [← hres]
        exact rshift_d hok
    · have dl := List.length_pos_iff.mpr d0
      cases dc : r.mdays.contains y.d with
      | true =>
        rw [if_neg (fun q => by rw [dc] at q; cases q.2.1)] at hres
        simp (disch := first | omega | (simp; done) | (simp; omega)) [ltT, ltF, leT, leF, eqT', eqF, ltTn, leTn, ltFn, leFn, wrapI, mid, dl]
        refine (contains66_V r.mdays y.d _ (by omega)).useV ?_
        have dc' := dc
        simp only [List.contains_eq_mem, decide_eq_true_eq, decide_eq_false_iff_not] at dc'
        simp (disch := first | omega | (simp; done) | (simp; omega)) [ltT, ltF, leT, leF, eqT', eqF, ltTn, leTn, ltFn, leFn, wrapI, mid, dc']
        by_cases w0 : r.wds = []
        · rw [if_neg (fun q => q w0)] at hres
          rw [if_pos d0] at hres
          simp (disch := first | omega | (simp; done) | (simp; omega)) [ltT, ltF, leT, leF, eqT', eqF, ltTn, leTn, ltFn, leFn, wrapI, mid, w0, dl]
          rw [← hres]
          exact rshift_d hok
        · have wl := List.length_pos_iff.mpr w0
          rw [if_pos w0] at hres
          simp (disch := first | omega | (simp; done) | (simp; omega)) [ltT, ltF, leT, leF, eqT', eqF, ltTn, leTn, ltFn, leFn, wrapI, mid, wl]
          refine (containsFunc68_V y r.wds h1 h2 h3 h4 (fun w hw => by have := (hr.wds.2 w hw).2; omega) _ (by omega)).useV ?_
          simp (disch := first | omega | (simp; done) | (simp; omega)) [ltT, ltF, leT, leF, eqT', eqF, ltTn, leTn, ltFn, leFn, wrapI, mid]
          rw [← hres]
          exact rshift_d hok
      | false =>
        cases dn : r.mdays.contains (-y.l) with
        | true =>
          rw [if_neg (fun q => by rw [dn] at q; cases q.2.2)] at hres
          simp (disch := first | omega | (simp; done) | (simp; omega)) [ltT, ltF, leT, leF, eqT', eqF, ltTn, leTn, ltFn, leFn, wrapI, mid, dl]
          refine (contains66_V r.mdays y.d _ (by omega)).useV ?_
          have dc' := dc
          simp only [List.contains_eq_mem, decide_eq_true_eq, decide_eq_false_iff_not] at dc'
          simp (disch := first | omega | (simp; done) | (simp; omega)) [ltT, ltF, leT, leF, eqT', eqF, ltTn, leTn, ltFn, leFn, wrapI, mid, dc']
          refine (contains66_V r.mdays (-y.l) _ (by omega)).useV ?_
          have dn' := dn
          simp only [List.contains_eq_mem, decide_eq_true_eq, decide_eq_false_iff_not] at dn'
          simp (disch := first | omega | (simp; done) | (simp; omega)) [ltT, ltF, leT, leF, eqT', eqF, ltTn, leTn, ltFn, leFn, wrapI, mid, dn']
          by_cases w0 : r.wds = []
          · rw [if_neg (fun q => q w0)] at hres
            rw [if_pos d0] at hres
            simp (disch := first | omega | (simp; done) | (simp; omega)) [ltT, ltF, leT, leF, eqT', eqF, ltTn, leTn, ltFn, leFn, wrapI, mid, w0, dl]
            rw [← hres]
            exact rshift_d hok
          · have wl := List.length_pos_iff.mpr w0
            rw [if_pos w0] at hres
            simp (disch := first | omega | (simp; done) | (simp; omega)) [ltT, ltF, leT, leF, eqT', eqF, ltTn, leTn, ltFn, leFn, wrapI, mid, wl]
            refine (containsFunc68_V y r.wds h1 h2 h3 h4 (fun w hw => by have := (hr.wds.2 w hw).2; omega) _ (by omega)).useV ?_
            simp (disch := first | omega | (simp; done) | (simp; omega)) [ltT, ltF, leT, leF, eqT', eqF, ltTn, leTn, ltFn, leFn, wrapI, mid]
            rw [← hres]
            exact rshift_d hok
        | false =>
          rw [if_pos ⟨d0, dc, dn⟩] at hres
          simp (disch := first | omega | (simp; done) | (simp; omega)) [ltT, ltF, leT, leF, eqT', eqF, ltTn, leTn, ltFn, leFn, wrapI, mid, dl]
          refine (contains66_V r.mdays y.d _ (by omega)).useV ?_
          have dc' := dc
          simp only [List.contains_eq_mem, decide_eq_true_eq, decide_eq_false_iff_not] at dc'
          simp (disch := first | omega | (simp; done) | (simp; omega)) [ltT, ltF, leT, leF, eqT', eqF, ltTn, leTn, ltFn, leFn, wrapI, mid, dc']
          refine (contains66_V r.mdays (-y.l) _ (by omega)).useV ?_
          have dn' := dn
          simp only [List.contains_eq_mem, decide_eq_true_eq, decide_eq_false_iff_not] at dn'
          simp (disch := first | omega | (simp; done) | (simp; omega)) [ltT, ltF, leT, leF, eqT', eqF, ltTn, leTn, ltFn, leFn, wrapI, mid, dn']
          rw [← hres]
          exact rshift_d hok
  · have ml := List.length_pos_iff.mpr m0
    cases mc : r.months.contains y.m with
    | false =>
      rw [if_pos ⟨m0, mc⟩] at hres
      simp (disch := first | omega | (simp; done) | (simp; omega)) [ltT, ltF, leT, leF, eqT', eqF, ltTn, leTn, ltFn, leFn, wrapI, mid, ml]
      refine (contains66_V r.months y.m _ (by omega)).useV ?_
      have mc' := mc
      simp only [List.contains_eq_mem, decide_eq_true_eq, decide_eq_false_iff_not] at mc'
      simp (disch := first | omega | (simp; done) | (simp; omega)) [ltT, ltF, leT, leF, eqT', eqF, ltTn, leTn, ltFn, leFn, wrapI, mid, mc']
      rw [← hres]
      exact rshift_d hok
    | true =>
      rw [if_neg (fun q => by rw [mc] at q; cases q.2)] at hres
      simp (disch := first | omega | (simp; done) | (simp; omega)) [ltT, ltF, leT, leF, eqT', eqF, ltTn, leTn, ltFn, leFn, wrapI, mid, ml]
      refine (contains66_V r.months y.m _ (by omega)).useV ?_
      have mc' := mc
      simp only [List.contains_eq_mem, decide_eq_true_eq, decide_eq_false_iff_not] at mc'
      simp (disch := first | omega | (simp; done) | (simp; omega)) [ltT, ltF, leT, leF, eqT', eqF, ltTn, leTn, ltFn, leFn, wrapI, mid, mc']
      by_cases d0 : r.mdays = []
      · rw [if_neg (fun q => q.1 d0)] at hres
        simp (disch := first | omega | (simp; done) | (simp; omega)) [ltT, ltF, leT, leF, eqT', eqF, ltTn, leTn, ltFn, leFn, wrapI, mid, d0]
        by_cases w0 : r.wds = []
        · rw [if_neg (fun q => q w0)] at hres
          rw [if_neg (fun q => q d0)] at hres
          by_cases u2 : r.unit = 2
          · rw [if_pos u2] at hres
            simp (disch := first | omega | (simp; done) | (simp; omega)) [ltT, ltF, leT, leF, eqT', eqF, ltTn, leTn, ltFn, leFn, wrapI, mid, w0, d0, u2]
            rw [← hres]
            exact rshift_d hok
          rw [if_neg u2] at hres
          by_cases u3 : r.unit = 3
          · rw [if_pos u3] at hres
            simp (disch := first | omega | (simp; done) | (simp; omega)) [ltT, ltF, leT, leF, eqT', eqF, ltTn, leTn, ltFn, leFn, wrapI, mid, w0, d0, u2, u3]
            rw [← hres]
            exact rshift_d hok
          rw [if_neg u3] at hres
          by_cases u4 : r.unit = 4
          · rw [if_pos u4] at hres
            by_cases yd : y.d = s.d
            · simp (disch := first | omega | (simp; done) | (simp; omega)) [ltT, ltF, leT, leF, eqT', eqF, ltTn, leTn, ltFn, leFn, wrapI, mid, w0, d0, u2, u3, u4, yd, ml]
              rw [← hres]
              simp only [yd, m0, ne_eq, not_false_eq_true, decide_true, Bool.true_or, Bool.and_self, Bool.and_true]
              exact rshift_d hok
            · simp (disch := first | omega | (simp; done) | (simp; omega)) [ltT, ltF, leT, leF, eqT', eqF, ltTn, leTn, ltFn, leFn, wrapI, mid, w0, d0, u2, u3, u4, yd, ml]
              rw [← hres]
              simp only [yd, decide_false, Bool.false_and]
              exact rshift_d hok
          rw [if_neg u4] at hres
          simp (disch := first | omega | (simp; done) | (simp; omega)) [ltT, ltF, leT, leF, eqT', eqF, ltTn, leTn, ltFn, leFn, wrapI, mid, w0, d0, u2, u3, u4]
          rw [← hres]
          exact rshift_d hok
        · have wl := List.length_pos_iff.mpr w0
          rw [if_pos w0] at hres
          simp (disch := first | omega | (simp; done) | (simp; omega)) [ltT, ltF, leT, leF, eqT', eqF, ltTn, leTn, ltFn, leFn, wrapI, mid, wl]
          refine (containsFunc68_V y r.wds h1 h2 h3 h4 (fun w hw => by have := (hr.wds.2 w hw).2; omega) _ (by omega)).useV ?_
          simp (disch := first | omega | (simp; done) | (simp; omega)) [ltT, ltF, leT, leF, eqT', eqF, ltTn, leTn, ltFn, leFn, wrapI, mid]
          rw [← hres]
          exact rshift_d hok
      · have dl := List.length_pos_iff.mpr d0
        cases dc : r.mdays.contains y.d with
        | true =>
          rw [if_neg (fun q => by rw [dc] at q; cases q.2.1)] at hres
          simp (disch := first | omega | (simp; done) | (simp; omega)) [ltT, ltF, leT, leF, eqT', eqF, ltTn, leTn, ltFn, leFn, wrapI, mid, dl]
          refine (contains66_V r.mdays y.d _ (by omega)).useV ?_
          have dc' := dc
          simp only [List.contains_eq_mem, decide_eq_true_eq, decide_eq_false_iff_not] at dc'
          simp (disch := first | omega | (simp; done) | (simp; omega)) [ltT, ltF, leT, leF, eqT', eqF, ltTn, leTn, ltFn, leFn, wrapI, mid, dc']
          by_cases w0 : r.wds = []
          · rw [if_neg (fun q => q w0)] at hres
            rw [if_pos d0] at hres
            simp (disch := first | omega | (simp; done) | (simp; omega)) [ltT, ltF, leT, leF, eqT', eqF, ltTn, leTn, ltFn, leFn, wrapI, mid, w0, dl]
            rw [← hres]
            exact rshift_d hok
          · have wl := List.length_pos_iff.mpr w0
            rw [if_pos w0] at hres
            simp (disch := first | omega | (simp; done) | (simp; omega)) [ltT, ltF, leT, leF, eqT', eqF, ltTn, leTn, ltFn, leFn, wrapI, mid, wl]
            refine (containsFunc68_V y r.wds h1 h2 h3 h4 (fun w hw => by have := (hr.wds.2 w hw).2; omega) _ (by omega)).useV ?_
            simp (disch := first | omega | (simp; done) | (simp; omega)) [ltT, ltF, leT, leF, eqT', eqF, ltTn, leTn, ltFn, leFn, wrapI, mid]
            rw [← hres]
            exact rshift_d hok
        | false =>
          cases dn : r.mdays.contains (-y.l) with
          | true =>
            rw [if_neg (fun q => by rw [dn] at q; cases q.2.2)] at hres
            simp (disch := first | omega | (simp; done) | (simp; omega)) [ltT, ltF, leT, leF, eqT', eqF, ltTn, leTn, ltFn, leFn, wrapI, mid, dl]
            refine (contains66_V r.mdays y.d _ (by omega)).useV ?_
            have dc' := dc
            simp only [List.contains_eq_mem, decide_eq_true_eq, decide_eq_false_iff_not] at dc'
            simp (disch := first | omega | (simp; done) | (simp; omega)) [ltT, ltF, leT, leF, eqT', eqF, ltTn, leTn, ltFn, leFn, wrapI, mid, dc']
            refine (contains66_V r.mdays (-y.l) _ (by omega)).useV ?_
            have dn' := dn
            simp only [List.contains_eq_mem, decide_eq_true_eq, decide_eq_false_iff_not] at dn'
            simp (disch := first | omega | (simp; done) | (simp; omega)) [ltT, ltF, leT, leF, eqT', eqF, ltTn, leTn, ltFn, leFn, wrapI, mid, dn']
            by_cases w0 : r.wds = []
            · rw [if_neg (fun q => q w0)] at hres
              rw [if_pos d0] at hres
              simp (disch := first | omega | (simp; done) | (simp; omega)) [ltT, ltF, leT, leF, eqT', eqF, ltTn, leTn, ltFn, leFn, wrapI, mid, w0, dl]
              rw [← hres]
              exact rshift_d hok
            · have wl := List.length_pos_iff.mpr w0
              rw [if_pos w0] at hres
              simp (disch := first | omega | (simp; done) | (simp; omega)) [ltT, ltF, leT, leF, eqT', eqF, ltTn, leTn, ltFn, leFn, wrapI, mid, wl]
              refine (containsFunc68_V y r.wds h1 h2 h3 h4 (fun w hw => by have := (hr.wds.2 w hw).2; omega) _ (by omega)).useV ?_
              simp (disch := first | omega | (simp; done) | (simp; omega)) [ltT, ltF, leT, leF, eqT', eqF, ltTn, leTn, ltFn, leFn, wrapI, mid]
              rw [← hres]
              exact rshift_d hok
          | false =>
            rw [if_pos ⟨d0, dc, dn⟩] at hres
            simp (disch := first | omega | (simp; done) | (simp; omega)) [ltT, ltF, leT, leF, eqT', eqF, ltTn, leTn, ltFn, leFn, wrapI, mid, dl]
            refine (contains66_V r.mdays y.d _ (by omega)).useV ?_
            have dc' := dc
            simp only [List.contains_eq_mem, decide_eq_true_eq, decide_eq_false_iff_not] at dc'
            simp (disch := first | omega | (simp; done) | (simp; omega)) [ltT, ltF, leT, leF, eqT', eqF, ltTn, leTn, ltFn, leFn, wrapI, mid, dc']
            refine (contains66_V r.mdays (-y.l) _ (by omega)).useV ?_
            have dn' := dn
            simp only [List.contains_eq_mem, decide_eq_true_eq, decide_eq_false_iff_not] at dn'
            simp (disch := first | omega | (simp; done) | (simp; omega)) [ltT, ltF, leT, leF, eqT', eqF, ltTn, leTn, ltFn, leFn, wrapI, mid, dn']
            rw [← hres]
            exact rshift_d hok

end Go.Vm
