/- date: the laws of SpansAddUp and Between. -/
import Derived.Test.YtjjpkeajlgbleaaDoorDt16
namespace Go.Vm
open Proofs
set_option maxRecDepth 20000
set_option maxHeartbeats 4000000
set_option linter.unusedSimpArgs false

theorem law12 (a b : Mo) (h : List Blk) : CallP Tryd.prog 12 [.d (encMo a), .d (encMo b)] h (.d (.bool true)) := by
  refine callW tb_ok fn12 (by simp) (fun hok => ?_)
  simp (disch := first | omega | (simp; done) | (simp; omega)) [ltT, ltF, leT, leF, eqT', eqF, ltTn, leTn, ltFn, leFn, wrapI, tdivP, tmodP, mid, c12]
  refine regV_all ?_
  simp (disch := first | omega | (simp; done) | (simp; omega)) [ltT, ltF, leT, leF, eqT', eqF, ltTn, leTn, ltFn, leFn, wrapI, tdivP, tmodP, mid]
  refine (momentFault_V a _).useV ?_
  by_cases h1 : (momF a).1 ≠ 0
  · simp (disch := first | omega | (simp; done) | (simp; omega)) [ltT, ltF, leT, leF, eqT', eqF, ltTn, leTn, ltFn, leFn, wrapI, tdivP, tmodP, mid, h1]
    refine (dated_V _).useV ?_
    simp (disch := first | omega | (simp; done) | (simp; omega)) [ltT, ltF, leT, leF, eqT', eqF, ltTn, leTn, ltFn, leFn, wrapI, tdivP, tmodP, mid]
    exact rshift_d hok
  obtain ⟨hza, ha⟩ := momF_ok h1
  simp (disch := first | omega | (simp; done) | (simp; omega)) [ltT, ltF, leT, leF, eqT', eqF, ltTn, leTn, ltFn, leFn, wrapI, tdivP, tmodP, mid, hza]
  refine (momentFault_V b _).useV ?_
  by_cases h2 : (momF b).1 ≠ 0
  · simp (disch := first | omega | (simp; done) | (simp; omega)) [ltT, ltF, leT, leF, eqT', eqF, ltTn, leTn, ltFn, leFn, wrapI, tdivP, tmodP, mid, h2]
    refine (dated_V _).useV ?_
    simp (disch := first | omega | (simp; done) | (simp; omega)) [ltT, ltF, leT, leF, eqT', eqF, ltTn, leTn, ltFn, leFn, wrapI, tdivP, tmodP, mid]
    exact rshift_d hok
  obtain ⟨hzb, hb⟩ := momF_ok h2
  simp (disch := first | omega | (simp; done) | (simp; omega)) [ltT, ltF, leT, leF, eqT', eqF, ltTn, leTn, ltFn, leFn, wrapI, tdivP, tmodP, mid, hzb]
  refine (seconds_V a ha _).useV ?_
  simp (disch := first | omega | (simp; done) | (simp; omega)) [ltT, ltF, leT, leF, eqT', eqF, ltTn, leTn, ltFn, leFn, wrapI, tdivP, tmodP, mid]
  refine (seconds_V b hb _).useV ?_
  by_cases h3 : b.secs < a.secs
  · simp (disch := first | omega | (simp; done) | (simp; omega)) [ltT, ltF, leT, leF, eqT', eqF, ltTn, leTn, ltFn, leFn, wrapI, tdivP, tmodP, mid, h3]
    refine (dated_V _).useV ?_
    simp (disch := first | omega | (simp; done) | (simp; omega)) [ltT, ltF, leT, leF, eqT', eqF, ltTn, leTn, ltFn, leFn, wrapI, tdivP, tmodP, mid]
    exact rshift_d hok
  have hK := betK_ok ha hb (by omega)
  obtain ⟨x, hx, hxo, hxs, hK2⟩ := hK.some ha
  have hK0 := hK.le
  have hfk : fromK a b = x := by unfold fromK; rw [hx]; rfl
  have sb := secs_bnd hb
  have sx := secs_bnd hxo
  have hbs : betS a b = ((betK a b, b.secs - x.secs), (0, 0)) := by unfold betS; rw [if_neg h1, if_neg h2, if_neg h3, hfk]
  have hxz := momF_zero hxo
  simp (disch := first | omega | (simp; done) | (simp; omega)) [ltT, ltF, leT, leF, eqT', eqF, ltTn, leTn, ltFn, leFn, wrapI, tdivP, tmodP, mid, h3]
  refine (between_V a b _).useV ?_
  rw [hbs]
  simp (disch := first | omega | (simp; done) | (simp; omega)) [ltT, ltF, leT, leF, eqT', eqF, ltTn, leTn, ltFn, leFn, wrapI, tdivP, tmodP, mid]
  refine (addMonths27_V a (betK a b) _).useV ?_
  rw [show addMonthsS a (betK a b) = (x, (0, 0)) from by unfold addMonthsS; rw [if_neg h1, if_neg (by omega), hx]]
  simp (disch := first | omega | (simp; done) | (simp; omega)) [ltT, ltF, leT, leF, eqT', eqF, ltTn, leTn, ltFn, leFn, wrapI, tdivP, tmodP, mid]
  refine (number20_V x _).useV ?_
  rw [hxz]
  simp (disch := first | omega | (simp; done) | (simp; omega)) [ltT, ltF, leT, leF, eqT', eqF, ltTn, leTn, ltFn, leFn, wrapI, tdivP, tmodP, mid]
  refine (number20_V b _).useV ?_
  rw [hzb]
  have e1 : x.secs + (b.secs - x.secs) = b.secs := by omega
  simp (disch := first | omega | (simp; done) | (simp; omega)) [ltT, ltF, leT, leF, eqT', eqF, ltTn, leTn, ltFn, leFn, wrapI, tdivP, tmodP, mid, e1]
  refine (addMonths27_V a (betK a b + 1) _).useV ?_
  have hno := hK.no
  unfold upTo at hno
  cases hy : addS a (betK a b + 1) with
  | none =>
    rw [show addMonthsS a (betK a b + 1) = (mo0, (4, -3)) from by unfold addMonthsS; rw [if_neg h1, if_neg (by omega), hy]]
    simp (disch := first | omega | (simp; done) | (simp; omega)) [ltT, ltF, leT, leF, eqT', eqF, ltTn, leTn, ltFn, leFn, wrapI, tdivP, tmodP, mid]
    refine regV_all ?_
    simp (disch := first | omega | (simp; done) | (simp; omega)) [ltT, ltF, leT, leF, eqT', eqF, ltTn, leTn, ltFn, leFn, wrapI, tdivP, tmodP, mid]
    refine (atF_V _ _ _).useV ?_
    simp (disch := first | omega | (simp; done) | (simp; omega)) [ltT, ltF, leT, leF, eqT', eqF, ltTn, leTn, ltFn, leFn, wrapI, tdivP, tmodP, mid]
    refine (dated_V _).useV ?_
    simp (disch := first | omega | (simp; done) | (simp; omega)) [ltT, ltF, leT, leF, eqT', eqF, ltTn, leTn, ltFn, leFn, wrapI, tdivP, tmodP, mid]
    exact rshift_d hok
  | some y =>
    rw [hy] at hno
    obtain ⟨hyo, _⟩ := addS_some ha hy
    have hyz := momF_zero hyo
    have hlt : b.secs < y.secs := by simpa using hno
    rw [show addMonthsS a (betK a b + 1) = (y, (0, 0)) from by unfold addMonthsS; rw [if_neg h1, if_neg (by omega), hy]]
    simp (disch := first | omega | (simp; done) | (simp; omega)) [ltT, ltF, leT, leF, eqT', eqF, ltTn, leTn, ltFn, leFn, wrapI, tdivP, tmodP, mid]
    refine (number20_V y _).useV ?_
    rw [hyz]
    simp (disch := first | omega | (simp; done) | (simp; omega)) [ltT, ltF, leT, leF, eqT', eqF, ltTn, leTn, ltFn, leFn, wrapI, tdivP, tmodP, mid]
    refine (dated_V _).useV ?_
    simp (disch := first | omega | (simp; done) | (simp; omega)) [ltT, ltF, leT, leF, eqT', eqF, ltTn, leTn, ltFn, leFn, wrapI, tdivP, tmodP, mid]
    exact rshift_d hok

theorem betK_same {a b : Mo} (ha : a.ok) (hb : b.ok) (h : a.secs = b.secs) : betK a b = 0 ∧ (fromK a b).secs = b.secs := by
  have hi : a.idx = b.idx := by
    rcases Int.lt_trichotomy a.idx b.idx with c | c | c
    · have := idx_secs ha hb c; omega
    · exact c
    · have := idx_secs hb ha c; omega
  have hk : 12 * (b.y - a.y) + b.m - a.m = 0 := by unfold Mo.idx at hi; omega
  have hu : upTo a b 0 = true := by unfold upTo; rw [addS_zero ha]; simp; omega
  have e : betK a b = 0 := by unfold betK; rw [hk, if_pos hu]
  refine ⟨e, ?_⟩
  unfold fromK
  rw [e, addS_zero ha]
  exact h

theorem law8 (a b : Mo) (h : List Blk) : CallP Tryd.prog 8 [.d (encMo a), .d (encMo b)] h (.d (.bool true)) := by
  refine callW tb_ok fn8 (by simp) (fun hok => ?_)
  have hla := momF_le a
  have hlb := momF_le b
  simp (disch := first | omega | (simp; done) | (simp; omega)) [ltT, ltF, leT, leF, eqT', eqF, ltTn, leTn, ltFn, leFn, wrapI, tdivP, tmodP, mid, c8]
  refine (between_V a b _).useV ?_
  simp (disch := first | omega | (simp; done) | (simp; omega)) [ltT, ltF, leT, leF, eqT', eqF, ltTn, leTn, ltFn, leFn, wrapI, tdivP, tmodP, mid]
  refine (between_V b a _).useV ?_
  simp (disch := first | omega | (simp; done) | (simp; omega)) [ltT, ltF, leT, leF, eqT', eqF, ltTn, leTn, ltFn, leFn, wrapI, tdivP, tmodP, mid]
  refine (momentFault_V a _).useV ?_
  simp (disch := first | omega | (simp; done) | (simp; omega)) [ltT, ltF, leT, leF, eqT', eqF, ltTn, leTn, ltFn, leFn, wrapI, tdivP, tmodP, mid]
  refine (momentFault_V b _).useV ?_
  by_cases h1 : (momF a).1 ≠ 0
  · have e1 : betS a b = ((0, 0), momF a) := by unfold betS; rw [if_pos h1]
    have e2 : (betS b a).1 = (0, 0) ∧ (betS b a).2.1 ≠ 0 := by
      unfold betS
      by_cases c : (momF b).1 ≠ 0
      · rw [if_pos c]; exact ⟨rfl, c⟩
      · rw [if_neg c, if_pos h1]; exact ⟨rfl, h1⟩
    rw [e1]
    simp (disch := first | omega | (simp; done) | (simp; omega)) [ltT, ltF, leT, leF, eqT', eqF, ltTn, leTn, ltFn, leFn, wrapI, tdivP, tmodP, mid, h1, e2.1, e2.2]
    refine (dated_V _).useV ?_
    simp (disch := first | omega | (simp; done) | (simp; omega)) [ltT, ltF, leT, leF, eqT', eqF, ltTn, leTn, ltFn, leFn, wrapI, tdivP, tmodP, mid]
    exact rshift_d hok
  obtain ⟨hza, ha⟩ := momF_ok h1
  by_cases h2 : (momF b).1 ≠ 0
  · have e1 : betS a b = ((0, 0), ((momF b).1, (momF b).2 + 10)) := by unfold betS; rw [if_neg h1, if_pos h2]
    have e2 : betS b a = ((0, 0), momF b) := by unfold betS; rw [if_pos h2]
    rw [e1, e2, hza]
    simp (disch := first | omega | (simp; done) | (simp; omega)) [ltT, ltF, leT, leF, eqT', eqF, ltTn, leTn, ltFn, leFn, wrapI, tdivP, tmodP, mid, h2]
    refine (atF_V _ _ _).useV ?_
    simp (disch := first | omega | (simp; done) | (simp; omega)) [ltT, ltF, leT, leF, eqT', eqF, ltTn, leTn, ltFn, leFn, wrapI, tdivP, tmodP, mid, h2]
    refine (dated_V _).useV ?_
    simp (disch := first | omega | (simp; done) | (simp; omega)) [ltT, ltF, leT, leF, eqT', eqF, ltTn, leTn, ltFn, leFn, wrapI, tdivP, tmodP, mid]
    exact rshift_d hok
  obtain ⟨hzb, hb⟩ := momF_ok h2
  rw [hza, hzb]
  simp (disch := first | omega | (simp; done) | (simp; omega)) [ltT, ltF, leT, leF, eqT', eqF, ltTn, leTn, ltFn, leFn, wrapI, tdivP, tmodP, mid]
  refine regV_all ?_
  simp (disch := first | omega | (simp; done) | (simp; omega)) [ltT, ltF, leT, leF, eqT', eqF, ltTn, leTn, ltFn, leFn, wrapI, tdivP, tmodP, mid]
  refine (seconds_V a ha _).useV ?_
  simp (disch := first | omega | (simp; done) | (simp; omega)) [ltT, ltF, leT, leF, eqT', eqF, ltTn, leTn, ltFn, leFn, wrapI, tdivP, tmodP, mid]
  refine (seconds_V b hb _).useV ?_
  have sa := secs_bnd ha
  have sb := secs_bnd hb
  by_cases h3 : b.secs < a.secs
  · have hK := betK_ok hb ha (by omega)
    obtain ⟨x, hx, hxo, hxs, hK2⟩ := hK.some hb
    have hK0 := hK.le
    have hfk : fromK b a = x := by unfold fromK; rw [hx]; rfl
    have sx := secs_bnd hxo
    have e1 : betS a b = ((-betK b a, -(a.secs - x.secs)), (0, 0)) := by unfold betS; rw [if_neg h1, if_neg h2, if_pos h3, hfk]
    have e2 : betS b a = ((betK b a, a.secs - x.secs), (0, 0)) := by unfold betS; rw [if_neg h2, if_neg h1, if_neg (by omega), hfk]
    rw [e1, e2]
    simp (disch := first | omega | (simp; done) | (simp; omega)) [ltT, ltF, leT, leF, eqT', eqF, ltTn, leTn, ltFn, leFn, wrapI, tdivP, tmodP, mid, h3]
    refine (apart_V b a hb ha (by omega) _).useV ?_
    rw [hfk]
    simp (disch := first | omega | (simp; done) | (simp; omega)) [ltT, ltF, leT, leF, eqT', eqF, ltTn, leTn, ltFn, leFn, wrapI, tdivP, tmodP, mid]
    refine (dated_V _).useV ?_
    simp (disch := first | omega | (simp; done) | (simp; omega)) [ltT, ltF, leT, leF, eqT', eqF, ltTn, leTn, ltFn, leFn, wrapI, tdivP, tmodP, mid]
    exact rshift_d hok
  · have hK := betK_ok ha hb (by omega)
    obtain ⟨x, hx, hxo, hxs, hK2⟩ := hK.some ha
    have hK0 := hK.le
    have hfk : fromK a b = x := by unfold fromK; rw [hx]; rfl
    have sx := secs_bnd hxo
    have e1 : betS a b = ((betK a b, b.secs - x.secs), (0, 0)) := by unfold betS; rw [if_neg h1, if_neg h2, if_neg h3, hfk]
    have e2 : betS b a = ((-betK a b, -(b.secs - x.secs)), (0, 0)) := by
      by_cases h4 : a.secs < b.secs
      · unfold betS; rw [if_neg h2, if_neg h1, if_pos h4, hfk]
      · have h5 : a.secs = b.secs := by omega
        obtain ⟨s1, s2⟩ := betK_same ha hb h5
        obtain ⟨t1, t2⟩ := betK_same hb ha h5.symm
        rw [hfk] at s2
        unfold betS
        rw [if_neg h2, if_neg h1, if_neg h4, s1, t1, t2, s2]
        simp
    rw [e1, e2]
    simp (disch := first | omega | (simp; done) | (simp; omega)) [ltT, ltF, leT, leF, eqT', eqF, ltTn, leTn, ltFn, leFn, wrapI, tdivP, tmodP, mid, h3]
    refine (apart_V a b ha hb (by omega) _).useV ?_
    rw [hfk]
    simp (disch := first | omega | (simp; done) | (simp; omega)) [ltT, ltF, leT, leF, eqT', eqF, ltTn, leTn, ltFn, leFn, wrapI, tdivP, tmodP, mid]
    refine (dated_V _).useV ?_
    simp (disch := first | omega | (simp; done) | (simp; omega)) [ltT, ltF, leT, leF, eqT', eqF, ltTn, leTn, ltFn, leFn, wrapI, tdivP, tmodP, mid]
    exact rshift_d hok

end Go.Vm
