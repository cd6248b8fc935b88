/- date: the text of a moment is parsed as the moment. -/
import Derived.Test.YtjjpkeajlgbleaaDoorDt29
import Derived.Test.YtjjpkeajlgbleaaDoorDt17
namespace Go.Vm
open Proofs
set_option maxRecDepth 20000
set_option maxHeartbeats 2000000
set_option linter.unusedSimpArgs false

theorem law14 (m : Mo) (p : List UInt8) (hp : p.length ≤ 1048576) (h : List Blk) : CallP Tryd.prog 14 [.d (encMo m), .d (.str p)] h (.d (.bool true)) := by
  refine callW tb_ok fn14 (by simp) (fun hok => ?_)
  simp (disch := first | omega | (simp; done) | (simp; omega)) [ltT, ltF, leT, leF, eqT', eqF, ltTn, leTn, ltFn, leFn, wrapI, mid, c14]
  refine (momentFault_V m _).useV ?_
  by_cases h1 : (momF m).1 ≠ 0
  · simp (disch := first | omega | (simp; done) | (simp; omega)) [ltT, ltF, leT, leF, eqT', eqF, ltTn, leTn, ltFn, leFn, wrapI, mid, h1]
    refine (dated_V _).useV ?_
    simp (disch := first | omega | (simp; done) | (simp; omega)) [ltT, ltF, leT, leF, eqT', eqF, ltTn, leTn, ltFn, leFn, wrapI, mid]
    exact rshift_d hok
  obtain ⟨hz, hm⟩ := momF_ok h1
  rw [hz]
  simp (disch := first | omega | (simp; done) | (simp; omega)) [ltT, ltF, leT, leF, eqT', eqF, ltTn, leTn, ltFn, leFn, wrapI, mid]
  refine (patternFault_V p 0 hp (by omega) (by omega) _).useV ?_
  by_cases h2 : (patF 0 p).1 ≠ 0
  · simp (disch := first | omega | (simp; done) | (simp; omega)) [ltT, ltF, leT, leF, eqT', eqF, ltTn, leTn, ltFn, leFn, wrapI, mid, h2]
    refine (dated_V _).useV ?_
    simp (disch := first | omega | (simp; done) | (simp; omega)) [ltT, ltF, leT, leF, eqT', eqF, ltTn, leTn, ltFn, leFn, wrapI, mid]
    exact rshift_d hok
  have hp2 : p.length ≤ 200 := by
    unfold patF at h2
    by_cases c : 200 < p.length
    · rw [if_pos c] at h2; simp at h2
    · omega
  have hpz : (patFrom 0 0 p).1 = 0 := by
    unfold patF at h2
    rw [if_neg (by omega)] at h2
    simpa using h2
  have hlen : (preD ++ p).length = p.length + 9 := by simp [preD]
  have hfm := fun h => format_V m (preD ++ p) (by omega) h
  by_cases h3 : 191 < p.length
  · have e : formatS m (preD ++ p) = ([], (3, -2)) := by
      have hpf : patF 100 (preD ++ p) = (3, -2) := by unfold patF; rw [if_pos (by omega)]
      unfold formatS
      rw [if_neg h1, hpf, if_pos (by simp)]
    rw [e] at hfm
    simp (disch := first | omega | (simp; done) | (simp; omega)) [ltT, ltF, leT, leF, eqT', eqF, ltTn, leTn, ltFn, leFn, wrapI, mid, h2]
    refine (hfm _).useV ?_
    simp (disch := first | omega | (simp; done) | (simp; omega)) [ltT, ltF, leT, leF, eqT', eqF, ltTn, leTn, ltFn, leFn, wrapI, mid]
    refine (dated_V _).useV ?_
    simp (disch := first | omega | (simp; done) | (simp; omega)) [ltT, ltF, leT, leF, eqT', eqF, ltTn, leTn, ltFn, leFn, wrapI, mid]
    exact rshift_d hok
  have hz2 := patFrom_pre hpz 100
  have e : formatS m (preD ++ p) = (fmtS m (preD ++ p), (0, 0)) := by
    have hpf : patF 100 (preD ++ p) = patFrom 100 0 (preD ++ p) := by unfold patF; rw [if_neg (by omega)]
    unfold formatS
    rw [if_neg h1, hpf, if_neg (by simpa using hz2)]
  rw [e] at hfm
  have hfl := fmtS_len hm (preD ++ p)
  obtain ⟨x, hx, ey, em, ed, eh, ei, es⟩ := parse_fmt hm hpz (by omega)
  have hps := fun h => parse_V (fmtS m (preD ++ p)) (preD ++ p) (by omega) (by omega) h
  rw [hx] at hps
  generalize fmtS m (preD ++ p) = T at hfm hps
  simp (disch := first | omega | (simp; done) | (simp; omega)) [ltT, ltF, leT, leF, eqT', eqF, ltTn, leTn, ltFn, leFn, wrapI, mid, h2]
  refine (hfm _).useV ?_
  simp (disch := first | omega | (simp; done) | (simp; omega)) [ltT, ltF, leT, leF, eqT', eqF, ltTn, leTn, ltFn, leFn, wrapI, mid]
  refine (hps _).useV ?_
  simp (disch := first | omega | (simp; done) | (simp; omega)) [ltT, ltF, leT, leF, eqT', eqF, ltTn, leTn, ltFn, leFn, wrapI, mid, ey, em, ed]
  by_cases c0 : x.h = m.h
  · by_cases c1 : x.mi = m.mi
    · by_cases c2 : x.s = m.s
      · simp (disch := first | omega | (simp; done) | (simp; omega)) [ltT, ltF, leT, leF, eqT', eqF, ltTn, leTn, ltFn, leFn, wrapI, mid, eq_true c0, eq_true c1, eq_true c2]
        refine (dated_V _).useV ?_
        simp (disch := first | omega | (simp; done) | (simp; omega)) [ltT, ltF, leT, leF, eqT', eqF, ltTn, leTn, ltFn, leFn, wrapI, mid]
        exact rshift_d hok
      · have z2 := es.resolve_left c2
        simp (disch := first | omega | (simp; done) | (simp; omega)) [ltT, ltF, leT, leF, eqT', eqF, ltTn, leTn, ltFn, leFn, wrapI, mid, eq_true c0, eq_true c1, eq_false c2, eq_true z2]
        refine (dated_V _).useV ?_
        simp (disch := first | omega | (simp; done) | (simp; omega)) [ltT, ltF, leT, leF, eqT', eqF, ltTn, leTn, ltFn, leFn, wrapI, mid]
        exact rshift_d hok
    · have z1 := ei.resolve_left c1
      by_cases c2 : x.s = m.s
      · simp (disch := first | omega | (simp; done) | (simp; omega)) [ltT, ltF, leT, leF, eqT', eqF, ltTn, leTn, ltFn, leFn, wrapI, mid, eq_true c0, eq_false c1, eq_true z1, eq_true c2]
        refine (dated_V _).useV ?_
        simp (disch := first | omega | (simp; done) | (simp; omega)) [ltT, ltF, leT, leF, eqT', eqF, ltTn, leTn, ltFn, leFn, wrapI, mid]
        exact rshift_d hok
      · have z2 := es.resolve_left c2
        simp (disch := first | omega | (simp; done) | (simp; omega)) [ltT, ltF, leT, leF, eqT', eqF, ltTn, leTn, ltFn, leFn, wrapI, mid, eq_true c0, eq_false c1, eq_true z1, eq_false c2, eq_true z2]
        refine (dated_V _).useV ?_
        simp (disch := first | omega | (simp; done) | (simp; omega)) [ltT, ltF, leT, leF, eqT', eqF, ltTn, leTn, ltFn, leFn, wrapI, mid]
        exact rshift_d hok
  · have z0 := eh.resolve_left c0
    by_cases c1 : x.mi = m.mi
    · by_cases c2 : x.s = m.s
      · simp (disch := first | omega | (simp; done) | (simp; omega)) [ltT, ltF, leT, leF, eqT', eqF, ltTn, leTn, ltFn, leFn, wrapI, mid, eq_false c0, eq_true z0, eq_true c1, eq_true c2]
        refine (dated_V _).useV ?_
        simp (disch := first | omega | (simp; done) | (simp; omega)) [ltT, ltF, leT, leF, eqT', eqF, ltTn, leTn, ltFn, leFn, wrapI, mid]
        exact rshift_d hok
      · have z2 := es.resolve_left c2
        simp (disch := first | omega | (simp; done) | (simp; omega)) [ltT, ltF, leT, leF, eqT', eqF, ltTn, leTn, ltFn, leFn, wrapI, mid, eq_false c0, eq_true z0, eq_true c1, eq_false c2, eq_true z2]
        refine (dated_V _).useV ?_
        simp (disch := first | omega | (simp; done) | (simp; omega)) [ltT, ltF, leT, leF, eqT', eqF, ltTn, leTn, ltFn, leFn, wrapI, mid]
        exact rshift_d hok
    · have z1 := ei.resolve_left c1
      by_cases c2 : x.s = m.s
      · simp (disch := first | omega | (simp; done) | (simp; omega)) [ltT, ltF, leT, leF, eqT', eqF, ltTn, leTn, ltFn, leFn, wrapI, mid, eq_false c0, eq_true z0, eq_false c1, eq_true z1, eq_true c2]
        refine (dated_V _).useV ?_
        simp (disch := first | omega | (simp; done) | (simp; omega)) [ltT, ltF, leT, leF, eqT', eqF, ltTn, leTn, ltFn, leFn, wrapI, mid]
        exact rshift_d hok
      · have z2 := es.resolve_left c2
        simp (disch := first | omega | (simp; done) | (simp; omega)) [ltT, ltF, leT, leF, eqT', eqF, ltTn, leTn, ltFn, leFn, wrapI, mid, eq_false c0, eq_true z0, eq_false c1, eq_true z1, eq_false c2, eq_true z2]
        refine (dated_V _).useV ?_
        simp (disch := first | omega | (simp; done) | (simp; omega)) [ltT, ltF, leT, leF, eqT', eqF, ltTn, leTn, ltFn, leFn, wrapI, mid]
        exact rshift_d hok

end Go.Vm
