/- csv: the example check. -/
import Derived.Test.YtggeifnbllfmbaaDoorCs9
namespace Go.Vm
open Proofs
set_option maxRecDepth 20000
set_option maxHeartbeats 1000000
set_option linter.unusedSimpArgs false

theorem ex1 : printS [[[97], [98, 44, 99]], [[49], []]] ⟨44, 34, false, false⟩ = ([97, 44, 34, 98, 44, 99, 34, 10, 49, 44, 10], (0, 0)) := by decide +kernel
theorem ex2 : parseS [97, 44, 34, 98, 44, 99, 34, 13, 10, 49, 44] ⟨44, 34, false, false⟩ = ([[[97], [98, 44, 99]], [[49], []]], (0, 0)) := by decide +kernel
theorem ex3 : selectS [[[97], [98, 44, 99]], [[49], []]] [[98, 44, 99]] = ([[[98, 44, 99]], [[]]], (0, 0)) := by decide +kernel

theorem tabled_V (h : List Blk) : CallP Tryd.prog 17 [] h (.d (.bool true)) := by
  refine callW tb_ok fn17 (by simp) (fun hok => ?_)
  simp (disch := first | omega | (simp; done) | (simp; omega)) [ltT, ltF, leT, leF, eqT', eqF, ltTn, leTn, ltFn, leFn, wrapI, mid, c17]
  refine (comma_V _).useV ?_
  simp (disch := first | omega | (simp; done) | (simp; omega)) [ltT, ltF, leT, leF, eqT', eqF, ltTn, leTn, ltFn, leFn, wrapI, mid]
  refine (print_V [[[97], [98, 44, 99]], [[49], []]] ⟨44, 34, false, false⟩ (by decide) (by decide) (by decide) _).useV ?_
  rw [ex1]
  simp (disch := first | omega | (simp; done) | (simp; omega)) [ltT, ltF, leT, leF, eqT', eqF, ltTn, leTn, ltFn, leFn, wrapI, mid]
  refine (comma_V _).useV ?_
  simp (disch := first | omega | (simp; done) | (simp; omega)) [ltT, ltF, leT, leF, eqT', eqF, ltTn, leTn, ltFn, leFn, wrapI, mid]
  refine (parse_V [97, 44, 34, 98, 44, 99, 34, 13, 10, 49, 44] ⟨44, 34, false, false⟩ (by decide) _).useV ?_
  rw [ex2]
  simp (disch := first | omega | (simp; done) | (simp; omega)) [ltT, ltF, leT, leF, eqT', eqF, ltTn, leTn, ltFn, leFn, wrapI, mid]
  refine (select_V [[[97], [98, 44, 99]], [[49], []]] [[98, 44, 99]] (by decide) (by decide) (by decide) _).useV ?_
  rw [ex3]
  simp (disch := first | omega | (simp; done) | (simp; omega)) [ltT, ltF, leT, leF, eqT', eqF, ltTn, leTn, ltFn, leFn, wrapI, mid]
  refine (sameTable_V [[[97], [98, 44, 99]], [[49], []]] [[[97], [98, 44, 99]], [[49], []]] _ (by decide) (by decide) (by decide) (by decide)).useV ?_
  simp (disch := first | omega | (simp; done) | (simp; omega)) [ltT, ltF, leT, leF, eqT', eqF, ltTn, leTn, ltFn, leFn, wrapI, mid]
  refine (sameTable_V [[[98, 44, 99]], [[]]] [[[98, 44, 99]], [[]]] _ (by decide) (by decide) (by decide) (by decide)).useV ?_
  simp (disch := first | omega | (simp; done) | (simp; omega)) [ltT, ltF, leT, leF, eqT', eqF, ltTn, leTn, ltFn, leFn, wrapI, mid]
  exact rshift_d hok

end Go.Vm
