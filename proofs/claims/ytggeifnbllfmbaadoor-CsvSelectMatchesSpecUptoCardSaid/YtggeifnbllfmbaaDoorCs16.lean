/- csv: the law of Select. -/
import Derived.Test.YtggeifnbllfmbaaDoorCs13
import Derived.Test.YtggeifnbllfmbaaDoorCs15
namespace Go.Vm
open Proofs
set_option maxRecDepth 20000
set_option maxHeartbeats 1000000
set_option linter.unusedSimpArgs false

theorem law5 (rows : List (List (List UInt8))) (names : List (List UInt8)) (hl : rows.length < 2000000) (ht : total rows < 2000000000000) (hn : names.length < 2000000) (h : List Blk) :
    CallP Tryd.prog 5 [.d (.sl 39 (rows.map encR)), .d (encR names)] h (.d (.bool true)) := by
  refine callW tb_ok fn5 (by simp) (fun hok => ?_)
  obtain ⟨ml, mr⟩ := sel_len rows names
  simp (disch := first | omega | (simp; done) | (simp; omega)) [ltT, ltF, leT, leF, eqT', eqF, ltTn, leTn, ltFn, leFn, wrapI, mid, c5]
  refine (select_V rows names hl ht hn _).useV ?_
  simp (disch := first | omega | (simp; done) | (simp; omega)) [ltT, ltF, leT, leF, eqT', eqF, ltTn, leTn, ltFn, leFn, wrapI, mid]
  refine (selected_V rows names hl ht hn _).useV ?_
  simp (disch := first | omega | (simp; done) | (simp; omega)) [ltT, ltF, leT, leF, eqT', eqF, ltTn, leTn, ltFn, leFn, wrapI, mid]
  refine (sameTable_V (selectS rows names).1 (selectS rows names).1 _ (by omega) (by omega) (fun r hr => by rw [mr r hr]; omega) (fun r hr => by rw [mr r hr]; omega)).useV ?_
  simp (disch := first | omega | (simp; done) | (simp; omega)) [ltT, ltF, leT, leF, eqT', eqF, ltTn, leTn, ltFn, leFn, wrapI, mid]
  refine (tabled_V _).useV ?_
  simp (disch := first | omega | (simp; done) | (simp; omega)) [ltT, ltF, leT, leF, eqT', eqF, ltTn, leTn, ltFn, leFn, wrapI, mid]
  exact rshift_d hok

end Go.Vm
