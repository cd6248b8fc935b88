/- The reference's Wide (by program, out of tmpl/Wide.lean). -/
import Derived.Test.YtjjpkeajlgbleaaDoorDec
namespace Go.Vm
open Proofs
set_option maxRecDepth 20000
set_option maxHeartbeats 4000000
set_option linter.unusedSimpArgs false

theorem itoa_lenN {n : Int} (h0 : -9223372036854775808 ≤ n) (h1 : n ≤ 9223372036854775807) : (Lib.itoa n).length ≤ 20 := by
  have h19 : (10 : Nat) ^ 19 = 10000000000000000000 := by decide
  unfold Lib.itoa
  split
  · have := decDigits_lenN 18 n.natAbs (by omega)
    simp only [List.length_cons]; omega
  · have := decDigits_lenN 18 n.toNat (by omega)
    omega

theorem wide_V (n : Int) (w : Nat) (h0 : -9223372036854775808 ≤ n) (h1 : n ≤ 9223372036854775807) (hw : w ≤ 1000) (h : List Blk) :
    CallP Tryd.prog 53 [.d (.int .i64 n), .d (.int .i64 w)] h (.d (.str (Lib.repeatL [48] (w - (Lib.itoa n).length) ++ Lib.itoa n))) := by
  refine callW tb_ok fn53 (by simp) (fun hok => ?_)
  have hl := itoa_lenN h0 h1
  simp (disch := first | omega | (simp; done) | (simp; omega)) [ltT, ltF, leT, leF, eqT', eqF, ltTn, leTn, ltFn, leFn, wrapI, mid, c53]
  refine (decimal_V n h0 h1 _).useV ?_
  simp (disch := first | omega | (simp; done) | (simp; omega)) [ltT, ltF, leT, leF, eqT', eqF, ltTn, leTn, ltFn, leFn, wrapI, mid]
  refine W_loopA (ι := Nat) (fun j => j ≤ w - (Lib.itoa n).length) (fun j => ⟨[(0, .d (.int .i64 n)), (1, .d (.int .i64 w)), (5, .d (.str (Lib.repeatL [48] j ++ Lib.itoa n)))], h⟩) (fun j => w - (Lib.itoa n).length - j) 0 (by omega) (Shift.slots' rfl (by simp [Lib.repeatL])) ?_
  rintro j hj A hA
  have hr := Lib.repeatL_length [48] j
  simp only [List.length_cons, List.length_nil] at hr
  by_cases hd : j = w - (Lib.itoa n).length
  · subst hd
    simp (disch := first | omega | (simp; done) | (simp; omega)) [ltT, ltF, leT, leF, eqT', eqF, ltTn, leTn, ltFn, leFn, wrapI, mid]
  · simp (disch := first | omega | (simp; done) | (simp; omega)) [ltT, ltF, leT, leF, eqT', eqF, ltTn, leTn, ltFn, leFn, wrapI, mid]
    exact hA (j + 1) _ (by omega) (by omega) (Shift.slots' rfl (by simp [Lib.repeatL]))

end Go.Vm
