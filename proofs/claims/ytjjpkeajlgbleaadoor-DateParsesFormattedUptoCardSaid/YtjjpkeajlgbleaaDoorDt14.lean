/- date: the example check. -/
import Derived.Test.YtjjpkeajlgbleaaDoorDt13
namespace Go.Vm
open Proofs
set_option maxRecDepth 20000
set_option maxHeartbeats 1000000
set_option linter.unusedSimpArgs false

def nyM : Mo := ⟨2021, 1, 1, 0, 0, 0⟩
theorem newYear_V (h : List Blk) : CallP Tryd.prog 51 [] h (.d (encMo nyM)) := by
  refine callW tb_ok fn51 (by simp) (fun hok => ?_)
  simp (disch := first | omega | (simp; done) | (simp; omega)) [ltT, ltF, leT, leF, eqT', eqF, ltTn, leTn, ltFn, leFn, wrapI, mid, c51]
  exact rshift_d hok

theorem exM : momF ⟨1, 1, 2, 0, 1, 5⟩ = (0, 0) := by decide +kernel
theorem exS : (⟨1, 1, 2, 0, 1, 5⟩ : Mo).secs = 86465 := by decide +kernel
theorem exN : momF nyM = (0, 0) := by decide +kernel
theorem exW : weekS nyM.y nyM.day = (2020, 53) := by decide +kernel
theorem exD : (nyM.day - 1) % 7 = 4 := by decide +kernel
theorem exP : patF 100 [37, 97, 32, 37, 100, 46, 37, 109, 46, 37, 89] = (0, 0) := by decide +kernel
theorem pad21 : padS 2 1 = [48, 49] := by simp [padS, Lib.itoa, Lib.decDigits, Lib.repeatL]
theorem pad42 : padS 4 2021 = [50, 48, 50, 49] := by simp [padS, Lib.itoa, Lib.decDigits, Lib.repeatL]
theorem exF : formatS nyM [37, 97, 32, 37, 100, 46, 37, 109, 46, 37, 89] = ([70, 114, 105, 32, 48, 49, 46, 48, 49, 46, 50, 48, 50, 49], (0, 0)) := by
  unfold formatS
  rw [exN, exP]
  have e1 : fmtDir nyM 97 = [70, 114, 105] := by simp [fmtDir, exD, dayNames]
  have e2 : fmtDir nyM 100 = [48, 49] := by simp [fmtDir, nyM, pad21]
  have e3 : fmtDir nyM 109 = [48, 49] := by simp [fmtDir, nyM, pad21]
  have e4 : fmtDir nyM 89 = [50, 48, 50, 49] := by simp [fmtDir, nyM, pad42]
  simp [fmtS, e1, e2, e3, e4]

theorem dated_V (h : List Blk) : CallP Tryd.prog 18 [] h (.d (.bool true)) := by
  refine callW tb_ok fn18 (by simp) (fun hok => ?_)
  simp (disch := first | omega | (simp; done) | (simp; omega)) [ltT, ltF, leT, leF, eqT', eqF, ltTn, leTn, ltFn, leFn, wrapI, mid, c18]
  refine (number20_V ⟨1, 1, 2, 0, 1, 5⟩ _).useV ?_
  rw [exM, exS]
  simp (disch := first | omega | (simp; done) | (simp; omega)) [ltT, ltF, leT, leF, eqT', eqF, ltTn, leTn, ltFn, leFn, wrapI, mid]
  refine (newYear_V _).useV ?_
  simp (disch := first | omega | (simp; done) | (simp; omega)) [ltT, ltF, leT, leF, eqT', eqF, ltTn, leTn, ltFn, leFn, wrapI, mid]
  refine (week22_V nyM _).useV ?_
  rw [exN, exW]
  simp (disch := first | omega | (simp; done) | (simp; omega)) [ltT, ltF, leT, leF, eqT', eqF, ltTn, leTn, ltFn, leFn, wrapI, mid]
  refine (newYear_V _).useV ?_
  simp (disch := first | omega | (simp; done) | (simp; omega)) [ltT, ltF, leT, leF, eqT', eqF, ltTn, leTn, ltFn, leFn, wrapI, mid]
  refine (format_V nyM [37, 97, 32, 37, 100, 46, 37, 109, 46, 37, 89] (by decide) _).useV ?_
  rw [exF]
  simp (disch := first | omega | (simp; done) | (simp; omega)) [ltT, ltF, leT, leF, eqT', eqF, ltTn, leTn, ltFn, leFn, wrapI, mid]
  exact rshift_d hok

end Go.Vm
