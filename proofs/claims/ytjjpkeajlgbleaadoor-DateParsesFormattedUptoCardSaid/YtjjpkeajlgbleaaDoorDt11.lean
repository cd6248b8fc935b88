/- date: directives. -/
import Derived.Test.YtjjpkeajlgbleaaDoorDt10
namespace Go.Vm
open Proofs
set_option maxRecDepth 20000
set_option maxHeartbeats 1000000
set_option linter.unusedSimpArgs false

def dayNames : List (List UInt8) := [[77, 111, 110], [84, 117, 101], [87, 101, 100], [84, 104, 117], [70, 114, 105], [83, 97, 116], [83, 117, 110]]
def monthNames : List (List UInt8) := [[74, 97, 110], [70, 101, 98], [77, 97, 114], [65, 112, 114], [77, 97, 121], [74, 117, 110], [74, 117, 108], [65, 117, 103], [83, 101, 112], [79, 99, 116], [78, 111, 118], [68, 101, 99]]
def daysT : List UInt8 := [77, 111, 110, 32, 84, 117, 101, 32, 87, 101, 100, 32, 84, 104, 117, 32, 70, 114, 105, 32, 83, 97, 116, 32, 83, 117, 110]
def monthsT : List UInt8 := [74, 97, 110, 32, 70, 101, 98, 32, 77, 97, 114, 32, 65, 112, 114, 32, 77, 97, 121, 32, 74, 117, 110, 32, 74, 117, 108, 32, 65, 117, 103, 32, 83, 101, 112, 32, 79, 99, 116, 32, 78, 111, 118, 32, 68, 101, 99]
theorem fields_days : Lib.fields daysT = dayNames := by decide +kernel
theorem fields_months : Lib.fields monthsT = monthNames := by decide +kernel

/-- A directive: its width, its names, its function. -/
def encDir (w : Int) (names : D) (g : FuncId) : D := .agg [.int .i64 w, names, .fn g]
def dirEs : List (D × AV) := [(.int .u8 89, .d (encDir 4 .nilsl 71)), (.int .u8 109, .d (encDir 2 .nilsl 72)), (.int .u8 100, .d (encDir 2 .nilsl 73)), (.int .u8 72, .d (encDir 2 .nilsl 74)),
  (.int .u8 77, .d (encDir 2 .nilsl 75)), (.int .u8 83, .d (encDir 2 .nilsl 76)), (.int .u8 106, .d (encDir 3 .nilsl 77)), (.int .u8 71, .d (encDir 4 .nilsl 79)), (.int .u8 86, .d (encDir 2 .nilsl 80)),
  (.int .u8 117, .d (encDir 1 .nilsl 70)), (.int .u8 97, .d (encDir 0 (.sl 9 (dayNames.map encS)) 70)), (.int .u8 98, .d (encDir 0 (.sl 9 (monthNames.map encS)) 81))]

theorem directives_V (h : List Blk) : CallW Tryd.prog 43 [] h fun x h' => x = .map h.length ∧ h' = h ++ [.map dirEs] := by
  refine callW tb_ok fn43 (by simp) (fun hok => ?_)
  simp (disch := first | omega | (simp; done) | (simp; omega)) [ltT, ltF, leT, leF, eqT', eqF, ltTn, leTn, ltFn, leFn, wrapI, mid, c43]
  refine (fields_V daysT (by decide) (by decide) _).useV ?_
  rw [fields_days]
  simp (disch := first | omega | (simp; done) | (simp; omega)) [ltT, ltF, leT, leF, eqT', eqF, ltTn, leTn, ltFn, leFn, wrapI, mid]
  refine (fields_V monthsT (by decide) (by decide) _).useV ?_
  rw [fields_months]
  simp (disch := first | omega | (simp; done) | (simp; omega)) [ltT, ltF, leT, leF, eqT', eqF, ltTn, leTn, ltFn, leFn, wrapI, mid]
  exact rshift_same' rfl (by simp)

end Go.Vm
