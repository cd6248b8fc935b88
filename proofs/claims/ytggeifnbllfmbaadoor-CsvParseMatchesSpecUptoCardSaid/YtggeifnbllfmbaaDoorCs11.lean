/- csv: the laws of Print, Parse and Select. -/
import Derived.Test.YtggeifnbllfmbaaDoorCs10
namespace Go.Vm
open Proofs
set_option maxRecDepth 20000
set_option maxHeartbeats 1000000
set_option linter.unusedSimpArgs false

@[simp high] theorem neq_F (a b : Int × Int) : binAV tb 26 .neq (.d (encF a)) (.d (encF b)) = some (True, .d (.bool (!decide (a = b)))) := by
  have : (a = b) ↔ (a.1 = b.1 ∧ a.2 = b.2) := by cases a; cases b; simp
  simp only [this]
  by_cases h1 : a.1 = b.1 <;> by_cases h2 : a.2 = b.2 <;> simp [-fold_F, encF, eqT, eqFs, h1, h2]
@[simp high] theorem eql_F (a b : Int × Int) : binAV tb 26 .eql (.d (encF a)) (.d (encF b)) = some (True, .d (.bool (decide (a = b)))) := by
  have : (a = b) ↔ (a.1 = b.1 ∧ a.2 = b.2) := by cases a; cases b; simp
  simp only [this]
  by_cases h1 : a.1 = b.1 <;> by_cases h2 : a.2 = b.2 <;> simp [-fold_F, encF, eqT, eqFs, h1, h2]

theorem law3 (rows : List (List (List UInt8))) (d : Dia) (hl : rows.length < 2000000) (ht : total rows < 2000000000000) (hr : ∀ r ∈ rows, ∀ s ∈ r, s.length ≤ 1048576) (h : List Blk) :
    CallP Tryd.prog 3 [.d (.sl 39 (rows.map encR)), .d (encDia d)] h (.d (.bool true)) := by
  refine callW tb_ok fn3 (by simp) (fun hok => ?_)
  simp (disch := first | omega | (simp; done) | (simp; omega)) [ltT, ltF, leT, leF, eqT', eqF, ltTn, leTn, ltFn, leFn, wrapI, mid, c3]
  refine (print_V rows d hl ht hr _).useV ?_
  by_cases h1 : (diaFault d).1 ≠ 0
  · rw [printS, if_pos h1]
    simp (disch := first | omega | (simp; done) | (simp; omega)) [ltT, ltF, leT, leF, eqT', eqF, ltTn, leTn, ltFn, leFn, wrapI, mid]
    refine (diaRef_V d _).useV ?_
    simp (disch := first | omega | (simp; done) | (simp; omega)) [ltT, ltF, leT, leF, eqT', eqF, ltTn, leTn, ltFn, leFn, wrapI, mid]
    refine regV_all ?_
    simp (disch := first | omega | (simp; done) | (simp; omega)) [ltT, ltF, leT, leF, eqT', eqF, ltTn, leTn, ltFn, leFn, wrapI, mid]
    refine (validate_V d _).useV ?_
    simp (disch := first | omega | (simp; done) | (simp; omega)) [ltT, ltF, leT, leF, eqT', eqF, ltTn, leTn, ltFn, leFn, wrapI, mid, h1]
    refine (tabled_V _).useV ?_
    simp (disch := first | omega | (simp; done) | (simp; omega)) [ltT, ltF, leT, leF, eqT', eqF, ltTn, leTn, ltFn, leFn, wrapI, mid]
    exact rshift_d hok
  have hd := diaFault_ok h1
  rw [printS, if_neg h1]
  by_cases h2 : (tabFault rows (-2)).1 ≠ 0
  · rw [if_pos h2]
    simp (disch := first | omega | (simp; done) | (simp; omega)) [ltT, ltF, leT, leF, eqT', eqF, ltTn, leTn, ltFn, leFn, wrapI, mid]
    refine (diaRef_V d _).useV ?_
    rw [hd]
    simp (disch := first | omega | (simp; done) | (simp; omega)) [ltT, ltF, leT, leF, eqT', eqF, ltTn, leTn, ltFn, leFn, wrapI, mid]
    refine regV_all ?_
    simp (disch := first | omega | (simp; done) | (simp; omega)) [ltT, ltF, leT, leF, eqT', eqF, ltTn, leTn, ltFn, leFn, wrapI, mid]
    refine (validate_V d _).useV ?_
    rw [hd]
    simp (disch := first | omega | (simp; done) | (simp; omega)) [ltT, ltF, leT, leF, eqT', eqF, ltTn, leTn, ltFn, leFn, wrapI, mid]
    refine (tableFault_V rows (-2) hl (by omega) _).useV ?_
    simp (disch := first | omega | (simp; done) | (simp; omega)) [ltT, ltF, leT, leF, eqT', eqF, ltTn, leTn, ltFn, leFn, wrapI, mid, h2]
    refine (tabled_V _).useV ?_
    simp (disch := first | omega | (simp; done) | (simp; omega)) [ltT, ltF, leT, leF, eqT', eqF, ltTn, leTn, ltFn, leFn, wrapI, mid]
    exact rshift_d hok
  obtain ⟨hf, hl2, ht2⟩ := tabFault_ok h2
  rw [if_neg h2]
  by_cases h3 : 4000 < (tableText d rows).length
  · rw [if_pos h3]
    simp (disch := first | omega | (simp; done) | (simp; omega)) [ltT, ltF, leT, leF, eqT', eqF, ltTn, leTn, ltFn, leFn, wrapI, mid]
    refine (diaRef_V d _).useV ?_
    rw [hd]
    simp (disch := first | omega | (simp; done) | (simp; omega)) [ltT, ltF, leT, leF, eqT', eqF, ltTn, leTn, ltFn, leFn, wrapI, mid]
    refine regV_all ?_
    simp (disch := first | omega | (simp; done) | (simp; omega)) [ltT, ltF, leT, leF, eqT', eqF, ltTn, leTn, ltFn, leFn, wrapI, mid]
    refine (validate_V d _).useV ?_
    rw [hd]
    simp (disch := first | omega | (simp; done) | (simp; omega)) [ltT, ltF, leT, leF, eqT', eqF, ltTn, leTn, ltFn, leFn, wrapI, mid]
    refine (tableFault_V rows (-2) hl (by omega) _).useV ?_
    rw [hf]
    simp (disch := first | omega | (simp; done) | (simp; omega)) [ltT, ltF, leT, leF, eqT', eqF, ltTn, leTn, ltFn, leFn, wrapI, mid]
    refine (tableText_V rows d hl (by omega) hr _).useV ?_
    simp (disch := first | omega | (simp; done) | (simp; omega)) [ltT, ltF, leT, leF, eqT', eqF, ltTn, leTn, ltFn, leFn, wrapI, mid]
    refine (at_V _ _ _).useV ?_
    simp (disch := first | omega | (simp; done) | (simp; omega)) [ltT, ltF, leT, leF, eqT', eqF, ltTn, leTn, ltFn, leFn, wrapI, mid]
    refine (tabled_V _).useV ?_
    simp (disch := first | omega | (simp; done) | (simp; omega)) [ltT, ltF, leT, leF, eqT', eqF, ltTn, leTn, ltFn, leFn, wrapI, mid]
    exact rshift_d hok
  · rw [if_neg h3]
    simp (disch := first | omega | (simp; done) | (simp; omega)) [ltT, ltF, leT, leF, eqT', eqF, ltTn, leTn, ltFn, leFn, wrapI, mid]
    refine (diaRef_V d _).useV ?_
    rw [hd]
    simp (disch := first | omega | (simp; done) | (simp; omega)) [ltT, ltF, leT, leF, eqT', eqF, ltTn, leTn, ltFn, leFn, wrapI, mid]
    refine regV_all ?_
    simp (disch := first | omega | (simp; done) | (simp; omega)) [ltT, ltF, leT, leF, eqT', eqF, ltTn, leTn, ltFn, leFn, wrapI, mid]
    refine (validate_V d _).useV ?_
    rw [hd]
    simp (disch := first | omega | (simp; done) | (simp; omega)) [ltT, ltF, leT, leF, eqT', eqF, ltTn, leTn, ltFn, leFn, wrapI, mid]
    refine (tableFault_V rows (-2) hl (by omega) _).useV ?_
    rw [hf]
    simp (disch := first | omega | (simp; done) | (simp; omega)) [ltT, ltF, leT, leF, eqT', eqF, ltTn, leTn, ltFn, leFn, wrapI, mid]
    refine (tableText_V rows d hl (by omega) hr _).useV ?_
    simp (disch := first | omega | (simp; done) | (simp; omega)) [ltT, ltF, leT, leF, eqT', eqF, ltTn, leTn, ltFn, leFn, wrapI, mid]
    refine (tabled_V _).useV ?_
    simp (disch := first | omega | (simp; done) | (simp; omega)) [ltT, ltF, leT, leF, eqT', eqF, ltTn, leTn, ltFn, leFn, wrapI, mid]
    exact rshift_d hok

end Go.Vm
