/- csv: the law of Parse. -/
import Derived.Test.YtggeifnbllfmbaaDoorCs18
namespace Go.Vm
open Proofs
set_option maxRecDepth 20000
set_option maxHeartbeats 1000000
set_option linter.unusedSimpArgs false

theorem tableOf_parse (text : List UInt8) (d : Dia) (h1 : ¬ (diaFault d).1 ≠ 0) (h2 : text.length ≤ 4000) : tableOfS text d = parseS text d := by
  have hg := good_of h1
  rw [parseS, if_neg h1, if_neg (by omega), tableOfS, tabR_rows hg (text.length + 1) text [] (by omega)]
  rcases rowsS (text.length + 1) d text with ⟨t, r, ok⟩
  cases ok <;> simp [accRows]

theorem total_le_mem {α : Type} : ∀ (rows : List (List α)) (r : List α), r ∈ rows → r.length ≤ total rows
  | [], _, h => by simp at h
  | x :: l, r, h => by
    rcases List.mem_cons.mp h with rfl | h
    · simp [total]
    · have := total_le_mem l r h; simp [total]; omega

theorem parse_len (text : List UInt8) (d : Dia) : (parseS text d).1.length ≤ 200 ∧ ∀ r ∈ (parseS text d).1, r.length ≤ 1000 := by
  unfold parseS
  split
  · simp
  split
  · simp
  split
  · split
    · simp
    · rename_i h
      obtain ⟨_, h2, h3⟩ := tabFault_ok h
      exact ⟨h2, fun r hr => by have := total_le_mem _ r hr; simp only at this; omega⟩
  · simp

theorem law4 (text : List UInt8) (d : Dia) (hl : text.length ≤ 1048576) (h : List Blk) :
    CallP Tryd.prog 4 [.d (.str text), .d (encDia d)] h (.d (.bool true)) := by
  refine callW tb_ok fn4 (by simp) (fun hok => ?_)
  obtain ⟨pl, pr⟩ := parse_len text d
  have hn : ∀ {x : Int × Int}, x.1 ≠ 0 → (parseS text d).2 = x → (parseS text d).1 = [] := by
    intro x hx he
    subst he
    revert hx
    unfold parseS
    split
    · simp
    split
    · simp
    split
    · split
      · simp
      · simp
    · simp
  simp (disch := first | omega | (simp; done) | (simp; omega)) [ltT, ltF, leT, leF, eqT', eqF, ltTn, leTn, ltFn, leFn, wrapI, mid, c4]
  refine (parse_V text d hl _).useV ?_
  simp (disch := first | omega | (simp; done) | (simp; omega)) [ltT, ltF, leT, leF, eqT', eqF, ltTn, leTn, ltFn, leFn, wrapI, mid]
  refine (diaRef_V d _).useV ?_
  by_cases h1 : (diaFault d).1 ≠ 0
  · have hp : parseS text d = ([], diaFault d) := by rw [parseS, if_pos h1]
    rw [hp]
    simp (disch := first | omega | (simp; done) | (simp; omega)) [ltT, ltF, leT, leF, eqT', eqF, ltTn, leTn, ltFn, leFn, wrapI, mid, h1]
    refine (tabled_V _).useV ?_
    simp (disch := first | omega | (simp; done) | (simp; omega)) [ltT, ltF, leT, leF, eqT', eqF, ltTn, leTn, ltFn, leFn, wrapI, mid]
    exact rshift_d hok
  have hd := diaFault_ok h1
  rw [hd]
  by_cases h2 : 4000 < text.length
  · have hp : parseS text d = ([], (3, -2)) := by rw [parseS, if_neg h1, if_pos h2]
    rw [hp]
    simp (disch := first | omega | (simp; done) | (simp; omega)) [ltT, ltF, leT, leF, eqT', eqF, ltTn, leTn, ltFn, leFn, wrapI, mid]
    refine (at_V _ _ _).useV ?_
    simp (disch := first | omega | (simp; done) | (simp; omega)) [ltT, ltF, leT, leF, eqT', eqF, ltTn, leTn, ltFn, leFn, wrapI, mid]
    refine (tabled_V _).useV ?_
    simp (disch := first | omega | (simp; done) | (simp; omega)) [ltT, ltF, leT, leF, eqT', eqF, ltTn, leTn, ltFn, leFn, wrapI, mid]
    exact rshift_d hok
  simp (disch := first | omega | (simp; done) | (simp; omega)) [ltT, ltF, leT, leF, eqT', eqF, ltTn, leTn, ltFn, leFn, wrapI, mid]
  refine (tableOf_V text d hl _).useV ?_
  rw [tableOf_parse text d h1 (by omega)]
  simp (disch := first | omega | (simp; done) | (simp; omega)) [ltT, ltF, leT, leF, eqT', eqF, ltTn, leTn, ltFn, leFn, wrapI, mid]
  refine (sameTable_V (parseS text d).1 (parseS text d).1 _ (by omega) (by omega) (fun r hr => by have := pr r hr; omega) (fun r hr => by have := pr r hr; omega)).useV ?_
  simp (disch := first | omega | (simp; done) | (simp; omega)) [ltT, ltF, leT, leF, eqT', eqF, ltTn, leTn, ltFn, leFn, wrapI, mid]
  refine (tabled_V _).useV ?_
  simp (disch := first | omega | (simp; done) | (simp; omega)) [ltT, ltF, leT, leF, eqT', eqF, ltTn, leTn, ltFn, leFn, wrapI, mid]
  exact rshift_d hok

end Go.Vm
