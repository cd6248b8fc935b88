/- queued. -/
import Derived.Test.YtfoigidddlboaaaHqF
import Derived.Test.YtfoigidddlboaaaHqX
import Derived.Test.YtfoigidddlboaaaHqMI
namespace Go.Vm
open Proofs
set_option maxRecDepth 10000
set_option maxHeartbeats 1000000
set_option linter.unusedSimpArgs false

theorem smallerI_V (a b : Int) (h : List Blk) : CallP Try.prog 37 [.d (encI a), .d (encI b)] h (.d (.bool (decide (a < b)))) := by
  refine callW tb_ok fn37 (by simp) (fun hok => ?_)
  simp [c37, encI]

theorem ints_V (a b : List Int) (ha : a.length < 1000000000) (h : List Blk) : CallP Try.prog 38 [.d (.sl 3 (a.map encI)), .d (.sl 3 (b.map encI))] h (.d (.bool (decide (a = b)))) := by
  refine callW tb_ok fn38 (by simp) (fun hok => ?_)
  by_cases hlen : a.length = b.length
  · simp [c38, hlen]
    refine W_loopA (ι := List Int × List Int × List Int) (fun p => p.1 ++ p.2.1 = a ∧ p.1 ++ p.2.2 = b) (fun p => ⟨[(0, .d (.sl 3 (a.map encI))), (1, .d (.sl 3 (b.map encI))), (5, .d (.int .i64 p.1.length))], h⟩) (fun p => p.2.1.length) ([], a, b) ⟨rfl, rfl⟩ (Shift.slots' rfl (by simp [look])) ?_
    rintro ⟨pre, r1, r2⟩ ⟨hx, hy⟩ A hA
    simp only at hx hy
    subst hx; subst hy
    simp only [List.length_append] at hlen ha
    cases r1 with
    | nil =>
      have : r2 = [] := List.eq_nil_of_length_eq_zero (by simp only [List.length_nil] at hlen; omega)
      subst this
      simp (disch := first | omega | (simp; done) | (simp; omega)) [ltT, ltF, leT, leF, eqT', eqF, ltTn, leTn, ltFn, leFn, wrapI, mid]
    | cons x r1 =>
      cases r2 with
      | nil => simp at hlen
      | cons y r2 =>
        simp only [List.length_cons] at hlen ha
        by_cases hxy : x = y
        · subst hxy
          simp (disch := first | omega | (simp; done) | (simp; omega)) [ltT, ltF, leT, leF, eqT', eqF, ltTn, leTn, ltFn, leFn, wrapI, mid, encI]
          exact hA (pre ++ [x], r1, r2) _ ⟨by simp, by simp⟩ (by simp) (Shift.slots' rfl (by simp [encI]))
        · simp (disch := first | omega | (simp; done) | (simp; omega)) [ltT, ltF, leT, leF, eqT', eqF, ltTn, leTn, ltFn, leFn, wrapI, mid, encI, hxy]
  · have hne : a ≠ b := fun e => hlen (by rw [e])
    simp (disch := first | omega | (simp; done) | (simp; omega)) [ltT, ltF, leT, leF, eqT', eqF, ltTn, leTn, ltFn, leFn, wrapI, mid, c38, hne]

def qEx : List Ent := [⟨[97], 3⟩, ⟨[99], 1⟩, ⟨[98], 1⟩]
theorem qBuild : buildF qEx = ([⟨[98], 1⟩, ⟨[99], 1⟩, ⟨[97], 3⟩], (0, 0)) := by decide +kernel
theorem qPop : popF [⟨[98], 1⟩, ⟨[99], 1⟩, ⟨[97], 3⟩] = ([⟨[99], 1⟩, ⟨[97], 3⟩], ⟨[98], 1⟩, (0, 0)) := by decide +kernel
theorem qMerge : mergeF (fun a b => decide (a < b)) 4 [[1, 4], [2, 4]] = ([1, 2, 4, 4] : List Int) := by decide +kernel

theorem queued_V (h : List Blk) : CallP Try.prog 13 [] h (.d (.bool true)) := by
  refine callW tb_ok fn13 (by simp) (fun hok => ?_)
  simp [c13]
  refine (build_V qEx (by decide) _).useV ?_
  simp [encQF, qBuild]
  refine (pop_V [⟨[98], 1⟩, ⟨[99], 1⟩, ⟨[97], 3⟩] (by decide) _).useV ?_
  simp [encQEF, qPop]
  refine (mergeI_V 37 (fun a b => decide (a < b)) [[1, 4], [2, 4]] (by decide) (by decide) _ smallerI_V).useV ?_
  simp [total, qMerge, encLI, eqT, eqFs]
  refine (ints_V [1, 2, 4, 4] [1, 2, 4, 4] (by decide) _).useV ?_
  simp
  exact rshift_d hok

end Go.Vm
