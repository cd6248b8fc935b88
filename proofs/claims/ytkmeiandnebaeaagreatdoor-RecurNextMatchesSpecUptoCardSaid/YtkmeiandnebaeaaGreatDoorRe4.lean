/- recur: List and Next: the laws. -/
import Derived.Test.YtkmeiandnebaeaaGreatDoorRe3
namespace Go.Vm
open Proofs
set_option maxRecDepth 20000
set_option maxHeartbeats 4000000
set_option linter.unusedSimpArgs false

theorem list_len' (r : Ru) (s : Int) (most : Nat) : (listS r s most).length ≤ 20001 := by
  have := allS_len r s
  unfold listS
  simp only [List.length_take]
  omega
theorem law3 (s : Int) (r : Ru) (most : Int) (h : List Blk) : CallP Tryz.prog 3 [.d (.int .i64 s), .d (encRu r), .d (.int .i64 most)] h (.d (.bool true)) := by
  refine callW tb_ok fn3 (by simp) (fun hok => ?_)
  simp (disch := first | omega | (simp; done) | (simp; omega)) [ltT, ltF, leT, leF, eqT', eqF, ltTn, leTn, ltFn, leFn, wrapI, mid, c3]
  refine (list_V s r most _).useV ?_
  simp (disch := first | omega | (simp; done) | (simp; omega)) [ltT, ltF, leT, leF, eqT', eqF, ltTn, leTn, ltFn, leFn, wrapI, mid]
  refine regV_all ?_
  simp (disch := first | omega | (simp; done) | (simp; omega)) [ltT, ltF, leT, leF, eqT', eqF, ltTn, leTn, ltFn, leFn, wrapI, mid]
  refine (validate_V r _).useV ?_
  simp (disch := first | omega | (simp; done) | (simp; omega)) [ltT, ltF, leT, leF, eqT', eqF, ltTn, leTn, ltFn, leFn, wrapI, mid]
  refine (ruleFault_V r _).useV ?_
  simp (disch := first | omega | (simp; done) | (simp; omega)) [ltT, ltF, leT, leF, eqT', eqF, ltTn, leTn, ltFn, leFn, wrapI, mid]
  refine (startFault_V s r _).useV ?_
  by_cases h1 : (chkF s r).1 ≠ 0
  · have e : listP s r most = ([], chkF s r) := by unfold listP; rw [if_pos h1]
    rw [e]
    simp (disch := first | omega | (simp; done) | (simp; omega)) [ltT, ltF, leT, leF, eqT', eqF, ltTn, leTn, ltFn, leFn, wrapI, mid, h1]
    refine (recurred_V _).useV ?_
    simp (disch := first | omega | (simp; done) | (simp; omega)) [ltT, ltF, leT, leF, eqT', eqF, ltTn, leTn, ltFn, leFn, wrapI, mid]
    exact rshift_d hok
  obtain ⟨hz, hrz, ho, hs1, hs2⟩ := chkF_ok h1
  rw [hz]
  simp (disch := first | omega | (simp; done) | (simp; omega)) [ltT, ltF, leT, leF, eqT', eqF, ltTn, leTn, ltFn, leFn, wrapI, mid]
  refine (in_V most 0 20001 _).useV ?_
  by_cases h2 : 0 ≤ most ∧ most ≤ 20001
  · obtain ⟨m, hm⟩ : ∃ m : Nat, most = m := ⟨most.toNat, by omega⟩
    subst hm
    have e : listP s r (m : Int) = (listS r s m, (0, 0)) := by
      unfold listP
      rw [if_neg h1, if_neg (by omega), Int.toNat_natCast]
    rw [e]
    have hl := list_len' r s m
    simp (disch := first | omega | (simp; done) | (simp; omega)) [ltT, ltF, leT, leF, eqT', eqF, ltTn, leTn, ltFn, leFn, wrapI, mid, h2]
    refine (recurring_V s r m ho hs1 hs2 (by omega) _).useV ?_
    simp (disch := first | omega | (simp; done) | (simp; omega)) [ltT, ltF, leT, leF, eqT', eqF, ltTn, leTn, ltFn, leFn, wrapI, mid]
    refine (ints_V (listS r s m) (listS r s m) _ (by omega) (by omega)).useV ?_
    simp (disch := first | omega | (simp; done) | (simp; omega)) [ltT, ltF, leT, leF, eqT', eqF, ltTn, leTn, ltFn, leFn, wrapI, mid]
    refine (recurred_V _).useV ?_
    simp (disch := first | omega | (simp; done) | (simp; omega)) [ltT, ltF, leT, leF, eqT', eqF, ltTn, leTn, ltFn, leFn, wrapI, mid]
    exact rshift_d hok
  · have e : listP s r most = ([], (4, -3)) := by
      unfold listP
      rw [if_neg h1, if_pos (by omega)]
    rw [e]
    simp (disch := first | omega | (simp; done) | (simp; omega)) [ltT, ltF, leT, leF, eqT', eqF, ltTn, leTn, ltFn, leFn, wrapI, mid, h2]
    refine (atF_V 4 (-3) _).useV ?_
    simp (disch := first | omega | (simp; done) | (simp; omega)) [ltT, ltF, leT, leF, eqT', eqF, ltTn, leTn, ltFn, leFn, wrapI, mid]
    refine (recurred_V _).useV ?_
    simp (disch := first | omega | (simp; done) | (simp; omega)) [ltT, ltF, leT, leF, eqT', eqF, ltTn, leTn, ltFn, leFn, wrapI, mid]
    exact rshift_d hok

theorem law4 (s : Int) (r : Ru) (after : Int) (h : List Blk) : CallP Tryz.prog 4 [.d (.int .i64 s), .d (encRu r), .d (.int .i64 after)] h (.d (.bool true)) := by
  refine callW tb_ok fn4 (by simp) (fun hok => ?_)
  simp (disch := first | omega | (simp; done) | (simp; omega)) [ltT, ltF, leT, leF, eqT', eqF, ltTn, leTn, ltFn, leFn, wrapI, mid, c4]
  refine (next_V s r after _).useV ?_
  simp (disch := first | omega | (simp; done) | (simp; omega)) [ltT, ltF, leT, leF, eqT', eqF, ltTn, leTn, ltFn, leFn, wrapI, mid]
  refine (startFault_V s r _).useV ?_
  by_cases h1 : (chkF s r).1 ≠ 0
  · have e : nextP s r after = (0, chkF s r) := by unfold nextP; rw [if_pos h1]
    rw [e]
    simp (disch := first | omega | (simp; done) | (simp; omega)) [ltT, ltF, leT, leF, eqT', eqF, ltTn, leTn, ltFn, leFn, wrapI, mid, h1]
    refine (recurred_V _).useV ?_
    simp (disch := first | omega | (simp; done) | (simp; omega)) [ltT, ltF, leT, leF, eqT', eqF, ltTn, leTn, ltFn, leFn, wrapI, mid]
    exact rshift_d hok
  obtain ⟨hz, hrz, ho, hs1, hs2⟩ := chkF_ok h1
  rw [hz]
  simp (disch := first | omega | (simp; done) | (simp; omega)) [ltT, ltF, leT, leF, eqT', eqF, ltTn, leTn, ltFn, leFn, wrapI, mid]
  refine (in_V after 0 3652059 _).useV ?_
  by_cases h2 : 0 ≤ after ∧ after ≤ 3652059
  · have e : nextP s r after = (nextOf after (daysS r s), (0, 0)) := by
      unfold nextP
      rw [if_neg h1, if_neg (by omega)]
    rw [e]
    have hl : (daysS r s).length ≤ 20001 := by rw [← list_all]; exact list_len' r s 20001
    have hpos : ∀ x ∈ daysS r s, 1 ≤ x := fun x hx => by have := (days_pos hx).1; omega
    have hrec := fun h => recurring_V s r 20001 ho hs1 hs2 (by omega) h
    rw [list_all] at hrec
    obtain ⟨l, hl'⟩ : ∃ l, daysS r s = l := ⟨_, rfl⟩
    rw [hl'] at hl hpos hrec ⊢
    obtain ⟨N, hN⟩ : ∃ N, nextOf after l = N := ⟨_, rfl⟩
    rw [hN]
    simp (disch := first | omega | (simp; done) | (simp; omega)) [ltT, ltF, leT, leF, eqT', eqF, ltTn, leTn, ltFn, leFn, wrapI, mid, h2]
    refine (hrec _).useV ?_
    simp (disch := first | omega | (simp; done) | (simp; omega)) [ltT, ltF, leT, leF, eqT', eqF, ltTn, leTn, ltFn, leFn, wrapI, mid]
    have hokB : HOk (h ++ [.cells 25 [.d (encRu r)], .cells 27 [.d (encF (0, 0))], .cells 27 [.d (encF (0, 0))]]) := by
      refine hok.append ?_
      intro z hz
      simp only [List.mem_cons, List.not_mem_nil, or_false] at hz
      rcases hz with rfl | rfl | rfl <;> simp [BlkBel, AV.cells]
    refine W_loopA (ι := List Int × List Int) (fun q => q.1 ++ q.2 = l ∧ nextOf after q.2 = N)
      (fun q => ⟨[(2, .d (.int .i64 after)), (7, .d (.int .i64 N)), (8, .d (.bool (decide (0 < N)))), (9, .ptr (h.length + 1) 27 0 0), (11, .d (.sl 3 (l.map encI))), (12, .d (.int .i64 q.1.length))], h ++ [.cells 25 [.d (encRu r)], .cells 27 [.d (encF (0, 0))], .cells 27 [.d (encF (0, 0))]]⟩)
      (fun q => q.2.length) ([], l) ⟨rfl, hN⟩ (Shift.slots' (by simp) (by simp)) ?_
    rintro ⟨pre, rest⟩ ⟨hx, hn⟩ A hA
    simp only at hx hn
    subst hx
    cases rest with
    | nil =>
      have : N = 0 := by rw [← hn]; rfl
      subst this
      simp (disch := first | omega | (simp; done) | (simp; omega)) [ltT, ltF, leT, leF, eqT', eqF, ltTn, leTn, ltFn, leFn, wrapI, mid]
      refine (recurred_V _).useV ?_
      simp (disch := first | omega | (simp; done) | (simp; omega)) [ltT, ltF, leT, leF, eqT', eqF, ltTn, leTn, ltFn, leFn, wrapI, mid]
      exact rshift_d hok
    | cons y rest =>
      simp only [List.length_append, List.length_cons] at hl
      have hy := hpos y (by simp)
      unfold nextOf at hn
      by_cases hp : after < y
      · rw [List.find?_cons_of_pos (by simpa using hp)] at hn
        have : N = y := by rw [← hn]; rfl
        subst this
        simp (disch := first | omega | (simp; done) | (simp; omega)) [ltT, ltF, leT, leF, eqT', eqF, ltTn, leTn, ltFn, leFn, wrapI, mid, encI, hp]
        refine (recurred_V _).useV ?_
        simp (disch := first | omega | (simp; done) | (simp; omega)) [ltT, ltF, leT, leF, eqT', eqF, ltTn, leTn, ltFn, leFn, wrapI, mid]
        exact rshift_d hok
      · rw [List.find?_cons_of_neg (by simpa using hp)] at hn
        simp (disch := first | omega | (simp; done) | (simp; omega)) [ltT, ltF, leT, leF, eqT', eqF, ltTn, leTn, ltFn, leFn, wrapI, mid, encI, hp]
        exact hA (pre ++ [y], rest) _ ⟨by simp, hn⟩ (by simp) (Shift.slots' (by simp) (by simp [encI]))
  · have e : nextP s r after = (0, (4, -3)) := by
      unfold nextP
      rw [if_neg h1, if_pos (by omega)]
    rw [e]
    simp (disch := first | omega | (simp; done) | (simp; omega)) [ltT, ltF, leT, leF, eqT', eqF, ltTn, leTn, ltFn, leFn, wrapI, mid, h2]
    refine (atF_V 4 (-3) _).useV ?_
    simp (disch := first | omega | (simp; done) | (simp; omega)) [ltT, ltF, leT, leF, eqT', eqF, ltTn, leTn, ltFn, leFn, wrapI, mid]
    refine (recurred_V _).useV ?_
    simp (disch := first | omega | (simp; done) | (simp; omega)) [ltT, ltF, leT, leF, eqT', eqF, ltTn, leTn, ltFn, leFn, wrapI, mid]
    exact rshift_d hok

end Go.Vm
