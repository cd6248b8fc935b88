/- The law of Merge. -/
import Derived.Test.YtfoigidddlboaaaHqP4
import Derived.Test.YtfoigidddlboaaaHqY
import Derived.Test.YtfoigidddlboaaaHqMP
namespace Go.Vm
open Proofs
set_option maxRecDepth 10000
set_option maxHeartbeats 1000000
set_option linter.unusedSimpArgs false

@[simp high] theorem neq_P (a b : Int × Int) : binAV tb 35 .neq (.d (encF a)) (.d (encF b)) = some (True, .d (.bool (!decide (a = b)))) := by
  have : (a = b) ↔ (a.1 = b.1 ∧ a.2 = b.2) := by cases a; cases b; simp
  simp only [this]
  by_cases h1 : a.1 = b.1 <;> by_cases h2 : a.2 = b.2 <;> simp [-fold_F, encF, eqT, eqFs, h1, h2, List.range, List.range.loop]

theorem mixF_length : ∀ (n : Nat) (ls : List (List (Int × Int))), (mixF n ls).length ≤ n
  | 0, _ => by simp [mixF]
  | n + 1, ls => by
    simp only [mixF]
    split
    · simp
    · have := mixF_length n (ls.set (pickF 0 (-1) 0 ls).toNat ((ls.getD (pickF 0 (-1) 0 ls).toNat []).drop 1))
      simp only [List.length_cons]; omega

theorem law4 (lists : List (List (Int × Int))) (hl : lists.length < 10000000) (ht : total lists < 2000000000000) : CallP Try.prog 4 [.d (.sl 33 (lists.map encLF))] [] (.d (.bool true)) := by
  refine callW tb_ok fn4 (by simp) (fun hok => ?_)
  simp [c4]
  refine (mergeF_V 16 lessP lists (by omega) ht _ first_V').useV ?_
  simp
  refine (mixed_V lists hl ht _).useV ?_
  have hlen := mixF_length (total lists) lists
  obtain ⟨out, ho⟩ : ∃ out, out = mixF (total lists) lists := ⟨_, rfl⟩
  rw [merge_mix, ← ho]
  rw [← ho] at hlen
  simp (disch := first | omega | (simp; done) | (simp; omega)) [ltT, ltF, leT, leF, eqT', eqF, ltTn, leTn, ltFn, leFn, wrapI, mid, encLF]
  refine W_loopA (ι := List (Int × Int) × List (Int × Int)) (fun p => p.1 ++ p.2 = out) (fun p => ⟨[(3, .d (.sl 35 (out.map encF))), (4, .d (.sl 35 (out.map encF))), (5, .d (.int .i64 p.1.length))], []⟩) (fun p => p.2.length) ([], out) rfl (Shift.slots' rfl (by simp)) ?_
  rintro ⟨pre, rest⟩ hx A hA
  simp only at hx
  rw [← hx] at hlen ⊢
  cases rest with
  | nil =>
    simp (disch := first | omega | (simp; done) | (simp; omega)) [ltT, ltF, leT, leF, eqT', eqF, ltTn, leTn, ltFn, leFn, wrapI, mid]
    refine (queued_V _).useV ?_
    simp
    exact rshift_same' rfl (by simp)
  | cons x rest =>
    simp only [List.length_append, List.length_cons] at hlen
    simp (disch := first | omega | (simp; done) | (simp; omega)) [ltT, ltF, leT, leF, eqT', eqF, ltTn, leTn, ltFn, leFn, wrapI, mid]
    exact hA (pre ++ [x], rest) _ (by simpa using hx) (by simp) (Shift.slots' rfl (by simp [← hx]))

end Go.Vm
