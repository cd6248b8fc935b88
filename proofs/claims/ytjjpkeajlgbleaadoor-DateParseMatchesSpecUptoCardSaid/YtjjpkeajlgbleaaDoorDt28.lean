/- date: Parse gives what the reference reads. -/
import Derived.Test.YtjjpkeajlgbleaaDoorDt27
import Derived.Test.YtjjpkeajlgbleaaDoorDt17
namespace Go.Vm
open Proofs
set_option maxRecDepth 20000
set_option maxHeartbeats 1000000
set_option linter.unusedSimpArgs false

theorem law13 (tx p : List UInt8) (ht : tx.length ≤ 1048576) (hp : p.length ≤ 1048576) (h : List Blk) : CallP Tryd.prog 13 [.d (.str tx), .d (.str p)] h (.d (.bool true)) := by
  refine callW tb_ok fn13 (by simp) (fun hok => ?_)
  simp (disch := first | omega | (simp; done) | (simp; omega)) [ltT, ltF, leT, leF, eqT', eqF, ltTn, leTn, ltFn, leFn, wrapI, mid, c13]
  refine (parse_V tx p ht hp _).useV ?_
  simp (disch := first | omega | (simp; done) | (simp; omega)) [ltT, ltF, leT, leF, eqT', eqF, ltTn, leTn, ltFn, leFn, wrapI, mid]
  refine (patternFault_V p 1000 hp (by omega) (by omega) _).useV ?_
  by_cases h2 : (patF 1000 p).1 ≠ 0
  · rw [show parseS tx p = (mo0, patF 1000 p) from by unfold parseS; rw [if_pos h2]]
    simp (disch := first | omega | (simp; done) | (simp; omega)) [ltT, ltF, leT, leF, eqT', eqF, ltTn, leTn, ltFn, leFn, wrapI, mid, h2, mo0]
    refine (dated_V _).useV ?_
    simp (disch := first | omega | (simp; done) | (simp; omega)) [ltT, ltF, leT, leF, eqT', eqF, ltTn, leTn, ltFn, leFn, wrapI, mid]
    exact rshift_d hok
  have hp2 : p.length ≤ 200 := by
    unfold patF at h2
    by_cases c : 200 < p.length
    · rw [if_pos c] at h2; simp at h2
    · omega
  have hpz : (patFrom 1000 0 p).1 = 0 := by
    unfold patF at h2
    rw [if_neg (by omega)] at h2
    simpa using h2
  rw [parse_ref tx p h2 hpz]
  have hrd := fun h => read_V tx p ht hp2 hpz h
  generalize endR tx (readR p tx fs0 false) = res at hrd ⊢
  obtain ⟨pf, hpf⟩ : ∃ pf, pf = patF 1000 p := ⟨_, rfl⟩
  rw [← hpf] at h2
  simp (disch := first | omega | (simp; done) | (simp; omega)) [ltT, ltF, leT, leF, eqT', eqF, ltTn, leTn, ltFn, leFn, wrapI, mid, h2, ← hpf]
  refine (hrd _).useV ?_
  simp (disch := first | omega | (simp; done) | (simp; omega)) [ltT, ltF, leT, leF, eqT', eqF, ltTn, leTn, ltFn, leFn, wrapI, mid]
  refine (dated_V _).useV ?_
  simp (disch := first | omega | (simp; done) | (simp; omega)) [ltT, ltF, leT, leF, eqT', eqF, ltTn, leTn, ltFn, leFn, wrapI, mid]
  exact rshift_d hok

end Go.Vm
