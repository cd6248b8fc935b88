/- date: Between. -/
import Derived.Test.YtjjpkeajlgbleaaDoorDtB
namespace Go.Vm
open Proofs
set_option maxRecDepth 20000
set_option maxHeartbeats 1000000
set_option linter.unusedSimpArgs false

def betS (a b : Mo) : (Int × Int) × (Int × Int) :=
  if (momF a).1 ≠ 0 then ((0, 0), momF a) else if (momF b).1 ≠ 0 then ((0, 0), ((momF b).1, (momF b).2 + 10))
  else if b.secs < a.secs then ((-betK b a, -(a.secs - (fromK b a).secs)), (0, 0)) else ((betK a b, b.secs - (fromK a b).secs), (0, 0))

theorem momF_le (m : Mo) : 0 ≤ (momF m).1 ∧ (momF m).1 ≤ 4 ∧ 0 ≤ (momF m).2 ∧ (momF m).2 ≤ 5 := by
  unfold momF; repeat' split
  all_goals simp

theorem between_V (a b : Mo) (h : List Blk) : CallP Tryd.prog 33 [.d (encMo a), .d (encMo b)] h (.tup [.d (encF (betS a b).1), .d (encF (betS a b).2)]) := by
  refine callW tb_ok fn33 (by simp) (fun hok => ?_)
  have hle := momF_le b
  simp (disch := first | omega | (simp; done) | (simp; omega)) [ltT, ltF, leT, leF, eqT', eqF, ltTn, leTn, ltFn, leFn, wrapI, tdivP, tmodP, mid, c33]
  refine (check_V a _).useV ?_
  by_cases h1 : (momF a).1 ≠ 0
  · rw [show betS a b = ((0, 0), momF a) from by unfold betS; rw [if_pos h1]]
    simp (disch := first | omega | (simp; done) | (simp; omega)) [ltT, ltF, leT, leF, eqT', eqF, ltTn, leTn, ltFn, leFn, wrapI, tdivP, tmodP, mid, h1]
    refine regV_all ?_
    simp (disch := first | omega | (simp; done) | (simp; omega)) [ltT, ltF, leT, leF, eqT', eqF, ltTn, leTn, ltFn, leFn, wrapI, tdivP, tmodP, mid]
    exact RShift.subs ⟨.refl _, .refl _, trivial⟩ (by simp) hok (Nat.le_refl _)
  obtain ⟨hza, ha⟩ := momF_ok h1
  simp (disch := first | omega | (simp; done) | (simp; omega)) [ltT, ltF, leT, leF, eqT', eqF, ltTn, leTn, ltFn, leFn, wrapI, tdivP, tmodP, mid, hza]
  refine (check_V b _).useV ?_
  by_cases h2 : (momF b).1 ≠ 0
  · rw [show betS a b = ((0, 0), ((momF b).1, (momF b).2 + 10)) from by unfold betS; rw [if_neg h1, if_pos h2]]
    simp (disch := first | omega | (simp; done) | (simp; omega)) [ltT, ltF, leT, leF, eqT', eqF, ltTn, leTn, ltFn, leFn, wrapI, tdivP, tmodP, mid, h2]
    refine regV_all ?_
    simp (disch := first | omega | (simp; done) | (simp; omega)) [ltT, ltF, leT, leF, eqT', eqF, ltTn, leTn, ltFn, leFn, wrapI, tdivP, tmodP, mid]
    exact RShift.subs ⟨.refl _, .refl _, trivial⟩ (by simp) hok (Nat.le_refl _)
  obtain ⟨hzb, hb⟩ := momF_ok h2
  simp (disch := first | omega | (simp; done) | (simp; omega)) [ltT, ltF, leT, leF, eqT', eqF, ltTn, leTn, ltFn, leFn, wrapI, tdivP, tmodP, mid, hzb]
  refine regV_all ?_
  simp (disch := first | omega | (simp; done) | (simp; omega)) [ltT, ltF, leT, leF, eqT', eqF, ltTn, leTn, ltFn, leFn, wrapI, tdivP, tmodP, mid]
  refine (number_V a ha _).useV ?_
  simp (disch := first | omega | (simp; done) | (simp; omega)) [ltT, ltF, leT, leF, eqT', eqF, ltTn, leTn, ltFn, leFn, wrapI, tdivP, tmodP, mid]
  refine (number_V b hb _).useV ?_
  have sa := secs_bnd ha
  have sb := secs_bnd hb
  have main : ∀ (x y : Mo), x.ok → y.ok → x.secs ≤ y.secs → ∃ k, k = 12 * (y.y - x.y) + y.m - x.m ∧ 0 ≤ k ∧ k < 120000 ∧ ((∃ z, addS x k = some z ∧ z.ok ∧ ((z.secs ≤ y.secs ∧ betK x y = k ∧ fromK x y = z) ∨ (y.secs < z.secs ∧ betK x y = k - 1 ∧ ∃ z', addS x (k - 1) = some z' ∧ z'.ok ∧ fromK x y = z')))) := by
    intro x y hx hy hxy
    have hK := betK_ok hx hy hxy
    obtain ⟨xK, hxK, hxo, hxs, hK2⟩ := hK.some hx
    have hxi := x.day_idx hx
    have hyi := y.day_idx hy
    obtain ⟨k, hk⟩ : ∃ k, k = 12 * (y.y - x.y) + y.m - x.m := ⟨_, rfl⟩
    have hki : x.idx + k = y.idx := by unfold Mo.idx; omega
    have hk0 : 0 ≤ k := by
      rcases Int.lt_or_le y.idx x.idx with c | c
      · have := idx_secs hy hx c; omega
      · omega
    obtain ⟨z, hz⟩ := addS_isSome (m := x) (n := k) (by omega) (by omega)
    obtain ⟨b1, b2, _⟩ := addS_some hx hz
    refine ⟨k, hk, hk0, by omega, z, hz, b1, ?_⟩
    have hu : upTo x y k = decide (z.secs ≤ y.secs) := by unfold upTo; rw [hz]
    by_cases c : z.secs ≤ y.secs
    · left
      have e : betK x y = k := by unfold betK; rw [← hk, hu, if_pos (by simpa using c)]
      exact ⟨c, e, by unfold fromK; rw [e, hz]; rfl⟩
    · right
      have e : betK x y = k - 1 := by unfold betK; rw [← hk, hu, if_neg (by simpa using c)]
      rw [e] at hxK
      exact ⟨by omega, e, xK, hxK, hxo, by unfold fromK; rw [e, hxK]; rfl⟩
  by_cases h3 : b.secs < a.secs
  · rw [show betS a b = ((-betK b a, -(a.secs - (fromK b a).secs)), (0, 0)) from by unfold betS; rw [if_neg h1, if_neg h2, if_pos h3]]
    obtain ⟨k, hk, k0, k1, z, hz, hzo, hc⟩ := main b a hb ha (by omega)
    have sz := secs_bnd hzo
    obtain ⟨⟨y1, y2, y3, y4, _⟩, _⟩ := id ha
    obtain ⟨⟨x1, x2, x3, x4, _⟩, _⟩ := id hb
    simp (disch := first | omega | (simp; done) | (simp; omega)) [ltT, ltF, leT, leF, eqT', eqF, ltTn, leTn, ltFn, leFn, wrapI, tdivP, tmodP, mid, h3, ← hk]
    refine (addMonths_V' b k hb (by omega) (by omega) _).useV ?_
    simp (disch := first | omega | (simp; done) | (simp; omega)) [ltT, ltF, leT, leF, eqT', eqF, ltTn, leTn, ltFn, leFn, wrapI, tdivP, tmodP, mid, hz]
    refine regV_all ?_
    simp (disch := first | omega | (simp; done) | (simp; omega)) [ltT, ltF, leT, leF, eqT', eqF, ltTn, leTn, ltFn, leFn, wrapI, tdivP, tmodP, mid]
    refine (number_V z hzo _).useV ?_
    simp (disch := first | omega | (simp; done) | (simp; omega)) [ltT, ltF, leT, leF, eqT', eqF, ltTn, leTn, ltFn, leFn, wrapI, tdivP, tmodP, mid]
    refine (number_V a ha _).useV ?_
    rcases hc with ⟨c1, c2, c3⟩ | ⟨c1, c2, z', hz', hzo', c3⟩
    · rw [c2, c3]
      simp (disch := first | omega | (simp; done) | (simp; omega)) [ltT, ltF, leT, leF, eqT', eqF, ltTn, leTn, ltFn, leFn, wrapI, tdivP, tmodP, mid]
      refine regV_all ?_
      simp (disch := first | omega | (simp; done) | (simp; omega)) [ltT, ltF, leT, leF, eqT', eqF, ltTn, leTn, ltFn, leFn, wrapI, tdivP, tmodP, mid]
      refine (number_V a ha _).useV ?_
      simp (disch := first | omega | (simp; done) | (simp; omega)) [ltT, ltF, leT, leF, eqT', eqF, ltTn, leTn, ltFn, leFn, wrapI, tdivP, tmodP, mid]
      refine (number_V z hzo _).useV ?_
      simp (disch := first | omega | (simp; done) | (simp; omega)) [ltT, ltF, leT, leF, eqT', eqF, ltTn, leTn, ltFn, leFn, wrapI, tdivP, tmodP, mid]
      exact RShift.subs ⟨.refl _, .refl _, trivial⟩ (by simp) hok (Nat.le_refl _)
    · rw [c2, c3]
      have sz' := secs_bnd hzo'
      simp (disch := first | omega | (simp; done) | (simp; omega)) [ltT, ltF, leT, leF, eqT', eqF, ltTn, leTn, ltFn, leFn, wrapI, tdivP, tmodP, mid]
      refine (addMonths_V' b (k - 1) hb (by omega) (by omega) _).useV ?_
      simp (disch := first | omega | (simp; done) | (simp; omega)) [ltT, ltF, leT, leF, eqT', eqF, ltTn, leTn, ltFn, leFn, wrapI, tdivP, tmodP, mid, hz']
      refine regV_all ?_
      simp (disch := first | omega | (simp; done) | (simp; omega)) [ltT, ltF, leT, leF, eqT', eqF, ltTn, leTn, ltFn, leFn, wrapI, tdivP, tmodP, mid]
      refine (number_V a ha _).useV ?_
      simp (disch := first | omega | (simp; done) | (simp; omega)) [ltT, ltF, leT, leF, eqT', eqF, ltTn, leTn, ltFn, leFn, wrapI, tdivP, tmodP, mid]
      refine (number_V z' hzo' _).useV ?_
      simp (disch := first | omega | (simp; done) | (simp; omega)) [ltT, ltF, leT, leF, eqT', eqF, ltTn, leTn, ltFn, leFn, wrapI, tdivP, tmodP, mid]
      exact RShift.subs ⟨.refl _, .refl _, trivial⟩ (by simp) hok (Nat.le_refl _)
  · rw [show betS a b = ((betK a b, b.secs - (fromK a b).secs), (0, 0)) from by unfold betS; rw [if_neg h1, if_neg h2, if_neg h3]]
    obtain ⟨k, hk, k0, k1, z, hz, hzo, hc⟩ := main a b ha hb (by omega)
    have sz := secs_bnd hzo
    obtain ⟨⟨y1, y2, y3, y4, _⟩, _⟩ := id ha
    obtain ⟨⟨x1, x2, x3, x4, _⟩, _⟩ := id hb
    simp (disch := first | omega | (simp; done) | (simp; omega)) [ltT, ltF, leT, leF, eqT', eqF, ltTn, leTn, ltFn, leFn, wrapI, tdivP, tmodP, mid, h3, ← hk]
    refine (addMonths_V' a k ha (by omega) (by omega) _).useV ?_
    simp (disch := first | omega | (simp; done) | (simp; omega)) [ltT, ltF, leT, leF, eqT', eqF, ltTn, leTn, ltFn, leFn, wrapI, tdivP, tmodP, mid, hz]
    refine regV_all ?_
    simp (disch := first | omega | (simp; done) | (simp; omega)) [ltT, ltF, leT, leF, eqT', eqF, ltTn, leTn, ltFn, leFn, wrapI, tdivP, tmodP, mid]
    refine (number_V z hzo _).useV ?_
    simp (disch := first | omega | (simp; done) | (simp; omega)) [ltT, ltF, leT, leF, eqT', eqF, ltTn, leTn, ltFn, leFn, wrapI, tdivP, tmodP, mid]
    refine (number_V b hb _).useV ?_
    rcases hc with ⟨c1, c2, c3⟩ | ⟨c1, c2, z', hz', hzo', c3⟩
    · rw [c2, c3]
      simp (disch := first | omega | (simp; done) | (simp; omega)) [ltT, ltF, leT, leF, eqT', eqF, ltTn, leTn, ltFn, leFn, wrapI, tdivP, tmodP, mid]
      refine regV_all ?_
      simp (disch := first | omega | (simp; done) | (simp; omega)) [ltT, ltF, leT, leF, eqT', eqF, ltTn, leTn, ltFn, leFn, wrapI, tdivP, tmodP, mid]
      refine (number_V b hb _).useV ?_
      simp (disch := first | omega | (simp; done) | (simp; omega)) [ltT, ltF, leT, leF, eqT', eqF, ltTn, leTn, ltFn, leFn, wrapI, tdivP, tmodP, mid]
      refine (number_V z hzo _).useV ?_
      simp (disch := first | omega | (simp; done) | (simp; omega)) [ltT, ltF, leT, leF, eqT', eqF, ltTn, leTn, ltFn, leFn, wrapI, tdivP, tmodP, mid]
      exact RShift.subs ⟨.refl _, .refl _, trivial⟩ (by simp) hok (Nat.le_refl _)
    · rw [c2, c3]
      have sz' := secs_bnd hzo'
      simp (disch := first | omega | (simp; done) | (simp; omega)) [ltT, ltF, leT, leF, eqT', eqF, ltTn, leTn, ltFn, leFn, wrapI, tdivP, tmodP, mid]
      refine (addMonths_V' a (k - 1) ha (by omega) (by omega) _).useV ?_
      simp (disch := first | omega | (simp; done) | (simp; omega)) [ltT, ltF, leT, leF, eqT', eqF, ltTn, leTn, ltFn, leFn, wrapI, tdivP, tmodP, mid, hz']
      refine regV_all ?_
      simp (disch := first | omega | (simp; done) | (simp; omega)) [ltT, ltF, leT, leF, eqT', eqF, ltTn, leTn, ltFn, leFn, wrapI, tdivP, tmodP, mid]
      refine (number_V b hb _).useV ?_
      simp (disch := first | omega | (simp; done) | (simp; omega)) [ltT, ltF, leT, leF, eqT', eqF, ltTn, leTn, ltFn, leFn, wrapI, tdivP, tmodP, mid]
      refine (number_V z' hzo' _).useV ?_
      simp (disch := first | omega | (simp; done) | (simp; omega)) [ltT, ltF, leT, leF, eqT', eqF, ltTn, leTn, ltFn, leFn, wrapI, tdivP, tmodP, mid]
      exact RShift.subs ⟨.refl _, .refl _, trivial⟩ (by simp) hok (Nat.le_refl _)

end Go.Vm
