/- date: the reference's words and digits. -/
import Derived.Test.YtjjpkeajlgbleaaDoorDt24
import Derived.Test.YtjjpkeajlgbleaaDoorC40
namespace Go.Vm
open Proofs
set_option maxRecDepth 20000
set_option maxHeartbeats 1000000
set_option linter.unusedSimpArgs false

theorem digit_V (c : UInt8) (h : List Blk) : CallP Tryd.prog 66 [.d (.int .u8 (c.toNat : Int))] h (.d (.bool (decide ((48 : Int) ≤ c.toNat ∧ (c.toNat : Int) ≤ 57)))) := by
  refine callW tb_ok fn66 (by simp) (fun hok => ?_)
  by_cases h1 : (48 : Int) ≤ c.toNat
  · by_cases h2 : (c.toNat : Int) ≤ 57
    · simp (disch := first | omega | (simp; done) | (simp; omega)) [ltT, ltF, leT, leF, eqT', eqF, ltTn, leTn, ltFn, leFn, wrapI, mid, c66]
    · simp (disch := first | omega | (simp; done) | (simp; omega)) [ltT, ltF, leT, leF, eqT', eqF, ltTn, leTn, ltFn, leFn, wrapI, mid, c66]
  · simp (disch := first | omega | (simp; done) | (simp; omega)) [ltT, ltF, leT, leF, eqT', eqF, ltTn, leTn, ltFn, leFn, wrapI, mid, c66]

def wordS : List (List UInt8) → List UInt8 → Int → Int
  | [], _, _ => -1
  | n :: ns, s, i => if n = s then i else wordS ns s (i + 1)

theorem word_V (names : List (List UInt8)) (words s : List UInt8) (hsl : ∀ k (hk : k < names.length), (words.take (4 * k + 3)).drop (4 * k) = names[k]) (hn0 : 0 < names.length) (hn : names.length ≤ 100) (hw : words.length + 1 = 4 * names.length) (hs : s.length = 3) (h : List Blk) :
    CallP Tryd.prog 65 [.d (.str words), .d (.str s)] h (.d (.int .i64 (wordS names s 0))) := by
  refine callW tb_ok fn65 (by simp) (fun hok => ?_)
  simp (disch := first | omega | (simp; done) | (simp; omega)) [ltT, ltF, leT, leF, eqT', eqF, ltTn, leTn, ltFn, leFn, wrapI, mid, c65, hs]
  refine W_loopA (ι := List (List UInt8) × List (List UInt8)) (fun p => p.1 ++ p.2 = names ∧ wordS p.2 s p.1.length = wordS names s 0) (fun p => ⟨[(0, .d (.str words)), (1, .d (.str s)), (5, .d (.int .i64 (4 * p.1.length)))], h⟩)
    (fun p => p.2.length) ([], names) ⟨rfl, rfl⟩ (Shift.slots' rfl (by simp)) ?_
  rintro ⟨P, l⟩ ⟨hx, hc⟩ A hA
  simp only at hx hc
  have hl : names.length = P.length + l.length := by rw [← hx]; simp
  cases l with
  | nil =>
    simp only [wordS] at hc
    rw [← hc]
    simp only [List.length_nil] at hl
    simp (disch := first | omega | (simp; done) | (simp; omega)) [ltT, ltF, leT, leF, eqT', eqF, ltTn, leTn, ltFn, leFn, wrapI, mid]
  | cons e l =>
    simp only [List.length_cons] at hl
    simp only [wordS] at hc
    have he := hsl P.length (by omega)
    have hat : names[P.length]'(by omega) = e := by simp [← hx]
    rw [hat] at he
    have e1 : (4 * (P.length : Int)).toNat = 4 * P.length := by omega
    have e2 : (4 * (P.length : Int) + 3).toNat = 4 * P.length + 3 := by omega
    have e3 : Int.tdiv (4 * (P.length : Int)) 4 = P.length := by rw [Int.tdiv_eq_ediv_of_nonneg (by omega)]; omega
    simp (disch := first | omega | (simp; done) | (simp; omega)) [ltT, ltF, leT, leF, eqT', eqF, ltTn, leTn, ltFn, leFn, wrapI, mid]
    rw [e1, e2, he]
    by_cases hes : e = s
    · rw [if_pos hes] at hc
      simp (disch := first | omega | (simp; done) | (simp; omega)) [ltT, ltF, leT, leF, eqT', eqF, ltTn, leTn, ltFn, leFn, wrapI, mid, eq_true hes, e3]
      rw [← hc]
      exact rshift_same' rfl (Nat.le_refl _)
    · rw [if_neg hes] at hc
      simp (disch := first | omega | (simp; done) | (simp; omega)) [ltT, ltF, leT, leF, eqT', eqF, ltTn, leTn, ltFn, leFn, wrapI, mid, eq_false hes]
      exact hA (P ++ [e], l) _ ⟨by simpa using hx, by rw [← hc]; simp⟩ (by simp) (Shift.slots' rfl (by simp [Int.mul_add]))

end Go.Vm
