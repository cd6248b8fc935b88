/- csv: searching in lists of texts; equality of tables. -/
import Derived.Test.YtggeifnbllfmbaaDoorCs7
namespace Go.Vm
open Proofs
set_option maxRecDepth 20000
set_option maxHeartbeats 1000000
set_option linter.unusedSimpArgs false

def posS (l : List (List UInt8)) (s : List UInt8) : Int := idxFrom (fun x => decide (x = s)) 0 l

theorem index38_V (xs : List (List UInt8)) (s : List UInt8) (h : List Blk) (hl : xs.length < 1000000000) : CallP Tryd.prog 38 [.d (encR xs), .d (.str s)] h (.d (.int .i64 (posS xs s))) := by
  refine callW tb_ok fn38 (by simp) (fun hok => ?_)
  simp (disch := first | omega | (simp; done) | (simp; omega)) [ltT, ltF, leT, leF, eqT', eqF, ltTn, leTn, ltFn, leFn, wrapI, mid, c38, encR]
  refine W_loopA (ι := List (List UInt8) × List (List UInt8)) (fun q => q.1 ++ q.2 = xs ∧ idxFrom (fun x => decide (x = s)) q.1.length q.2 = posS xs s) (fun q => ⟨[(0, .d (encR xs)), (1, .d (.str s)), (7, .d (.int .i64 xs.length)), (8, .d (.int .i64 q.1.length))], h⟩) (fun q => q.2.length) ([], xs) ⟨rfl, rfl⟩ (Shift.slots' rfl (by simp [encR])) ?_
  rintro ⟨pre, rest⟩ ⟨hx, hc⟩ A hA
  simp only at hx hc
  subst hx
  cases rest with
  | nil =>
    simp only [idxFrom] at hc
    rw [← hc]
    simp (disch := first | omega | (simp; done) | (simp; omega)) [ltT, ltF, leT, leF, eqT', eqF, ltTn, leTn, ltFn, leFn, wrapI, mid]
  | cons x rest =>
    simp only [List.length_append, List.length_cons] at hl
    by_cases hp : x = s
    · have hr : posS (pre ++ x :: rest) s = pre.length := by rw [← hc, idxFrom, if_pos (by simpa using hp)]
      rw [hr]
      simp (disch := first | omega | (simp; done) | (simp; omega)) [ltT, ltF, leT, leF, eqT', eqF, ltTn, leTn, ltFn, leFn, wrapI, mid, encR, encS, hp]
    · have hp' : ¬ s = x := fun e => hp e.symm
      simp (disch := first | omega | (simp; done) | (simp; omega)) [ltT, ltF, leT, leF, eqT', eqF, ltTn, leTn, ltFn, leFn, wrapI, mid, encR, encS, hp']
      refine hA (pre ++ [x], rest) _ ⟨by simp, ?_⟩ (by simp) (Shift.slots' rfl (by simp [encR, encS]))
      rw [← hc, idxFrom, if_neg (by simpa using hp)]
      simp

theorem contains37_V (xs : List (List UInt8)) (s : List UInt8) (h : List Blk) (hl : xs.length < 1000000000) : CallP Tryd.prog 37 [.d (encR xs), .d (.str s)] h (.d (.bool (decide (0 ≤ posS xs s)))) := by
  refine callW tb_ok fn37 (by simp) (fun hok => ?_)
  simp (disch := first | omega | (simp; done) | (simp; omega)) [ltT, ltF, leT, leF, eqT', eqF, ltTn, leTn, ltFn, leFn, wrapI, mid, c37]
  refine (index38_V xs s _ hl).useV ?_
  simp (disch := first | omega | (simp; done) | (simp; omega)) [ltT, ltF, leT, leF, eqT', eqF, ltTn, leTn, ltFn, leFn, wrapI, mid]

theorem position39_V (xs : List (List UInt8)) (s : List UInt8) (h : List Blk) (hl : xs.length < 1000000000) : CallP Tryd.prog 39 [.d (encR xs), .d (.str s)] h (.d (.int .i64 (posS xs s))) := by
  refine callW tb_ok fn39 (by simp) (fun hok => ?_)
  simp (disch := first | omega | (simp; done) | (simp; omega)) [ltT, ltF, leT, leF, eqT', eqF, ltTn, leTn, ltFn, leFn, wrapI, mid, c39, encR]
  refine W_loopA (ι := List (List UInt8) × List (List UInt8)) (fun q => q.1 ++ q.2 = xs ∧ idxFrom (fun x => decide (x = s)) q.1.length q.2 = posS xs s) (fun q => ⟨[(0, .d (encR xs)), (1, .d (.str s)), (5, .d (.int .i64 q.1.length))], h⟩) (fun q => q.2.length) ([], xs) ⟨rfl, rfl⟩ (Shift.slots' rfl (by simp [encR])) ?_
  rintro ⟨pre, rest⟩ ⟨hx, hc⟩ A hA
  simp only at hx hc
  subst hx
  cases rest with
  | nil =>
    simp only [idxFrom] at hc
    rw [← hc]
    simp (disch := first | omega | (simp; done) | (simp; omega)) [ltT, ltF, leT, leF, eqT', eqF, ltTn, leTn, ltFn, leFn, wrapI, mid, encR]
  | cons x rest =>
    simp only [List.length_append, List.length_cons] at hl
    by_cases hp : x = s
    · have hr : posS (pre ++ x :: rest) s = pre.length := by rw [← hc, idxFrom, if_pos (by simpa using hp)]
      rw [hr]
      simp (disch := first | omega | (simp; done) | (simp; omega)) [ltT, ltF, leT, leF, eqT', eqF, ltTn, leTn, ltFn, leFn, wrapI, mid, encR, encS, hp]
    · simp (disch := first | omega | (simp; done) | (simp; omega)) [ltT, ltF, leT, leF, eqT', eqF, ltTn, leTn, ltFn, leFn, wrapI, mid, encR, encS, hp]
      refine hA (pre ++ [x], rest) _ ⟨by simp, ?_⟩ (by simp) (Shift.slots' rfl (by simp [encR, encS]))
      rw [← hc, idxFrom, if_neg (by simpa using hp)]
      simp

theorem strings36_V (a b : List (List UInt8)) (h : List Blk) (hl : a.length < 1000000000) (hl2 : b.length < 1000000000) : CallP Tryd.prog 36 [.d (encR a), .d (encR b)] h (.d (.bool (decide (a = b)))) := by
  refine callW tb_ok fn36 (by simp) (fun hok => ?_)
  by_cases hab : a.length = b.length
  · simp (disch := first | omega | (simp; done) | (simp; omega)) [ltT, ltF, leT, leF, eqT', eqF, ltTn, leTn, ltFn, leFn, wrapI, mid, c36, encR]
    refine W_loopA (ι := List (List UInt8) × List (List UInt8) × List (List UInt8)) (fun q => q.1 ++ q.2.1 = a ∧ q.1 ++ q.2.2 = b) (fun q => ⟨[(0, .d (encR a)), (1, .d (encR b)), (5, .d (.int .i64 q.1.length))], h⟩) (fun q => q.2.1.length) ([], a, b) ⟨rfl, rfl⟩ (Shift.slots' rfl (by simp [encR])) ?_
    rintro ⟨pre, ra, rb⟩ ⟨hx, hy⟩ A hA
    simp only at hx hy
    subst hx
    subst hy
    cases ra with
    | nil =>
      have : rb = [] := by simpa using hab
      subst this
      simp (disch := first | omega | (simp; done) | (simp; omega)) [ltT, ltF, leT, leF, eqT', eqF, ltTn, leTn, ltFn, leFn, wrapI, mid, encR]
    | cons x ra =>
      cases rb with
      | nil => simp at hab
      | cons y rb =>
        simp only [List.length_append, List.length_cons] at hl hl2 hab
        by_cases hp : x = y
        · simp (disch := first | omega | (simp; done) | (simp; omega)) [ltT, ltF, leT, leF, eqT', eqF, ltTn, leTn, ltFn, leFn, wrapI, mid, encR, encS, hp]
          exact hA (pre ++ [x], ra, rb) _ ⟨by simp, by simp [hp]⟩ (by simp) (Shift.slots' rfl (by simp [encR, encS, hp]))
        · simp (disch := first | omega | (simp; done) | (simp; omega)) [ltT, ltF, leT, leF, eqT', eqF, ltTn, leTn, ltFn, leFn, wrapI, mid, encR, encS, hp]
  · have : ¬ a = b := fun e => hab (by rw [e])
    simp (disch := first | omega | (simp; done) | (simp; omega)) [ltT, ltF, leT, leF, eqT', eqF, ltTn, leTn, ltFn, leFn, wrapI, mid, c36, encR, this]

theorem sameTable_V (a b : List (List (List UInt8))) (h : List Blk) (hl : a.length < 1000000000) (hl2 : b.length < 1000000000) (ha : ∀ r ∈ a, r.length < 1000000000) (hb : ∀ r ∈ b, r.length < 1000000000) :
    CallP Tryd.prog 20 [.d (.sl 39 (a.map encR)), .d (.sl 39 (b.map encR))] h (.d (.bool (decide (a = b)))) := by
  refine callW tb_ok fn20 (by simp) (fun hok => ?_)
  by_cases hab : a.length = b.length
  · simp (disch := first | omega | (simp; done) | (simp; omega)) [ltT, ltF, leT, leF, eqT', eqF, ltTn, leTn, ltFn, leFn, wrapI, mid, c20]
    refine W_loopA (ι := List (List (List UInt8)) × List (List (List UInt8)) × List (List (List UInt8))) (fun q => q.1 ++ q.2.1 = a ∧ q.1 ++ q.2.2 = b) (fun q => ⟨[(0, .d (.sl 39 (a.map encR))), (1, .d (.sl 39 (b.map encR))), (5, .d (.int .i64 q.1.length))], h⟩) (fun q => q.2.1.length) ([], a, b) ⟨rfl, rfl⟩ (Shift.slots' rfl (by simp)) ?_
    rintro ⟨pre, ra, rb⟩ ⟨hx, hy⟩ A hA
    simp only at hx hy
    subst hx
    subst hy
    cases ra with
    | nil =>
      have : rb = [] := by simpa using hab
      subst this
      simp (disch := first | omega | (simp; done) | (simp; omega)) [ltT, ltF, leT, leF, eqT', eqF, ltTn, leTn, ltFn, leFn, wrapI, mid]
    | cons x ra =>
      cases rb with
      | nil => simp at hab
      | cons y rb =>
        simp only [List.length_append, List.length_cons] at hl hl2 hab
        simp (disch := first | omega | (simp; done) | (simp; omega)) [ltT, ltF, leT, leF, eqT', eqF, ltTn, leTn, ltFn, leFn, wrapI, mid]
        refine (strings36_V x y _ (ha x (by simp)) (hb y (by simp))).useV ?_
        by_cases hp : x = y
        · simp (disch := first | omega | (simp; done) | (simp; omega)) [ltT, ltF, leT, leF, eqT', eqF, ltTn, leTn, ltFn, leFn, wrapI, mid, hp]
          exact hA (pre ++ [x], ra, rb) _ ⟨by simp, by simp [hp]⟩ (by simp) (Shift.slots' rfl (by simp [hp]))
        · simp (disch := first | omega | (simp; done) | (simp; omega)) [ltT, ltF, leT, leF, eqT', eqF, ltTn, leTn, ltFn, leFn, wrapI, mid, hp]
  · have : ¬ a = b := fun e => hab (by rw [e])
    simp (disch := first | omega | (simp; done) | (simp; omega)) [ltT, ltF, leT, leF, eqT', eqF, ltTn, leTn, ltFn, leFn, wrapI, mid, c20, this]

theorem comma_V (h : List Blk) : CallP Tryd.prog 34 [] h (.d (encDia ⟨44, 34, false, false⟩)) := by
  refine callW tb_ok fn34 (by simp) (fun hok => ?_)
  simp (disch := first | omega | (simp; done) | (simp; omega)) [ltT, ltF, leT, leF, eqT', eqF, ltTn, leTn, ltFn, leFn, wrapI, mid, c34]
  exact rshift_d hok

theorem hasString_V (l : List (List UInt8)) (n : Nat) (s : List UInt8) (h : List Blk) (hl : l.length < 1000000000) : CallP Tryd.prog 23 [.d (encR l), .d (.int .i64 n), .d (.str s)] h (.d (.bool (decide (s ∈ l.take n)))) := by
  refine callW tb_ok fn23 (by simp) (fun hok => ?_)
  simp (disch := first | omega | (simp; done) | (simp; omega)) [ltT, ltF, leT, leF, eqT', eqF, ltTn, leTn, ltFn, leFn, wrapI, mid, c23, encR]
  refine W_loopA (ι := List (List UInt8) × List (List UInt8)) (fun q => q.1 ++ q.2 = l ∧ s ∉ q.1 ∧ q.1.length ≤ n) (fun q => ⟨[(0, .d (encR l)), (1, .d (.int .i64 n)), (2, .d (.str s)), (7, .d (.int .i64 q.1.length))], h⟩) (fun q => q.2.length) ([], l) ⟨rfl, by simp, by simp⟩ (Shift.slots' rfl (by simp [encR])) ?_
  rintro ⟨pre, rest⟩ ⟨hx, hc, hn⟩ A hA
  simp only at hx hc hn
  subst hx
  cases rest with
  | nil =>
    have hf : s ∉ (pre ++ []).take n := fun e => hc (by simpa using List.mem_of_mem_take e)
    rw [decide_eq_false hf]
    by_cases h1 : pre.length < n
    · simp (disch := first | omega | (simp; done) | (simp; omega)) [ltT, ltF, leT, leF, eqT', eqF, ltTn, leTn, ltFn, leFn, wrapI, mid, encR]
    · simp (disch := first | omega | (simp; done) | (simp; omega)) [ltT, ltF, leT, leF, eqT', eqF, ltTn, leTn, ltFn, leFn, wrapI, mid, encR]
  | cons x rest =>
    simp only [List.length_append, List.length_cons] at hl
    by_cases h1 : pre.length < n
    · by_cases hp : x = s
      · have hf : s ∈ (pre ++ x :: rest).take n := by
          rw [List.take_append, List.mem_append]; right
          obtain ⟨m, hm⟩ : ∃ m, n - pre.length = m + 1 := ⟨n - pre.length - 1, by omega⟩
          rw [hm]; simp [hp]
        rw [decide_eq_true hf]
        simp (disch := first | omega | (simp; done) | (simp; omega)) [ltT, ltF, leT, leF, eqT', eqF, ltTn, leTn, ltFn, leFn, wrapI, mid, encR, encS, hp]
      · simp (disch := first | omega | (simp; done) | (simp; omega)) [ltT, ltF, leT, leF, eqT', eqF, ltTn, leTn, ltFn, leFn, wrapI, mid, encR, encS, hp]
        exact hA (pre ++ [x], rest) _ ⟨by simp, by simp [hc, Ne.symm hp], by simp; omega⟩ (by simp) (Shift.slots' rfl (by simp [encR, encS]))
    · have hf : s ∉ (pre ++ x :: rest).take n := by
        have : n = pre.length := by omega
        rw [this, List.take_left]; exact hc
      rw [decide_eq_false hf]
      simp (disch := first | omega | (simp; done) | (simp; omega)) [ltT, ltF, leT, leF, eqT', eqF, ltTn, leTn, ltFn, leFn, wrapI, mid, encR]

end Go.Vm
