/- date: the moment that is found. -/
import Derived.Test.YtjjpkeajlgbleaaDoorDt21
namespace Go.Vm
open Proofs
set_option maxRecDepth 20000
set_option maxHeartbeats 1000000
set_option linter.unusedSimpArgs false

def rdV (fd : Fd) (c : UInt8) (d : Int) (b : Bool) : Int := if b then (fdGet fd c).getD d else d
/-- The moment, with the numbers of the letters that have been looked at. -/
def momS (fd : Fd) (seen : List Nat) : Mo := ⟨rdV fd 89 1 (seen.contains 0), rdV fd 109 1 (seen.contains 1), rdV fd 100 1 (seen.contains 2), rdV fd 72 0 (seen.contains 3), rdV fd 77 0 (seen.contains 4), rdV fd 83 0 (seen.contains 5)⟩
def momA (fd : Fd) : Mo := momS fd [0, 1, 2, 3, 4, 5]

def mu6 (s : List Nat) : Nat := (if 0 ∈ s then 0 else 1) + (if 1 ∈ s then 0 else 1) + (if 2 ∈ s then 0 else 1) + (if 3 ∈ s then 0 else 1) + (if 4 ∈ s then 0 else 1) + (if 5 ∈ s then 0 else 1)

def toEs (b : Nat) : List (D × AV) := [(.int .u8 89, .ptr b 23 0 0), (.int .u8 109, .ptr b 23 0 1), (.int .u8 100, .ptr b 23 0 2), (.int .u8 72, .ptr b 23 0 3), (.int .u8 77, .ptr b 23 0 4), (.int .u8 83, .ptr b 23 0 5)]

theorem moment_V {r mb : Nat} {cf : Bool} {text : List UInt8} {k : Int} {fd : Fd} {h : List Blk} (hb : h[r]? = some (rdK text k mb cf)) (hm : h[mb]? = some (.map (encFd fd))) :
    CallP Tryd.prog 64 [.ptr r 89 0 0] h (.d (encMo (momA fd))) := by
  refine callW tb_ok fn64 (by simp) (fun hok => ?_)
  have hbl := (List.getElem?_eq_some_iff.mp hb).1
  have hb' := (List.getElem?_eq_some_iff.mp hb).2
  have hml := (List.getElem?_eq_some_iff.mp hm).1
  have hm' := (List.getElem?_eq_some_iff.mp hm).2
  simp (disch := first | omega | (simp; done) | (simp; omega)) [ltT, ltF, leT, leF, eqT', eqF, ltTn, leTn, ltFn, leFn, wrapI, mid, c64]
  refine W_loopA (ι := List Nat) (fun s => ∀ i ∈ s, i < 6) (fun s => ⟨[(0, .ptr r 89 0 0), (2, .ptr h.length 23 0 0), (3, .ptr (h.length + 1) 23 0 0), (17, .iter (h.length + 3))],
    h ++ [.cells 23 [.d (encMo ⟨0, 0, 0, 0, 0, 0⟩)], .cells 23 [.d (encMo (momS fd s))], .map (toEs (h.length + 1)), .iter (h.length + 2) 6 s]⟩)
    mu6 [] (by simp) (Shift.slots' (by simp [toEs, momS, rdV]) (by simp)) ?_
  rintro s hs A hA
  simp (disch := first | omega | (simp; done) | (simp; omega)) [ltT, ltF, leT, leF, eqT', eqF, ltTn, leTn, ltFn, leFn, wrapI, mid]
  refine nextV_of (mb := h.length + 2) (cnt := 6) (seen := s) (es := toEs (h.length + 1)) (by simp) (by simp) rfl ?_ ?_
  · intro i k x hi hns
    have hi6 : i < 6 := (List.getElem?_eq_some_iff.mp hi).1
    have hs' : ∀ j ∈ s ++ [i], j < 6 := fun j hj => by
      rcases List.mem_append.mp hj with hj | hj
      · exact hs j hj
      · simp at hj; omega
    have h6 : i = 0 ∨ i = 1 ∨ i = 2 ∨ i = 3 ∨ i = 4 ∨ i = 5 := by omega
    rcases h6 with rfl | rfl | rfl | rfl | rfl | rfl
    · simp only [toEs, List.getElem?_cons_zero, List.getElem?_cons_succ, Option.some.injEq, Prod.mk.injEq] at hi
      obtain ⟨rfl, rfl⟩ := hi
      have hmu : mu6 (s ++ [0]) < mu6 s := by simp [mu6, hns]
      have hf : mapFind (.int .u8 89) (encFd fd) = some ((fdGet fd 89).map fun n => .d (.int .i64 n)) := mapFind_fd fd 89
      cases hq : fdGet fd 89 with
      | none =>
        rw [hq] at hf
        simp (disch := first | omega | (simp; done) | (simp; omega)) [ltT, ltF, leT, leF, eqT', eqF, ltTn, leTn, ltFn, leFn, wrapI, mid, hbl, hb', hml, hm', rdK, toEs, hf]
        exact hA (s ++ [0]) _ hs' hmu (Shift.slots' (by simp [toEs, momS, rdV, hq, hns]) (by simp))
      | some n =>
        rw [hq] at hf
        simp (disch := first | omega | (simp; done) | (simp; omega)) [ltT, ltF, leT, leF, eqT', eqF, ltTn, leTn, ltFn, leFn, wrapI, mid, hbl, hb', hml, hm', rdK, toEs, hf]
        exact hA (s ++ [0]) _ hs' hmu (Shift.slots' (by simp [toEs, momS, rdV, hq, hns]) (by simp))
    · simp only [toEs, List.getElem?_cons_zero, List.getElem?_cons_succ, Option.some.injEq, Prod.mk.injEq] at hi
      obtain ⟨rfl, rfl⟩ := hi
      have hmu : mu6 (s ++ [1]) < mu6 s := by simp [mu6, hns]
      have hf : mapFind (.int .u8 109) (encFd fd) = some ((fdGet fd 109).map fun n => .d (.int .i64 n)) := mapFind_fd fd 109
      cases hq : fdGet fd 109 with
      | none =>
        rw [hq] at hf
        simp (disch := first | omega | (simp; done) | (simp; omega)) [ltT, ltF, leT, leF, eqT', eqF, ltTn, leTn, ltFn, leFn, wrapI, mid, hbl, hb', hml, hm', rdK, toEs, hf]
        exact hA (s ++ [1]) _ hs' hmu (Shift.slots' (by simp [toEs, momS, rdV, hq, hns]) (by simp))
      | some n =>
        rw [hq] at hf
        simp (disch := first | omega | (simp; done) | (simp; omega)) [ltT, ltF, leT, leF, eqT', eqF, ltTn, leTn, ltFn, leFn, wrapI, mid, hbl, hb', hml, hm', rdK, toEs, hf]
        exact hA (s ++ [1]) _ hs' hmu (Shift.slots' (by simp [toEs, momS, rdV, hq, hns]) (by simp))
    · simp only [toEs, List.getElem?_cons_zero, List.getElem?_cons_succ, Option.some.injEq, Prod.mk.injEq] at hi
      obtain ⟨rfl, rfl⟩ := hi
      have hmu : mu6 (s ++ [2]) < mu6 s := by simp [mu6, hns]
      have hf : mapFind (.int .u8 100) (encFd fd) = some ((fdGet fd 100).map fun n => .d (.int .i64 n)) := mapFind_fd fd 100
      cases hq : fdGet fd 100 with
      | none =>
        rw [hq] at hf
        simp (disch := first | omega | (simp; done) | (simp; omega)) [ltT, ltF, leT, leF, eqT', eqF, ltTn, leTn, ltFn, leFn, wrapI, mid, hbl, hb', hml, hm', rdK, toEs, hf]
        exact hA (s ++ [2]) _ hs' hmu (Shift.slots' (by simp [toEs, momS, rdV, hq, hns]) (by simp))
      | some n =>
        rw [hq] at hf
        simp (disch := first | omega | (simp; done) | (simp; omega)) [ltT, ltF, leT, leF, eqT', eqF, ltTn, leTn, ltFn, leFn, wrapI, mid, hbl, hb', hml, hm', rdK, toEs, hf]
        exact hA (s ++ [2]) _ hs' hmu (Shift.slots' (by simp [toEs, momS, rdV, hq, hns]) (by simp))
    · simp only [toEs, List.getElem?_cons_zero, List.getElem?_cons_succ, Option.some.injEq, Prod.mk.injEq] at hi
      obtain ⟨rfl, rfl⟩ := hi
      have hmu : mu6 (s ++ [3]) < mu6 s := by simp [mu6, hns]
      have hf : mapFind (.int .u8 72) (encFd fd) = some ((fdGet fd 72).map fun n => .d (.int .i64 n)) := mapFind_fd fd 72
      cases hq : fdGet fd 72 with
      | none =>
        rw [hq] at hf
        simp (disch := first | omega | (simp; done) | (simp; omega)) [ltT, ltF, leT, leF, eqT', eqF, ltTn, leTn, ltFn, leFn, wrapI, mid, hbl, hb', hml, hm', rdK, toEs, hf]
        exact hA (s ++ [3]) _ hs' hmu (Shift.slots' (by simp [toEs, momS, rdV, hq, hns]) (by simp))
      | some n =>
        rw [hq] at hf
        simp (disch := first | omega | (simp; done) | (simp; omega)) [ltT, ltF, leT, leF, eqT', eqF, ltTn, leTn, ltFn, leFn, wrapI, mid, hbl, hb', hml, hm', rdK, toEs, hf]
        exact hA (s ++ [3]) _ hs' hmu (Shift.slots' (by simp [toEs, momS, rdV, hq, hns]) (by simp))
    · simp only [toEs, List.getElem?_cons_zero, List.getElem?_cons_succ, Option.some.injEq, Prod.mk.injEq] at hi
      obtain ⟨rfl, rfl⟩ := hi
      have hmu : mu6 (s ++ [4]) < mu6 s := by simp [mu6, hns]
      have hf : mapFind (.int .u8 77) (encFd fd) = some ((fdGet fd 77).map fun n => .d (.int .i64 n)) := mapFind_fd fd 77
      cases hq : fdGet fd 77 with
      | none =>
        rw [hq] at hf
        simp (disch := first | omega | (simp; done) | (simp; omega)) [ltT, ltF, leT, leF, eqT', eqF, ltTn, leTn, ltFn, leFn, wrapI, mid, hbl, hb', hml, hm', rdK, toEs, hf]
        exact hA (s ++ [4]) _ hs' hmu (Shift.slots' (by simp [toEs, momS, rdV, hq, hns]) (by simp))
      | some n =>
        rw [hq] at hf
        simp (disch := first | omega | (simp; done) | (simp; omega)) [ltT, ltF, leT, leF, eqT', eqF, ltTn, leTn, ltFn, leFn, wrapI, mid, hbl, hb', hml, hm', rdK, toEs, hf]
        exact hA (s ++ [4]) _ hs' hmu (Shift.slots' (by simp [toEs, momS, rdV, hq, hns]) (by simp))
    · simp only [toEs, List.getElem?_cons_zero, List.getElem?_cons_succ, Option.some.injEq, Prod.mk.injEq] at hi
      obtain ⟨rfl, rfl⟩ := hi
      have hmu : mu6 (s ++ [5]) < mu6 s := by simp [mu6, hns]
      have hf : mapFind (.int .u8 83) (encFd fd) = some ((fdGet fd 83).map fun n => .d (.int .i64 n)) := mapFind_fd fd 83
      cases hq : fdGet fd 83 with
      | none =>
        rw [hq] at hf
        simp (disch := first | omega | (simp; done) | (simp; omega)) [ltT, ltF, leT, leF, eqT', eqF, ltTn, leTn, ltFn, leFn, wrapI, mid, hbl, hb', hml, hm', rdK, toEs, hf]
        exact hA (s ++ [5]) _ hs' hmu (Shift.slots' (by simp [toEs, momS, rdV, hq, hns]) (by simp))
      | some n =>
        rw [hq] at hf
        simp (disch := first | omega | (simp; done) | (simp; omega)) [ltT, ltF, leT, leF, eqT', eqF, ltTn, leTn, ltFn, leFn, wrapI, mid, hbl, hb', hml, hm', rdK, toEs, hf]
        exact hA (s ++ [5]) _ hs' hmu (Shift.slots' (by simp [toEs, momS, rdV, hq, hns]) (by simp))
  · intro hall
    have hmom : momS fd s = momA fd := by
      simp [momS, momA, hall 0 (by simp [toEs]), hall 1 (by simp [toEs]), hall 2 (by simp [toEs]), hall 3 (by simp [toEs]), hall 4 (by simp [toEs]), hall 5 (by simp [toEs])]
    rw [hmom]
    simp (disch := first | omega | (simp; done) | (simp; omega)) [ltT, ltF, leT, leF, eqT', eqF, ltTn, leTn, ltFn, leFn, wrapI, mid]
    exact rshift_d hok

end Go.Vm
