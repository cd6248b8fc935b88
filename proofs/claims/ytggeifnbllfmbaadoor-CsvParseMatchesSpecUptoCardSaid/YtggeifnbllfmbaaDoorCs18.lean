/- csv: the reference's TableOf. -/
import Derived.Test.YtggeifnbllfmbaaDoorCs17
import Derived.Test.YtggeifnbllfmbaaDoorC1
namespace Go.Vm
open Proofs
set_option maxRecDepth 20000
set_option maxHeartbeats 1000000
set_option linter.unusedSimpArgs false

def tableOfS (text : List UInt8) (d : Dia) : List (List (List UInt8)) × (Int × Int) :=
  if (tabR d text [] [] [] 0).2.2 = true then
    if (tabFault (tabR d text [] [] [] 0).1 (-3)).1 ≠ 0 then ([], tabFault (tabR d text [] [] [] 0).1 (-3)) else ((tabR d text [] [] [] 0).1, (0, 0))
  else ([], (1, ((text.length - (tabR d text [] [] [] 0).2.1.length : Nat) : Int)))

def finR (n : Nat) (res : List (List (List UInt8)) × List UInt8 × Bool) : List (List (List UInt8)) × (Int × Int) :=
  if res.2.2 = true then (if (tabFault res.1 (-3)).1 ≠ 0 then ([], tabFault res.1 (-3)) else (res.1, (0, 0))) else ([], (1, ((n - res.2.1.length : Nat) : Int)))

/-- The row so far: nil, or a row that grows. -/
def rowAV (b : Nat) : List (List UInt8) → AV
  | [] => .d .nilsl
  | x :: l => .bl b 9 ((x :: l).map encS)
def rowBk : List (List UInt8) → List Blk
  | [] => []
  | x :: l => [.tail 9 (x :: l).length]

theorem hokT {h : List Blk} (hok : HOk h) {e1 e2 : TypeId} {x y : D} {m : Nat} {t2 : TypeId} : HOk (h ++ [.cells e1 [.d x], .cells e2 [.d y], .tail t2 m]) := by
  refine hok.append ?_
  intro z hz
  simp only [List.mem_cons, List.not_mem_nil, or_false] at hz
  rcases hz with rfl | rfl | rfl
  · exact bel_cellsD _ _ _
  · exact bel_cellsD _ _ _
  · trivial

theorem tableOf_V (text : List UInt8) (d : Dia) (hl : text.length ≤ 1048576) (h : List Blk) :
    CallP Tryd.prog 19 [.d (.str text), .d (encDia d)] h (.tup [.d (.sl 39 ((tableOfS text d).1.map encR)), .d (encF (tableOfS text d).2)]) := by
  refine callW tb_ok fn19m (by simp) (fun hok => ?_)
  obtain ⟨res, hres⟩ : ∃ res, tabR d text [] [] [] 0 = res := ⟨_, rfl⟩
  have hps : tableOfS text d = finR text.length res := by
    rw [tableOfS, finR, hres]
  rw [hps]
  simp (disch := first | omega | (simp; done) | (simp; omega)) [ltT, ltF, leT, leF, eqT', eqF, ltTn, leTn, ltFn, leFn, wrapI, mid, c19m]
  refine W_loopA (ι := List UInt8 × List UInt8 × List (List (List UInt8)) × List (List UInt8) × List UInt8 × Int)
    (fun p => p.1 ++ p.2.1 = text ∧ tabR d p.2.1 p.2.2.1 p.2.2.2.1 p.2.2.2.2.1 p.2.2.2.2.2 = res ∧ p.2.2.1.length ≤ p.1.length ∧ total p.2.2.1 + p.2.2.2.1.length ≤ 2 * p.1.length ∧ p.2.2.2.2.1.length ≤ p.1.length)
    (fun p => ⟨[(0, .d (.str text)), (3, .ptr h.length 24 0 0), (5, .ptr (h.length + 1) 26 0 0), (6, .bl (h.length + 2) 39 (p.2.2.1.map encR)), (7, rowAV (h.length + 3) p.2.2.2.1), (8, .d (.str p.2.2.2.2.1)), (9, .d (.int .i64 p.2.2.2.2.2)), (10, .d (.int .i64 p.1.length))],
      h ++ .cells 24 [.d (encDia d)] :: .cells 26 [.d (encF (0, 0))] :: .tail 39 p.2.2.1.length :: rowBk p.2.2.2.1⟩) (fun p => p.2.1.length) ([], text, [], [], [], 0) ⟨rfl, hres, by simp, by simp [total], by simp⟩
    ((Shift.nilbl (i := 6) 39 (by simp)).trans (Shift.slots' (by simp [rowBk]) (by simp [rowAV]))) ?_
  rintro ⟨P, rest, rows, row, cell, st⟩ ⟨hx, hc, hrl, htl, hcl⟩ A hA
  simp only at hx hc hrl htl hcl
  have hlen : text.length = P.length + rest.length := by rw [← hx]; simp
  cases rest with
  | nil =>
    clear hA
    simp only [List.append_nil] at hx
    subst hx
    simp only [tabR] at hc
    by_cases hst : st = 2 ∨ st = 4
    · rw [if_pos hst] at hc
      have hf : finR P.length res = (([] : List (List (List UInt8))), ((1, (P.length : Int)) : Int × Int)) := by rw [← hc]; simp [finR]
      rw [hf]
      by_cases s2 : st = 2
      · simp (disch := first | omega | (simp; done) | (simp; omega)) [ltT, ltF, leT, leF, eqT', eqF, ltTn, leTn, ltFn, leFn, wrapI, mid]
        refine (at_V _ _ _).useV ?_
        simp (disch := first | omega | (simp; done) | (simp; omega)) [ltT, ltF, leT, leF, eqT', eqF, ltTn, leTn, ltFn, leFn, wrapI, mid]
        exact RShift.subs ⟨.nil _, .refl _, trivial⟩ (by simp) hok (Nat.le_refl _)
      · have s4 : st = 4 := by omega
        simp (disch := first | omega | (simp; done) | (simp; omega)) [ltT, ltF, leT, leF, eqT', eqF, ltTn, leTn, ltFn, leFn, wrapI, mid]
        refine (at_V _ _ _).useV ?_
        simp (disch := first | omega | (simp; done) | (simp; omega)) [ltT, ltF, leT, leF, eqT', eqF, ltTn, leTn, ltFn, leFn, wrapI, mid]
        exact RShift.subs ⟨.nil _, .refl _, trivial⟩ (by simp) hok (Nat.le_refl _)
    rw [if_neg hst] at hc
    have s2 : ¬ st = 2 := fun h => hst (.inl h)
    have s4 : ¬ st = 4 := fun h => hst (.inr h)
    have fin : ∀ R : List (List (List UInt8)), (R, ([] : List UInt8), true) = res → finR P.length res = if (tabFault R (-3)).1 ≠ 0 then ([], tabFault R (-3)) else (R, (0, 0)) := by
      intro R hR; rw [← hR]; simp [finR]
    have call : ∀ R : List (List (List UInt8)), R.length ≤ P.length + 1 → total R ≤ 2 * P.length + 2 → ∀ g, CallP Tryd.prog 14 [.bl (h.length + 2) 39 (R.map encR), .d (.int .i64 (-3))] g (.d (encF (tabFault R (-3)))) :=
      fun R h1 h2 g => CallP.subs (tableFault_V R (-3) (by omega) (by omega) g) ⟨.bl _ _ _, .refl _, trivial⟩
    by_cases s0 : st = 0
    · cases row with
      | nil =>
        simp [s0] at hc
        simp only [List.length_nil] at htl
        rw [fin _ hc]
        have hcall := call rows (by omega) (by omega)
        simp (disch := first | omega | (simp; done) | (simp; omega)) [ltT, ltF, leT, leF, eqT', eqF, ltTn, leTn, ltFn, leFn, wrapI, mid, rowAV, rowBk]
        refine (hcall _).useV ?_
        by_cases h4 : (tabFault rows (-3)).1 ≠ 0
        · simp (disch := first | omega | (simp; done) | (simp; omega)) [ltT, ltF, leT, leF, eqT', eqF, ltTn, leTn, ltFn, leFn, wrapI, mid, h4]
          exact RShift.subs ⟨.nil _, .refl _, trivial⟩ (by simp) hok (Nat.le_refl _)
        · simp (disch := first | omega | (simp; done) | (simp; omega)) [ltT, ltF, leT, leF, eqT', eqF, ltTn, leTn, ltFn, leFn, wrapI, mid, h4]
          refine (at_V _ _ _).useV ?_
          simp (disch := first | omega | (simp; done) | (simp; omega)) [ltT, ltF, leT, leF, eqT', eqF, ltTn, leTn, ltFn, leFn, wrapI, mid]
          exact RShift.subs ⟨.bl _ _ _, .refl _, trivial⟩ (by simp) hok (Nat.le_refl _)
      | cons r0 rw0 =>
        simp [s0] at hc
        simp only [List.length_cons] at htl
        rw [fin _ hc]
        have hcall := call (rows ++ [r0 :: rw0]) (by simp; omega) (by simp [total_app, total]; omega)
        simp [encR] at hcall
        simp (disch := first | omega | (simp; done) | (simp; omega)) [ltT, ltF, leT, leF, eqT', eqF, ltTn, leTn, ltFn, leFn, wrapI, mid, rowAV, rowBk]
        refine (hcall _).useV ?_
        by_cases h4 : (tabFault (rows ++ [r0 :: rw0]) (-3)).1 ≠ 0
        · simp (disch := first | omega | (simp; done) | (simp; omega)) [ltT, ltF, leT, leF, eqT', eqF, ltTn, leTn, ltFn, leFn, wrapI, mid, h4]
          exact RShift.subs ⟨.nil _, .refl _, trivial⟩ (by simp) hok (Nat.le_refl _)
        · simp (disch := first | omega | (simp; done) | (simp; omega)) [ltT, ltF, leT, leF, eqT', eqF, ltTn, leTn, ltFn, leFn, wrapI, mid, h4]
          refine (at_V _ _ _).useV ?_
          simp (disch := first | omega | (simp; done) | (simp; omega)) [ltT, ltF, leT, leF, eqT', eqF, ltTn, leTn, ltFn, leFn, wrapI, mid, encR]
          exact RShift.subs ⟨.bl _ _ _, .refl _, trivial⟩ (by simp) hok (Nat.le_refl _)
    · cases row with
      | nil =>
        simp [s0] at hc
        simp only [List.length_nil] at htl
        rw [fin _ hc]
        have hcall := call (rows ++ [[cell]]) (by simp; omega) (by simp [total_app, total]; omega)
        simp [encR, encS] at hcall
        simp (disch := first | omega | (simp; done) | (simp; omega)) [ltT, ltF, leT, leF, eqT', eqF, ltTn, leTn, ltFn, leFn, wrapI, mid, rowAV, rowBk, s0]
        refine (hcall _).useV ?_
        by_cases h4 : (tabFault (rows ++ [[cell]]) (-3)).1 ≠ 0
        · simp (disch := first | omega | (simp; done) | (simp; omega)) [ltT, ltF, leT, leF, eqT', eqF, ltTn, leTn, ltFn, leFn, wrapI, mid, h4]
          exact RShift.subs ⟨.nil _, .refl _, trivial⟩ (by simp) hok (Nat.le_refl _)
        · simp (disch := first | omega | (simp; done) | (simp; omega)) [ltT, ltF, leT, leF, eqT', eqF, ltTn, leTn, ltFn, leFn, wrapI, mid, h4]
          refine (at_V _ _ _).useV ?_
          simp (disch := first | omega | (simp; done) | (simp; omega)) [ltT, ltF, leT, leF, eqT', eqF, ltTn, leTn, ltFn, leFn, wrapI, mid, encR, encS]
          exact RShift.subs ⟨.bl _ _ _, .refl _, trivial⟩ (by simp) hok (Nat.le_refl _)
      | cons r0 rw0 =>
        simp [s0] at hc
        simp only [List.length_cons] at htl
        rw [fin _ hc]
        have hcall := call (rows ++ [r0 :: (rw0 ++ [cell])]) (by simp; omega) (by simp [total_app, total]; omega)
        simp [encR, encS] at hcall
        simp (disch := first | omega | (simp; done) | (simp; omega)) [ltT, ltF, leT, leF, eqT', eqF, ltTn, leTn, ltFn, leFn, wrapI, mid, rowAV, rowBk, s0, encS]
        refine (hcall _).useV ?_
        by_cases h4 : (tabFault (rows ++ [r0 :: (rw0 ++ [cell])]) (-3)).1 ≠ 0
        · simp (disch := first | omega | (simp; done) | (simp; omega)) [ltT, ltF, leT, leF, eqT', eqF, ltTn, leTn, ltFn, leFn, wrapI, mid, h4]
          exact RShift.subs ⟨.nil _, .refl _, trivial⟩ (by simp) hok (Nat.le_refl _)
        · simp (disch := first | omega | (simp; done) | (simp; omega)) [ltT, ltF, leT, leF, eqT', eqF, ltTn, leTn, ltFn, leFn, wrapI, mid, h4]
          refine (at_V _ _ _).useV ?_
          simp (disch := first | omega | (simp; done) | (simp; omega)) [ltT, ltF, leT, leF, eqT', eqF, ltTn, leTn, ltFn, leFn, wrapI, mid, encR, encS]
          exact RShift.subs ⟨.bl _ _ _, .refl _, trivial⟩ (by simp) hok (Nat.le_refl _)
  | cons c l =>
    simp only [List.length_cons] at hlen
    subst hx
    rw [tabR] at hc
    by_cases s2 : st = 2
    · rw [if_pos s2] at hc
      by_cases hq : c = d.quote
      · rw [if_pos hq] at hc
        simp (disch := first | omega | (simp; done) | (simp; omega)) [ltT, ltF, leT, leF, eqT', eqF, ltTn, leTn, ltFn, leFn, wrapI, mid, u8_inj, u8_10, u8_13, eq_true hq]
        exact hA (P ++ [c], l, rows, row, cell, 3) _ ⟨by simp, hc, by simp; omega, by simp; omega, by simp; omega⟩ (by simp) (Shift.slots' rfl (by simp))
      · rw [if_neg hq] at hc
        simp (disch := first | omega | (simp; done) | (simp; omega)) [ltT, ltF, leT, leF, eqT', eqF, ltTn, leTn, ltFn, leFn, wrapI, mid, u8_inj, u8_10, u8_13, eq_false hq]
        exact hA (P ++ [c], l, rows, row, cell ++ [c], 2) _ ⟨by simp, hc, by simp; omega, by simp; omega, by simp; omega⟩ (by simp) (Shift.slots' rfl (by simp [s2]))
    rw [if_neg s2] at hc
    have err : ∀ (r : List UInt8), (([] : List (List (List UInt8))), r, false) = res → r = c :: l → finR (P ++ c :: l).length res = (([] : List (List (List UInt8))), ((1, (P.length : Int)) : Int × Int)) := by
      intro r hr hr2
      rw [← hr, hr2]
      simp [finR]
    by_cases s4 : st = 4 ∧ c ≠ 10
    · rw [if_pos s4] at hc
      rw [err _ hc rfl]
      obtain ⟨s4, h10⟩ := s4
      simp (disch := first | omega | (simp; done) | (simp; omega)) [ltT, ltF, leT, leF, eqT', eqF, ltTn, leTn, ltFn, leFn, wrapI, mid, u8_inj, u8_10, u8_13, eq_false h10]
      refine (at_V _ _ _).useV ?_
      simp (disch := first | omega | (simp; done) | (simp; omega)) [ltT, ltF, leT, leF, eqT', eqF, ltTn, leTn, ltFn, leFn, wrapI, mid]
      exact RShift.subs ⟨.nil _, .refl _, trivial⟩ (by simp) hok (Nat.le_refl _)
    rw [if_neg s4] at hc
    by_cases hsep : c = d.sep ∧ st ≠ 4
    · rw [if_pos hsep] at hc
      obtain ⟨hsep, s4'⟩ := hsep
      have s4c : ¬ (c ≠ 10 ∧ st = 4) := fun h => s4' h.2
      cases l with
      | nil =>
        simp only [if_true, List.length_nil] at hc hlen
        cases row with
        | nil =>
          simp (disch := first | omega | (simp; done) | (simp; omega)) [ltT, ltF, leT, leF, eqT', eqF, ltTn, leTn, ltFn, leFn, wrapI, mid, u8_inj, u8_10, u8_13, eq_true hsep, rowAV, rowBk]
          exact hA (P ++ [c], [], rows, [cell, []], [], 0) _ ⟨by simp, hc, by simp; omega, by simp; omega, by simp⟩ (by simp) (Shift.slots' (by simp [rowBk]) (by simp [rowAV, encS]))
        | cons r0 rw0 =>
          simp only [List.length_cons] at htl
          simp (disch := first | omega | (simp; done) | (simp; omega)) [ltT, ltF, leT, leF, eqT', eqF, ltTn, leTn, ltFn, leFn, wrapI, mid, u8_inj, u8_10, u8_13, eq_true hsep, rowAV, rowBk]
          exact hA (P ++ [c], [], rows, r0 :: (rw0 ++ [cell, []]), [], 0) _ ⟨by simp, by simpa using hc, by simp; omega, by simp; omega, by simp⟩ (by simp) (Shift.slots' (by simp [rowBk]) (by simp [rowAV, encS]))
      | cons e l =>
        simp only [List.length_cons] at hlen
        rw [if_neg (by simp)] at hc
        cases row with
        | nil =>
          simp (disch := first | omega | (simp; done) | (simp; omega)) [ltT, ltF, leT, leF, eqT', eqF, ltTn, leTn, ltFn, leFn, wrapI, mid, u8_inj, u8_10, u8_13, eq_true hsep, rowAV, rowBk]
          exact hA (P ++ [c], e :: l, rows, [cell], [], 0) _ ⟨by simp, hc, by simp; omega, by simp; omega, by simp⟩ (by simp) (Shift.slots' (by simp [rowBk]) (by simp [rowAV, encS]))
        | cons r0 rw0 =>
          simp only [List.length_cons] at htl
          simp (disch := first | omega | (simp; done) | (simp; omega)) [ltT, ltF, leT, leF, eqT', eqF, ltTn, leTn, ltFn, leFn, wrapI, mid, u8_inj, u8_10, u8_13, eq_true hsep, rowAV, rowBk]
          exact hA (P ++ [c], e :: l, rows, r0 :: (rw0 ++ [cell]), [], 0) _ ⟨by simp, by simpa using hc, by simp; omega, by simp; omega, by simp⟩ (by simp) (Shift.slots' (by simp [rowBk]) (by simp [rowAV, encS]))
    rw [if_neg hsep] at hc
    by_cases h10 : c = 10
    · rw [if_pos h10] at hc
      have hsc : ¬ ((c.toNat : Int) = (d.sep.toNat : Int) ∧ ¬ st = 4) := by rw [u8_inj]; exact hsep
      have hg : (decide ((c.toNat : Int) = (d.sep.toNat : Int))) = true → ¬ st = 4 → False := fun h h2 => hsc ⟨of_decide_eq_true h, h2⟩
      by_cases hse : c = d.sep
      · have s4' : st = 4 := Classical.byContradiction fun h => hsep ⟨hse, h⟩
        cases row with
        | nil =>
          simp (disch := first | omega | (simp; done) | (simp; omega)) [ltT, ltF, leT, leF, eqT', eqF, ltTn, leTn, ltFn, leFn, wrapI, mid, u8_inj, u8_10, u8_13, eq_true h10, eq_true hse, rowAV, rowBk]
          exact hA (P ++ [c], l, rows ++ [[cell]], [], [], 0) _ ⟨by simp, by simpa using hc, by simp; omega, by simp [total_app, total]; omega, by simp⟩ (by simp) (Shift.weak' (g := [.tail 9 1]) (by simp [rowBk]) (hokT hok) (by simp) (by simp [rowAV, encS, encR]))
        | cons r0 rw0 =>
          simp only [List.length_cons] at htl
          simp (disch := first | omega | (simp; done) | (simp; omega)) [ltT, ltF, leT, leF, eqT', eqF, ltTn, leTn, ltFn, leFn, wrapI, mid, u8_inj, u8_10, u8_13, eq_true h10, eq_true hse, rowAV, rowBk]
          exact hA (P ++ [c], l, rows ++ [r0 :: (rw0 ++ [cell])], [], [], 0) _ ⟨by simp, by simpa using hc, by simp; omega, by simp [total_app, total]; omega, by simp⟩ (by simp) (Shift.weak' (g := [.tail 9 (rw0.length + 2)]) (by simp [rowBk]) (hokT hok) (by simp) (by simp [rowAV, encS, encR]))
      · by_cases s4' : st = 4 <;>
        · cases row with
          | nil =>
            simp (disch := first | omega | (simp; done) | (simp; omega)) [ltT, ltF, leT, leF, eqT', eqF, ltTn, leTn, ltFn, leFn, wrapI, mid, u8_inj, u8_10, u8_13, eq_true h10, eq_false hse, rowAV, rowBk]
            exact hA (P ++ [c], l, rows ++ [[cell]], [], [], 0) _ ⟨by simp, by simpa using hc, by simp; omega, by simp [total_app, total]; omega, by simp⟩ (by simp) (Shift.weak' (g := [.tail 9 1]) (by simp [rowBk]) (hokT hok) (by simp) (by simp [rowAV, encS, encR]))
          | cons r0 rw0 =>
            simp only [List.length_cons] at htl
            simp (disch := first | omega | (simp; done) | (simp; omega)) [ltT, ltF, leT, leF, eqT', eqF, ltTn, leTn, ltFn, leFn, wrapI, mid, u8_inj, u8_10, u8_13, eq_true h10, eq_false hse, rowAV, rowBk]
            exact hA (P ++ [c], l, rows ++ [r0 :: (rw0 ++ [cell])], [], [], 0) _ ⟨by simp, by simpa using hc, by simp; omega, by simp [total_app, total]; omega, by simp⟩ (by simp) (Shift.weak' (g := [.tail 9 (rw0.length + 2)]) (by simp [rowBk]) (hokT hok) (by simp) (by simp [rowAV, encS, encR]))
    rw [if_neg h10] at hc
    have s4' : ¬ st = 4 := fun h => s4 ⟨h, h10⟩
    have hse : ¬ c = d.sep := fun h => hsep ⟨h, s4'⟩
    by_cases h13 : c = 13
    · rw [if_pos h13] at hc
      simp (disch := first | omega | (simp; done) | (simp; omega)) [ltT, ltF, leT, leF, eqT', eqF, ltTn, leTn, ltFn, leFn, wrapI, mid, u8_inj, u8_10, u8_13, eq_false h10, eq_false hse, eq_true h13]
      exact hA (P ++ [c], l, rows, row, cell, 4) _ ⟨by simp, hc, by simp; omega, by simp; omega, by simp; omega⟩ (by simp) (Shift.slots' rfl (by simp))
    rw [if_neg h13] at hc
    by_cases hq : c = d.quote
    · rw [if_pos hq] at hc
      by_cases s1 : st = 1
      · rw [if_pos s1] at hc
        rw [err _ hc rfl]
        simp (disch := first | omega | (simp; done) | (simp; omega)) [ltT, ltF, leT, leF, eqT', eqF, ltTn, leTn, ltFn, leFn, wrapI, mid, u8_inj, u8_10, u8_13, eq_false h10, eq_false hse, eq_false h13, eq_true hq]
        refine (at_V _ _ _).useV ?_
        simp (disch := first | omega | (simp; done) | (simp; omega)) [ltT, ltF, leT, leF, eqT', eqF, ltTn, leTn, ltFn, leFn, wrapI, mid]
        exact RShift.subs ⟨.nil _, .refl _, trivial⟩ (by simp) hok (Nat.le_refl _)
      · rw [if_neg s1] at hc
        by_cases s3 : st = 3
        · rw [if_pos s3] at hc
          simp (disch := first | omega | (simp; done) | (simp; omega)) [ltT, ltF, leT, leF, eqT', eqF, ltTn, leTn, ltFn, leFn, wrapI, mid, u8_inj, u8_10, u8_13, eq_false h10, eq_false hse, eq_false h13, eq_true hq]
          exact hA (P ++ [c], l, rows, row, cell ++ [c], 2) _ ⟨by simp, hc, by simp; omega, by simp; omega, by simp; omega⟩ (by simp) (Shift.slots' rfl (by simp))
        · rw [if_neg s3] at hc
          simp (disch := first | omega | (simp; done) | (simp; omega)) [ltT, ltF, leT, leF, eqT', eqF, ltTn, leTn, ltFn, leFn, wrapI, mid, u8_inj, u8_10, u8_13, eq_false h10, eq_false hse, eq_false h13, eq_true hq]
          exact hA (P ++ [c], l, rows, row, cell, 2) _ ⟨by simp, hc, by simp; omega, by simp; omega, by simp; omega⟩ (by simp) (Shift.slots' rfl (by simp))
    rw [if_neg hq] at hc
    by_cases s3 : st = 3
    · rw [if_pos s3] at hc
      rw [err _ hc rfl]
      simp (disch := first | omega | (simp; done) | (simp; omega)) [ltT, ltF, leT, leF, eqT', eqF, ltTn, leTn, ltFn, leFn, wrapI, mid, u8_inj, u8_10, u8_13, eq_false h10, eq_false hse, eq_false h13, eq_false hq]
      refine (at_V _ _ _).useV ?_
      simp (disch := first | omega | (simp; done) | (simp; omega)) [ltT, ltF, leT, leF, eqT', eqF, ltTn, leTn, ltFn, leFn, wrapI, mid]
      exact RShift.subs ⟨.nil _, .refl _, trivial⟩ (by simp) hok (Nat.le_refl _)
    · rw [if_neg s3] at hc
      simp (disch := first | omega | (simp; done) | (simp; omega)) [ltT, ltF, leT, leF, eqT', eqF, ltTn, leTn, ltFn, leFn, wrapI, mid, u8_inj, u8_10, u8_13, eq_false h10, eq_false hse, eq_false h13, eq_false hq]
      exact hA (P ++ [c], l, rows, row, cell ++ [c], 1) _ ⟨by simp, hc, by simp; omega, by simp; omega, by simp; omega⟩ (by simp) (Shift.slots' rfl (by simp))

end Go.Vm
