/- csv: Print. -/
import Derived.Test.YtggeifnbllfmbaaDoorCs3
namespace Go.Vm
open Proofs
set_option maxRecDepth 20000
set_option maxHeartbeats 1000000
set_option linter.unusedSimpArgs false

def printS (rows : List (List (List UInt8))) (d : Dia) : List UInt8 × (Int × Int) :=
  if (diaFault d).1 ≠ 0 then ([], diaFault d) else if (tabFault rows (-2)).1 ≠ 0 then ([], tabFault rows (-2)) else if 4000 < (tableText d rows).length then ([], (14, -3)) else (tableText d rows, (0, 0))

theorem tabFault_ok {rows : List (List (List UInt8))} {k : Int} (h : ¬ (tabFault rows k).1 ≠ 0) : tabFault rows k = (0, 0) ∧ rows.length ≤ 200 ∧ total rows ≤ 1000 := by
  unfold tabFault at h ⊢
  by_cases h1 : 200 < rows.length ∨ 1000 < total rows
  · simp [h1] at h
  · rw [if_neg h1] at h ⊢
    by_cases h2 : 0 ≤ idxFrom (fun r => decide (r = [])) 0 rows
    · simp [h2] at h
    · rw [if_neg h2]
      refine ⟨rfl, ?_, ?_⟩ <;> omega
theorem diaFault_ok {d : Dia} (h : ¬ (diaFault d).1 ≠ 0) : diaFault d = (0, 0) := by
  unfold diaFault at h ⊢
  split
  · rename_i h1; simp [h1] at h
  · rfl

theorem print_V (rows : List (List (List UInt8))) (d : Dia) (hl : rows.length < 2000000) (ht : total rows < 2000000000000) (hr : ∀ r ∈ rows, ∀ s ∈ r, s.length ≤ 1048576) (h : List Blk) :
    CallP Tryd.prog 11 [.d (.sl 39 (rows.map encR)), .d (encDia d)] h (.tup [.d (.str (printS rows d).1), .d (encF (printS rows d).2)]) := by
  refine callW tb_ok fn11 (by simp) (fun hok => ?_)
  simp (disch := first | omega | (simp; done) | (simp; omega)) [ltT, ltF, leT, leF, eqT', eqF, ltTn, leTn, ltFn, leFn, wrapI, mid, c11]
  refine (validate_V d _).useV ?_
  by_cases h1 : (diaFault d).1 ≠ 0
  · simp (disch := first | omega | (simp; done) | (simp; omega)) [ltT, ltF, leT, leF, eqT', eqF, ltTn, leTn, ltFn, leFn, wrapI, mid, h1, printS]
    exact RShift.drop (.refl _) (by simp) hok (Nat.le_refl _)
  simp (disch := first | omega | (simp; done) | (simp; omega)) [ltT, ltF, leT, leF, eqT', eqF, ltTn, leTn, ltFn, leFn, wrapI, mid, h1]
  refine (check_V rows _ hl (by omega) _).useV ?_
  by_cases h2 : (tabFault rows (-2)).1 ≠ 0
  · simp (disch := first | omega | (simp; done) | (simp; omega)) [ltT, ltF, leT, leF, eqT', eqF, ltTn, leTn, ltFn, leFn, wrapI, mid, h1, h2, printS]
    exact RShift.drop (.refl _) (by simp) hok (Nat.le_refl _)
  simp (disch := first | omega | (simp; done) | (simp; omega)) [ltT, ltF, leT, leF, eqT', eqF, ltTn, leTn, ltFn, leFn, wrapI, mid, h2]
  obtain ⟨hf, hl2, ht2⟩ := tabFault_ok h2
  have hd := diaFault_ok h1
  rw [hf, hd]
  obtain ⟨fs, hfs⟩ : ∃ fs, fs = [Blk.cells 24 [AV.d (encDia d)], Blk.cells 26 [AV.d (encF (0, 0))], Blk.cells 26 [AV.d (encF (0, 0))], Blk.cells 26 [AV.d (encF (0, 0))]] := ⟨_, rfl⟩
  refine W_loopA (ι := List (List (List UInt8)) × List (List (List UInt8)) × Bool) (fun p => p.1 ++ p.2.1 = rows ∧ (tableText d p.1).length ≤ 4000) (fun p => ⟨[(3, .ptr h.length 24 0 0), (5, .ptr (h.length + 1) 26 0 0), (8, .ptr (h.length + 4) 56 0 0), (25, .d (.sl 39 (rows.map encR))), (26, .d (.int .i64 rows.length)), (27, .d (.int .i64 p.1.length))],
    h ++ [.cells 24 [.d (encDia d)], .cells 26 [.d (encF (0, 0))], .cells 26 [.d (encF (0, 0))], .cells 26 [.d (encF (0, 0))], bldB (h.length + 4) (h.length + 5) p.2.2 (tableText d p.1), rowB (tableText d p.1)]⟩) (fun p => p.2.1.length) ([], rows, true) (by simp [tableText]) ?_ ?_
  · refine (Shift.openB (b := h.length + 4) (e := 5) (T := 56) (x := .d (.agg [.nilptr, .nilsl])) rfl (by simp) rfl).trans (Shift.slots' ?_ (by simp))
    simp [tableText, bldB, bcell, bufB, rowB]
  rintro ⟨pre, rest, fr⟩ ⟨hx, h4⟩ A hA
  simp only at hx h4
  cases rest with
  | nil =>
    simp only [List.append_nil] at hx
    subst hx
    simp (disch := first | omega | (simp; done) | (simp; omega)) [ltT, ltF, leT, leF, eqT', eqF, ltTn, leTn, ltFn, leFn, wrapI, mid]
    refine callV_of (string_V (b := h.length + 4) (k := h.length + 5) (fr := fr) (s := tableText d pre) (by simp) (by simp) (by omega)) ?_
    rintro _ _ ⟨rfl, rfl⟩
    simp (disch := first | omega | (simp; done) | (simp; omega)) [ltT, ltF, leT, leF, eqT', eqF, ltTn, leTn, ltFn, leFn, wrapI, mid, printS, h1, h2]
    exact RShift.drop (.refl _) (by simp) hok (Nat.le_refl _)
  | cons x rest =>
    subst hx
    have hr2 := hr x (by simp)
    rw [total_app] at ht2
    simp only [List.length_append, List.length_cons, total] at hl ht2
    simp (disch := first | omega | (simp; done) | (simp; omega)) [ltT, ltF, leT, leF, eqT', eqF, ltTn, leTn, ltFn, leFn, wrapI, mid, encR]
    refine W_loopA (ι := List (List UInt8) × List (List UInt8) × Bool) (fun p => p.1 ++ p.2.1 = x) (fun p => ⟨[(3, .ptr h.length 24 0 0), (5, .ptr (h.length + 1) 26 0 0), (8, .ptr (h.length + 4) 56 0 0), (25, .d (.sl 39 ((pre ++ x :: rest).map encR))), (26, .d (.int .i64 (pre ++ x :: rest).length)), (27, .d (.int .i64 pre.length)),
      (31, .d (encR x)), (32, .d (.int .i64 x.length)), (33, .d (.int .i64 p.1.length))],
      h ++ [.cells 24 [.d (encDia d)], .cells 26 [.d (encF (0, 0))], .cells 26 [.d (encF (0, 0))], .cells 26 [.d (encF (0, 0))], bldB (h.length + 4) (h.length + 5) p.2.2 (tableText d pre ++ rowFrom d 0 p.1), rowB (tableText d pre ++ rowFrom d 0 p.1)]⟩) (fun p => p.2.1.length) ([], x, fr) (by simp) (Shift.slots' (by simp [rowFrom]) (by simp [encR])) ?_
    rintro ⟨pr, rs, fr2⟩ hx2 A2 hA2
    simp only at hx2
    cases rs with
    | nil =>
      simp only [List.append_nil] at hx2
      subst hx2
      have hR := rowFrom_len d pr 0 hr2
      cases hret : d.ret with
      | true =>
        have hT : tableText d (pre ++ [pr]) = ((tableText d pre ++ rowFrom d 0 pr) ++ [13]) ++ [10] := by simp [tableText_app, tableText_one, lineEnd, hret]
        simp (disch := first | omega | (simp; done) | (simp; omega)) [ltT, ltF, leT, leF, eqT', eqF, ltTn, leTn, ltFn, leFn, wrapI, mid, hret]
        refine callV_of (writeByte_V (b := h.length + 4) (k := h.length + 5) (fr := fr2) (s := tableText d pre ++ rowFrom d 0 pr) 13 (by simp) (by simp) (by omega) (by simp only [List.length_append]; simp; omega)) ?_
        rintro _ _ ⟨rfl, rfl⟩
        simp (disch := first | omega | (simp; done) | (simp; omega)) [ltT, ltF, leT, leF, eqT', eqF, ltTn, leTn, ltFn, leFn, wrapI, mid]
        refine callV_of (writeByte_V (b := h.length + 4) (k := h.length + 5) (fr := false) (s := (tableText d pre ++ rowFrom d 0 pr) ++ [13]) 10 (by simp) (by simp) (by omega) (by simp only [List.length_append]; simp; omega)) ?_
        rintro _ _ ⟨rfl, rfl⟩
        simp (disch := first | omega | (simp; done) | (simp; omega)) [ltT, ltF, leT, leF, eqT', eqF, ltTn, leTn, ltFn, leFn, wrapI, mid]
        refine (len_V (b := h.length + 4) (k := h.length + 5) (fr := false) (s := ((tableText d pre ++ rowFrom d 0 pr) ++ [13]) ++ [10]) (by simp)).useV ?_
        by_cases h5 : 4000 < (tableText d (pre ++ [pr])).length
        · have h6 : 4000 < (tableText d (pre ++ pr :: rest)).length := by
            have : pre ++ pr :: rest = (pre ++ [pr]) ++ rest := by simp
            rw [this, tableText_app, List.length_append]; omega
          have h7 := hT ▸ h5
          simp only [List.length_append, List.length_cons, List.length_nil] at h7
          simp (disch := first | omega | (simp; done) | (simp; omega)) [ltT, ltF, leT, leF, eqT', eqF, ltTn, leTn, ltFn, leFn, wrapI, mid, printS, h1, h2, h6]
          exact RShift.drop (.refl _) (by simp) hok (Nat.le_refl _)
        · have h7 := hT ▸ h5
          simp only [List.length_append, List.length_cons, List.length_nil] at h7
          simp (disch := first | omega | (simp; done) | (simp; omega)) [ltT, ltF, leT, leF, eqT', eqF, ltTn, leTn, ltFn, leFn, wrapI, mid]
          exact hA (pre ++ [pr], rest, false) _ ⟨by simp, by simpa using h5⟩ (by simp) (Shift.slots' (by simp [hT]) (by simp [encR]))
      | false =>
        have hT : tableText d (pre ++ [pr]) = (tableText d pre ++ rowFrom d 0 pr) ++ [10] := by simp [tableText_app, tableText_one, lineEnd, hret]
        simp (disch := first | omega | (simp; done) | (simp; omega)) [ltT, ltF, leT, leF, eqT', eqF, ltTn, leTn, ltFn, leFn, wrapI, mid, hret]
        refine callV_of (writeByte_V (b := h.length + 4) (k := h.length + 5) (fr := fr2) (s := tableText d pre ++ rowFrom d 0 pr) 10 (by simp) (by simp) (by omega) (by simp only [List.length_append]; simp; omega)) ?_
        rintro _ _ ⟨rfl, rfl⟩
        simp (disch := first | omega | (simp; done) | (simp; omega)) [ltT, ltF, leT, leF, eqT', eqF, ltTn, leTn, ltFn, leFn, wrapI, mid]
        refine (len_V (b := h.length + 4) (k := h.length + 5) (fr := false) (s := (tableText d pre ++ rowFrom d 0 pr) ++ [10]) (by simp)).useV ?_
        by_cases h5 : 4000 < (tableText d (pre ++ [pr])).length
        · have h6 : 4000 < (tableText d (pre ++ pr :: rest)).length := by
            have : pre ++ pr :: rest = (pre ++ [pr]) ++ rest := by simp
            rw [this, tableText_app, List.length_append]; omega
          have h7 := hT ▸ h5
          simp only [List.length_append, List.length_cons, List.length_nil] at h7
          simp (disch := first | omega | (simp; done) | (simp; omega)) [ltT, ltF, leT, leF, eqT', eqF, ltTn, leTn, ltFn, leFn, wrapI, mid, printS, h1, h2, h6]
          exact RShift.drop (.refl _) (by simp) hok (Nat.le_refl _)
        · have h7 := hT ▸ h5
          simp only [List.length_append, List.length_cons, List.length_nil] at h7
          simp (disch := first | omega | (simp; done) | (simp; omega)) [ltT, ltF, leT, leF, eqT', eqF, ltTn, leTn, ltFn, leFn, wrapI, mid]
          exact hA (pre ++ [pr], rest, false) _ ⟨by simp, by simpa using h5⟩ (by simp) (Shift.slots' (by simp [hT]) (by simp [encR]))
    | cons s rs =>
      subst hx2
      have hs := hr2 s (by simp)
      have hc := cellText_len d s hs
      have hR := rowFrom_len d pr 0 (fun s h => hr2 s (by simp [h]))
      simp only [List.length_append, List.length_cons] at ht2
      by_cases h0 : pr.length = 0
      · simp (disch := first | omega | (simp; done) | (simp; omega)) [ltT, ltF, leT, leF, eqT', eqF, ltTn, leTn, ltFn, leFn, wrapI, mid, encR]
        refine (cell_V s d hs _).useV ?_
        simp (disch := first | omega | (simp; done) | (simp; omega)) [ltT, ltF, leT, leF, eqT', eqF, ltTn, leTn, ltFn, leFn, wrapI, mid]
        refine callV_of (writeString_V (b := h.length + 4) (k := h.length + 5) (fr := fr2) (s := tableText d pre ++ rowFrom d 0 pr) _ (by simp) (by simp) (by omega) (by simp only [List.length_append]; omega)) ?_
        rintro _ _ ⟨rfl, rfl⟩
        simp (disch := first | omega | (simp; done) | (simp; omega)) [ltT, ltF, leT, leF, eqT', eqF, ltTn, leTn, ltFn, leFn, wrapI, mid]
        exact hA2 (pr ++ [s], rs, false) _ (by simp) (by simp) (Shift.slots' (by simp [rowFrom_app, rowFrom_one, h0]) (by simp [encR]))
      · simp (disch := first | omega | (simp; done) | (simp; omega)) [ltT, ltF, leT, leF, eqT', eqF, ltTn, leTn, ltFn, leFn, wrapI, mid, encR]
        refine callV_of (writeByte_V (b := h.length + 4) (k := h.length + 5) (fr := fr2) (s := tableText d pre ++ rowFrom d 0 pr) _ (by simp) (by simp) (by omega) (by simp only [List.length_append]; omega)) ?_
        rintro _ _ ⟨rfl, rfl⟩
        simp (disch := first | omega | (simp; done) | (simp; omega)) [ltT, ltF, leT, leF, eqT', eqF, ltTn, leTn, ltFn, leFn, wrapI, mid]
        refine (cell_V s d hs _).useV ?_
        simp (disch := first | omega | (simp; done) | (simp; omega)) [ltT, ltF, leT, leF, eqT', eqF, ltTn, leTn, ltFn, leFn, wrapI, mid]
        refine callV_of (writeString_V (b := h.length + 4) (k := h.length + 5) (fr := false) (s := (tableText d pre ++ rowFrom d 0 pr) ++ [d.sep]) _ (by simp) (by simp) (by omega) (by simp only [List.length_append]; simp; omega)) ?_
        rintro _ _ ⟨rfl, rfl⟩
        simp (disch := first | omega | (simp; done) | (simp; omega)) [ltT, ltF, leT, leF, eqT', eqF, ltTn, leTn, ltFn, leFn, wrapI, mid]
        exact hA2 (pr ++ [s], rs, false) _ (by simp) (by simp) (Shift.slots' (by simp [rowFrom_app, rowFrom_one, h0]) (by simp [encR]))

end Go.Vm
