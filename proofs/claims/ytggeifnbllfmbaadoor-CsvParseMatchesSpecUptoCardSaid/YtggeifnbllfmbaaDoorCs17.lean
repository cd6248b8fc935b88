/- csv: reading byte by byte is reading cell by cell. -/
import Derived.Test.YtggeifnbllfmbaaDoorCs14
namespace Go.Vm
set_option linter.unusedSimpArgs false

/-- Reading byte by byte: what is left of the text, the rows, the row and the cell so far, the state. -/
def tabR (d : Dia) : List UInt8 → List (List (List UInt8)) → List (List UInt8) → List UInt8 → Int → List (List (List UInt8)) × List UInt8 × Bool
  | [], rows, row, cell, st =>
    if st = 2 ∨ st = 4 then ([], [], false) else
    (if (if st ≠ 0 then row ++ [cell] else row) = [] then rows else rows ++ [if st ≠ 0 then row ++ [cell] else row], [], true)
  | c :: l, rows, row, cell, st =>
    if st = 2 then (if c = d.quote then tabR d l rows row cell 3 else tabR d l rows row (cell ++ [c]) 2)
    else if st = 4 ∧ c ≠ 10 then ([], c :: l, false)
    else if c = d.sep ∧ st ≠ 4 then tabR d l rows (if l = [] then row ++ [cell] ++ [[]] else row ++ [cell]) [] 0
    else if c = 10 then tabR d l (rows ++ [row ++ [cell]]) [] [] 0
    else if c = 13 then tabR d l rows row cell 4
    else if c = d.quote then (if st = 1 then ([], c :: l, false) else tabR d l rows row (if st = 3 then cell ++ [c] else cell) 2)
    else if st = 3 then ([], c :: l, false)
    else tabR d l rows row (cell ++ [c]) 1

def endC (d : Dia) (r : List UInt8) (rows : List (List (List UInt8))) (row : List (List UInt8)) (cell : List UInt8) : List (List (List UInt8)) × List UInt8 × Bool :=
  match r with
  | [] => (rows ++ [row ++ [cell]], [], true)
  | c :: l => if c = d.sep then tabR d l rows (if l = [] then row ++ [cell] ++ [[]] else row ++ [cell]) [] 0
    else if c = 10 then tabR d l (rows ++ [row ++ [cell]]) [] [] 0
    else match l with
      | [] => ([], [], false)
      | e :: l2 => if e = 10 then tabR d l2 (rows ++ [row ++ [cell]]) [] [] 0 else ([], e :: l2, false)

theorem tabR_end {d : Dia} (hg : d.good) (c : UInt8) (l : List UInt8) (rows : List (List (List UInt8))) (row : List (List UInt8)) (cell : List UInt8) (st : Int) (hst : st = 0 ∨ st = 1 ∨ st = 3) (he : endsS d (c :: l) = true) :
    tabR d (c :: l) rows row cell st = endC d (c :: l) rows row cell := by
  have s2 : ¬ st = 2 := by omega
  have s4 : ¬ st = 4 := by omega
  have s4' : ¬ (st = 4 ∧ c ≠ 10) := fun h => s4 h.1
  rw [tabR, if_neg s2, if_neg s4']
  simp only [endC]
  by_cases h1 : c = d.sep
  · rw [if_pos ⟨h1, s4⟩, if_pos h1]
  · rw [if_neg (fun h => h1 h.1), if_neg h1]
    by_cases h2 : c = 10
    · rw [if_pos h2, if_pos h2]
    · have h3 : c = 13 := by
        simp only [endsS, Bool.or_eq_true, decide_eq_true_eq] at he
        rcases he with (h | h) | h
        · exact absurd h h1
        · exact absurd h h2
        · exact h
      rw [if_neg h2, if_neg h2, if_pos h3]
      cases l with
      | nil => simp [tabR]
      | cons e l2 =>
        rw [tabR, if_neg (by omega)]
        by_cases h4 : e = 10
        · have h5 : ¬ e = d.sep := fun h => hg.s10 (by rw [← h, h4])
          simp [h4, hg.s10.symm]
        · simp [h4]
theorem tabR_quotes {d : Dia} (hg : d.good) (rows : List (List (List UInt8))) (row : List (List UInt8)) : ∀ (n : Nat) (l : List UInt8) (cell : List UInt8), l.length ≤ n →
    tabR d l rows row cell 2 = match quotedS d.quote l with
      | none => ([], [], false)
      | some (s, r) => tabR d r rows row (cell ++ s) 3
  | _, [], cell, _ => by simp [tabR, quotedS]
  | _, [c], cell, _ => by
    by_cases h : c = d.quote <;> simp [tabR, quotedS, h]
  | 0, _ :: _ :: _, _, h => by simp at h
  | n + 1, c :: e :: l, cell, hn => by
    simp only [List.length_cons] at hn
    by_cases h : c = d.quote
    · rw [tabR, if_pos rfl, if_pos h]
      by_cases h2 : e = d.quote
      · have ih := tabR_quotes hg rows row n l (cell ++ [e]) (by omega)
        have e1 : quotedS d.quote (c :: e :: l) = (quotedS d.quote l).map fun r => (d.quote :: r.1, r.2) := by simp [quotedS, h, h2]
        have h5 : ¬ e = d.sep := fun h => hg.ne (by rw [← h, h2])
        have h6 : ¬ e = 10 := fun h => hg.q10 (by rw [← h2, h])
        have h7 : ¬ e = 13 := fun h => hg.q13 (by rw [← h2, h])
        rw [e1, tabR, if_neg (by omega), if_neg (by omega), if_neg (fun h => h5 h.1), if_neg h6, if_neg h7, if_pos h2, if_neg (by omega), if_pos rfl, ih]
        cases quotedS d.quote l with
        | none => rfl
        | some x => simp [h2]
      · have e1 : quotedS d.quote (c :: e :: l) = some ([], e :: l) := by simp [quotedS, h, h2]
        rw [e1]
        simp
    · have ih := tabR_quotes hg rows row n (e :: l) (cell ++ [c]) (by simp; omega)
      rw [tabR, if_pos rfl, if_neg h, ih, quotedS_cons _ h]
      cases quotedS d.quote (e :: l) with
      | none => rfl
      | some x => simp
theorem quotedS_head {q : UInt8} : ∀ (n : Nat) (l s : List UInt8) (c : UInt8) (r : List UInt8), l.length ≤ n → quotedS q l = some (s, c :: r) → c ≠ q
  | _, [], s, c, r, _, h => by simp [quotedS] at h
  | _, [x], s, c, r, _, h => by by_cases h1 : x = q <;> simp [quotedS, h1] at h
  | 0, _ :: _ :: _, _, _, _, hn, _ => by simp at hn
  | n + 1, x :: e :: l, s, c, r, hn, h => by
    simp only [List.length_cons] at hn
    by_cases h1 : x = q
    · by_cases h2 : e = q
      · have e1 : quotedS q (x :: e :: l) = (quotedS q l).map fun r => (q :: r.1, r.2) := by simp [quotedS, h1, h2]
        rw [e1, Option.map_eq_some_iff] at h
        obtain ⟨⟨s1, r1⟩, h3, h4⟩ := h
        simp only [Prod.mk.injEq] at h4
        rw [h4.2] at h3
        exact quotedS_head n l s1 c r (by omega) h3
      · have e1 : quotedS q (x :: e :: l) = some ([], e :: l) := by simp [quotedS, h1, h2]
        rw [e1] at h
        simp only [Option.some.injEq, Prod.mk.injEq, List.cons.injEq] at h
        rw [← h.2.1]; exact h2
    · rw [quotedS_cons _ h1, Option.map_eq_some_iff] at h
      obtain ⟨⟨s1, r1⟩, h3, h4⟩ := h
      simp only [Prod.mk.injEq] at h4
      rw [h4.2] at h3
      exact quotedS_head n (e :: l) s1 c r (by simp; omega) h3
theorem tabR_plain {d : Dia} (hg : d.good) (rows : List (List (List UInt8))) (row : List (List UInt8)) : ∀ (l cell : List UInt8) (st : Int), (st = 1 ∨ (st = 0 ∧ ∃ c r, l = c :: r ∧ c ≠ d.quote)) →
    tabR d l rows row cell st = match plainS d l with
      | (s, r, true) => endC d r rows row (cell ++ s)
      | (_, r, false) => ([], r, false)
  | [], cell, st, h => by
    have h1 : st = 1 := by
      rcases h with h | ⟨_, c, r, h, _⟩
      · exact h
      · simp at h
    subst h1
    simp [tabR, plainS, endC]
  | c :: l, cell, st, h => by
    have hst : st = 0 ∨ st = 1 ∨ st = 3 := by rcases h with h | h <;> omega
    by_cases he : endsS d (c :: l) = true
    · rw [plainS, if_pos he, tabR_end hg c l rows row cell st hst he]
      simp
    · have he2 := he
      simp only [endsS, Bool.or_eq_true, decide_eq_true_eq, not_or] at he2
      rw [plainS, if_neg he]
      have s2 : ¬ st = 2 := by omega
      have s4' : ¬ (st = 4 ∧ c ≠ 10) := fun h => by omega
      rw [tabR, if_neg s2, if_neg s4', if_neg (fun h => he2.1.1 h.1), if_neg he2.1.2, if_neg he2.2]
      by_cases h2 : c = d.quote
      · rw [if_pos h2, if_pos h2]
        have h1 : st = 1 := by
          rcases h with h | ⟨_, c', r, h, h3⟩
          · exact h
          · simp only [List.cons.injEq] at h; exact absurd (by rw [← h.1, h2]) h3
        rw [if_pos h1]
      · have ih := tabR_plain hg rows row l (cell ++ [c]) 1 (.inl rfl)
        have s3 : ¬ st = 3 := by rcases h with h | h <;> omega
        rw [if_neg h2, if_neg h2, if_neg s3, ih]
        rcases plainS d l with ⟨s, r, b⟩
        cases b <;> simp
theorem plainS_ends (d : Dia) : ∀ (l s r : List UInt8), plainS d l = (s, r, true) → endsS d r = true
  | [], s, r, h => by simp only [plainS, Prod.mk.injEq] at h; rw [← h.2.1]; rfl
  | c :: l, s, r, h => by
    rw [plainS] at h
    by_cases he : endsS d (c :: l) = true
    · rw [if_pos he] at h; simp only [Prod.mk.injEq] at h; rw [← h.2.1]; exact he
    · rw [if_neg he] at h
      by_cases h2 : c = d.quote
      · rw [if_pos h2] at h; simp at h
      · rw [if_neg h2] at h
        rcases hp : plainS d l with ⟨s1, r1, b⟩
        rw [hp] at h
        cases b with
        | false => simp at h
        | true => simp only [Prod.mk.injEq] at h; rw [← h.2.1]; exact plainS_ends d l s1 r1 hp
/-- A cell at its beginning. -/
theorem tabR_cell {d : Dia} (hg : d.good) (rows : List (List (List UInt8))) (row : List (List UInt8)) (c : UInt8) (l : List UInt8) :
    tabR d (c :: l) rows row [] 0 = match cellS d (c :: l) with
      | (s, r, true) => endC d r rows row s
      | (_, r, false) => ([], r, false) := by
  rw [cellS]
  by_cases hq : c = d.quote
  · have h5 : ¬ c = d.sep := fun h => hg.ne (by rw [← h, hq])
    have h6 : ¬ c = 10 := fun h => hg.q10 (by rw [← hq, h])
    have h7 : ¬ c = 13 := fun h => hg.q13 (by rw [← hq, h])
    rw [if_pos hq, tabR, if_neg (by omega), if_neg (by omega), if_neg (fun h => h5 h.1), if_neg h6, if_neg h7, if_pos hq, if_neg (by omega), if_neg (by omega), tabR_quotes hg rows row l.length l [] (Nat.le_refl _), quotedR]
    rcases hx : quotedS d.quote l with _ | ⟨s, r⟩
    · rfl
    · simp only [List.nil_append]
      cases r with
      | nil => simp [endsS, endC, tabR]
      | cons e r =>
        have hne := quotedS_head l.length l s e r (Nat.le_refl _) hx
        cases he : endsS d (e :: r) with
        | true => exact tabR_end hg e r rows row s 3 (by omega) he
        | false =>
          simp only [endsS, Bool.or_eq_false_iff, decide_eq_false_iff_not] at he
          rw [tabR, if_neg (by omega), if_neg (by omega), if_neg (fun h => he.1.1 h.1), if_neg he.1.2, if_neg he.2, if_neg hne, if_pos rfl]
  · rw [if_neg hq, tabR_plain hg rows row (c :: l) [] 0 (.inr ⟨rfl, c, l, rfl, hq⟩)]
    rfl
theorem cellS_ends (d : Dia) : ∀ (l s r : List UInt8), cellS d l = (s, r, true) → endsS d r = true
  | [], s, r, h => by simp only [cellS, Prod.mk.injEq] at h; rw [← h.2.1]; rfl
  | c :: l, s, r, h => by
    rw [cellS] at h
    by_cases hq : c = d.quote
    · rw [if_pos hq, quotedR] at h
      rcases hx : quotedS d.quote l with _ | ⟨s1, r1⟩
      · rw [hx] at h; simp at h
      · rw [hx] at h; simp only [Prod.mk.injEq] at h; rw [← h.2.1]; exact h.2.2
    · rw [if_neg hq] at h; exact plainS_ends d _ s r h
theorem tabR_row {d : Dia} (hg : d.good) (rows : List (List (List UInt8))) : ∀ (n : Nat) (text : List UInt8) (row : List (List UInt8)), text ≠ [] → text.length < n →
    tabR d text rows row [] 0 = match rowS n d text with
      | (t, r, true) => tabR d r (rows ++ [row ++ t]) [] [] 0
      | (_, r, false) => ([], r, false)
  | 0, _, _, _, h => by omega
  | n + 1, [], _, h, _ => absurd rfl h
  | n + 1, c :: l, row, _, hn => by
    obtain ⟨p, hp⟩ := cellS_suffix d (c :: l)
    rw [tabR_cell hg, rowS]
    rcases hc : cellS d (c :: l) with ⟨s, r, ok⟩
    rw [hc] at hp
    simp only at hp
    cases ok with
    | false => rfl
    | true =>
      have he := cellS_ends d _ s r hc
      cases r with
      | nil => simp [endC, tabR]
      | cons e r =>
        have hlen : r.length < n := by
          have := congrArg List.length hp
          simp only [List.length_append, List.length_cons] at this hn
          omega
        simp only [endC]
        by_cases h1 : e = d.sep
        · simp only [if_pos h1]
          cases r with
          | nil =>
            obtain ⟨n, rfl⟩ : ∃ m, n = m + 1 := ⟨n - 1, by simp at hlen; omega⟩
            simp [rowS, cellS, tabR]
          | cons x r =>
            have ih := tabR_row hg rows n (x :: r) (row ++ [s]) (by simp) hlen
            simp only [List.cons_ne_nil, if_false, ih]
            rcases rowS n d (x :: r) with ⟨t, r2, ok2⟩
            cases ok2 <;> simp
        · simp only [if_neg h1]
          simp only [endsS, Bool.or_eq_true, decide_eq_true_eq] at he
          by_cases h2 : e = 10
          · have h3 : ¬ e = 13 := by rw [h2]; decide
            simp [h2, rowEnd]
          · have h3 : e = 13 := by
              rcases he with (h | h) | h
              · exact absurd h h1
              · exact absurd h h2
              · exact h
            simp only [if_neg h2]
            cases r with
            | nil => simp [rowEnd, h3]
            | cons x r =>
              by_cases h4 : x = 10 <;> simp [rowEnd, h3, h4]
theorem tabR_rows {d : Dia} (hg : d.good) : ∀ (n : Nat) (text : List UInt8) (rows : List (List (List UInt8))), text.length < n → tabR d text rows [] [] 0 = accRows rows (rowsS n d text)
  | 0, _, _, h => by omega
  | n + 1, [], rows, _ => by simp [tabR, rowsS, accRows]
  | n + 1, c :: l, rows, hn => by
    obtain ⟨p, hp, hp2⟩ := rowS_suffix d ((c :: l).length + 1) (c :: l)
    rw [tabR_row hg rows ((c :: l).length + 1) (c :: l) [] (by simp) (by omega), rowsS, if_neg (by simp)]
    rcases hr : rowS ((c :: l).length + 1) d (c :: l) with ⟨t, r, ok⟩
    rw [hr] at hp hp2
    simp only at hp hp2
    cases ok with
    | false => simp [accRows]
    | true =>
      have hpl : 0 < p.length := List.length_pos_iff.mpr ((hp2 rfl).2 (by simp))
      have hlen := congrArg List.length hp
      simp only [List.length_append] at hlen
      have ih := tabR_rows hg n r (rows ++ [t]) (by omega)
      simp only [List.nil_append, ih]
      rcases rowsS n d r with ⟨t2, r2, ok2⟩
      cases ok2 <;> simp [accRows]

end Go.Vm
