/- csv: the text of a table is parsed as the table. -/
import Derived.Test.YtggeifnbllfmbaaDoorCs12
namespace Go.Vm
open Proofs
set_option maxRecDepth 20000
set_option maxHeartbeats 1000000
set_option linter.unusedSimpArgs false

/-- What the reader asks of a dialect. -/
structure Dia.good (d : Dia) : Prop where
  ne : d.sep ≠ d.quote
  s10 : d.sep ≠ 10
  s13 : d.sep ≠ 13
  q10 : d.quote ≠ 10
  q13 : d.quote ≠ 13
theorem good_of {d : Dia} (h : ¬ (diaFault d).1 ≠ 0) : d.good := by
  unfold diaFault at h
  by_cases h1 : d.sep = d.quote ∨ isEnd d.sep = true ∨ isEnd d.quote = true
  · rw [if_pos h1] at h; simp at h
  · simp only [isEnd, Bool.or_eq_true, decide_eq_true_eq, not_or] at h1
    exact ⟨h1.1, h1.2.1.1, h1.2.1.2, h1.2.2.1, h1.2.2.2⟩
/-- The same separator and quote. -/
structure Dia.alike (d e : Dia) : Prop where
  sep : d.sep = e.sep
  quote : d.quote = e.quote

theorem quotedS_doubled (q : UInt8) (t : List UInt8) (ht : ∀ c l, t = c :: l → c ≠ q) : ∀ s : List UInt8, quotedS q (doubled q s ++ q :: t) = some (s, t)
  | [] => by
    simp only [doubled, List.flatMap_nil, List.nil_append]
    cases t with
    | nil => simp [quotedS]
    | cons c l => simp [quotedS, ht c l rfl]
  | c :: s => by
    have ih := quotedS_doubled q t ht s
    have hd : doubled q (c :: s) = (if c = q then [q, q] else [c]) ++ doubled q s := rfl
    rw [hd]
    by_cases h : c = q
    · rw [if_pos h]
      simp only [List.cons_append, List.nil_append, quotedS, if_true, ih, Option.map_some, h]
    · rw [if_neg h]
      simp only [List.cons_append, List.nil_append]
      rw [quotedS_cons _ h, ih]
      rfl
theorem plainS_plain (d : Dia) (t : List UInt8) (ht : endsS d t = true) : ∀ s : List UInt8, (∀ c ∈ s, special d c = false) → plainS d (s ++ t) = (s, t, true)
  | [], _ => by
    cases t with
    | nil => rfl
    | cons c l => rw [List.nil_append, plainS, if_pos ht]
  | c :: s, h => by
    have ih := plainS_plain d t ht s (fun x hx => h x (by simp [hx]))
    have hc := h c (by simp)
    simp only [special, Bool.or_eq_false_iff, decide_eq_false_iff_not] at hc
    rw [List.cons_append, plainS, if_neg (by simp [endsS, hc.1.1.1, hc.1.2, hc.2]), if_neg hc.1.1.2, ih]

theorem cellS_text {d0 d : Dia} (ha : d.alike d0) (hg : d0.good) (s t : List UInt8) (ht : endsS d t = true) (hne : t ≠ []) : cellS d (cellText d0 s ++ t) = (s, t, true) := by
  have hq : ∀ c l, t = c :: l → c ≠ d.quote := by
    intro c l e h
    subst e
    simp only [endsS, Bool.or_eq_true, decide_eq_true_eq] at ht
    rcases ht with (h1 | h1) | h1
    · exact hg.ne (by rw [← ha.sep, ← ha.quote, ← h1, h])
    · exact hg.q10 (by rw [← ha.quote, ← h, h1])
    · exact hg.q13 (by rw [← ha.quote, ← h, h1])
  unfold cellText
  split
  · rw [List.cons_append, cellS, if_pos ha.quote.symm, quotedR, List.append_assoc, ← ha.quote]
    simp only [List.singleton_append]
    rw [quotedS_doubled d.quote t hq s]
    simp [ht]
  · rename_i h
    simp only [Bool.or_eq_true, List.any_eq_true, not_or, not_exists, not_and, Bool.not_eq_true] at h
    have hs : ∀ c ∈ s, special d c = false := fun c hc => by
      have := h.2 c hc
      simpa [special, ha.sep, ha.quote] using this
    have hp := plainS_plain d t ht s hs
    rcases hst : s ++ t with _ | ⟨c, l⟩
    · simp at hst; exact absurd hst.2 hne
    · rw [cellS, if_neg, ← hst, hp]
      intro hc
      cases s with
      | nil => simp only [List.nil_append] at hst; exact hq c l hst hc
      | cons x s =>
        simp only [List.cons_append, List.cons.injEq] at hst
        have := hs x (by simp)
        simp only [special, Bool.or_eq_false_iff, decide_eq_false_iff_not] at this
        exact this.1.1.2 (by rw [hst.1, hc])

theorem rowFrom_succ (d : Dia) : ∀ (l : List (List UInt8)) (i : Nat), rowFrom d (i + 1) l = rowFrom d 1 l
  | [], _ => rfl
  | x :: l, i => by rw [rowFrom, rowFrom, rowFrom_succ d l (i + 1), rowFrom_succ d l 1]; simp
theorem rowS_text {d0 d : Dia} (ha : d.alike d0) (hg : d0.good) (t : List UInt8) : ∀ (l : List (List UInt8)) (x : List UInt8) (n : Nat), l.length < n → rowS n d (cellText d0 x ++ (rowFrom d0 1 l ++ (lineEnd d0 ++ t))) = (x :: l, t, true)
  | _, _, 0, h => by omega
  | [], x, n + 1, _ => by
    have he : endsS d (rowFrom d0 1 [] ++ (lineEnd d0 ++ t)) = true := by
      unfold lineEnd; cases d0.ret <;> simp [rowFrom, endsS]
    rw [rowS, cellS_text ha hg x _ he (by unfold lineEnd; simp [rowFrom])]
    have h1 : ¬ (10 : UInt8) = d.sep := fun e => hg.s10 (by rw [← ha.sep, ← e])
    have h2 : ¬ (13 : UInt8) = d.sep := fun e => hg.s13 (by rw [← ha.sep, ← e])
    unfold lineEnd
    cases d0.ret <;> simp [rowFrom, h1, h2, rowEnd]
  | y :: l, x, n + 1, h => by
    have ih := rowS_text ha hg t l y n (by simp only [List.length_cons] at h; omega)
    have e : rowFrom d0 1 (y :: l) ++ (lineEnd d0 ++ t) = d0.sep :: (cellText d0 y ++ (rowFrom d0 1 l ++ (lineEnd d0 ++ t))) := by
      rw [rowFrom, rowFrom_succ d0 l 1]; simp
    rw [e, rowS, cellS_text ha hg x _ (by simp [endsS, ha.sep]) (by simp)]
    simp only [← ha.sep, if_true, ih]

theorem rowFrom_ge (d : Dia) : ∀ (l : List (List UInt8)), l.length ≤ (rowFrom d 1 l).length
  | [] => by simp
  | x :: l => by
    have := rowFrom_ge d l
    rw [rowFrom, rowFrom_succ d l 1]
    simp only [List.length_append, List.length_cons]
    simp
    omega
theorem rowsS_text {d0 d : Dia} (ha : d.alike d0) (hg : d0.good) : ∀ (rows : List (List (List UInt8))) (n : Nat), (∀ r ∈ rows, ¬ r = []) → rows.length < n → rowsS n d (tableText d0 rows) = (rows, [], true)
  | _, 0, _, h => by omega
  | [], n + 1, _, _ => by simp [rowsS, tableText]
  | r :: rows, n + 1, hr, h => by
    have ih := rowsS_text ha hg rows n (fun r h => hr r (by simp [h])) (by simp only [List.length_cons] at h; omega)
    have e : tableText d0 (r :: rows) = rowText d0 r ++ tableText d0 rows := rfl
    cases r with
    | nil => exact absurd rfl (hr [] (by simp))
    | cons x l =>
      have e2 : rowText d0 (x :: l) ++ tableText d0 rows = cellText d0 x ++ (rowFrom d0 1 l ++ (lineEnd d0 ++ tableText d0 rows)) := by
        simp [rowText, rowFrom]
      have hln : 1 ≤ (lineEnd d0).length := by unfold lineEnd; simp
      have hge := rowFrom_ge d0 l
      rw [e, e2, rowsS, if_neg (by
        intro h0
        have := congrArg List.length h0
        simp only [List.length_append, List.length_nil] at this
        omega), rowS_text ha hg _ l x _ (by simp only [List.length_append]; omega)]
      simp only [ih]
theorem tableText_ge (d : Dia) : ∀ (rows : List (List (List UInt8))), rows.length ≤ (tableText d rows).length
  | [] => by simp
  | r :: rows => by
    have := tableText_ge d rows
    have e : tableText d (r :: rows) = rowText d r ++ tableText d rows := rfl
    have hln : 1 ≤ (lineEnd d).length := by unfold lineEnd; simp
    rw [e, rowText]
    simp only [List.length_append, List.length_cons]
    omega

theorem tabFault_at {rows : List (List (List UInt8))} {k k' : Int} (h : ¬ (tabFault rows k).1 ≠ 0) : ¬ (tabFault rows k').1 ≠ 0 := by
  unfold tabFault at h ⊢
  by_cases h1 : 200 < rows.length ∨ 1000 < total rows
  · rw [if_pos h1] at h; simp at h
  · rw [if_neg h1] at h ⊢; exact h

theorem parse_print {d d1 : Dia} {rows : List (List (List UInt8))} (ha : d1.alike d) (h : ¬ (printS rows d).2.1 ≠ 0) : parseS (tableText d rows) d1 = (rows, (0, 0)) := by
  obtain ⟨_, h1, h2, h3⟩ := printS_ok h
  have hg := good_of h1
  have hd : diaFault d1 = diaFault d := by unfold diaFault; rw [ha.sep, ha.quote]
  have hn := tabFault_none h2
  have hr := rowsS_text ha hg rows ((tableText d rows).length + 1) hn (by have := tableText_ge d rows; omega)
  rw [parseS, hd, if_neg h1, if_neg (by omega), hr]
  simp only [if_true]
  rw [if_neg (tabFault_at h2)]

theorem law6 (rows : List (List (List UInt8))) (d : Dia) (always ends : Bool) (hl : rows.length < 2000000) (ht : total rows < 2000000000000) (hrl : ∀ r ∈ rows, r.length < 1000000000) (hr : ∀ r ∈ rows, ∀ s ∈ r, s.length ≤ 1048576) (h : List Blk) :
    CallP Tryd.prog 6 [.d (.sl 39 (rows.map encR)), .d (encDia d), .d (.bool always), .d (.bool ends)] h (.d (.bool true)) := by
  refine callW tb_ok fn6 (by simp) (fun hok => ?_)
  simp (disch := first | omega | (simp; done) | (simp; omega)) [ltT, ltF, leT, leF, eqT', eqF, ltTn, leTn, ltFn, leFn, wrapI, mid, c6]
  refine (print_V rows d hl ht hr _).useV ?_
  by_cases h1 : (printS rows d).2.1 ≠ 0
  · have h2 : (printS rows d).1 = [] := by
      unfold printS at h1 ⊢
      split
      · rfl
      · rename_i a1
        rw [if_neg a1] at h1
        split
        · rfl
        · rename_i a2
          rw [if_neg a2] at h1
          split
          · rfl
          · rename_i a3
            rw [if_neg a3] at h1; simp at h1
    simp (disch := first | omega | (simp; done) | (simp; omega)) [ltT, ltF, leT, leF, eqT', eqF, ltTn, leTn, ltFn, leFn, wrapI, mid, h1, h2]
    refine (tabled_V _).useV ?_
    simp (disch := first | omega | (simp; done) | (simp; omega)) [ltT, ltF, leT, leF, eqT', eqF, ltTn, leTn, ltFn, leFn, wrapI, mid]
    exact rshift_d hok
  obtain ⟨ea, _, _, la⟩ := printS_ok h1
  have hp := parse_print (d := d) (d1 := ⟨d.sep, d.quote, always, ends⟩) (rows := rows) ⟨rfl, rfl⟩ h1
  clear h1
  rw [ea]
  simp (disch := first | omega | (simp; done) | (simp; omega)) [ltT, ltF, leT, leF, eqT', eqF, ltTn, leTn, ltFn, leFn, wrapI, mid]
  refine (parse_V (tableText d rows) ⟨d.sep, d.quote, always, ends⟩ (by omega) _).useV ?_
  rw [hp]
  simp (disch := first | omega | (simp; done) | (simp; omega)) [ltT, ltF, leT, leF, eqT', eqF, ltTn, leTn, ltFn, leFn, wrapI, mid]
  refine (sameTable_V rows rows _ (by omega) (by omega) hrl hrl).useV ?_
  simp (disch := first | omega | (simp; done) | (simp; omega)) [ltT, ltF, leT, leF, eqT', eqF, ltTn, leTn, ltFn, leFn, wrapI, mid]
  refine (tabled_V _).useV ?_
  simp (disch := first | omega | (simp; done) | (simp; omega)) [ltT, ltF, leT, leF, eqT', eqF, ltTn, leTn, ltFn, leFn, wrapI, mid]
  exact rshift_d hok

end Go.Vm
