/- CsC: Cs12, Cs14, Cs17, C1, Cs18, Cs19. -/
import Derived.Test.YtggeifnbllfmbaaDoorCsB
import Derived.Test.YtggeifnbllfmbaaDoorVMd
import Derived.Test.YtggeifnbllfmbaaDoorProg
/- csv: the law of texts that join. -/
namespace Go.Vm
open Proofs
set_option maxRecDepth 20000
set_option maxHeartbeats 1000000
set_option linter.unusedSimpArgs false

theorem printS_ok {rows : List (List (List UInt8))} {d : Dia} (h : ¬ (printS rows d).2.1 ≠ 0) : printS rows d = (tableText d rows, (0, 0)) ∧ ¬ (diaFault d).1 ≠ 0 ∧ ¬ (tabFault rows (-2)).1 ≠ 0 ∧ (tableText d rows).length ≤ 4000 := by
  unfold printS at h ⊢
  by_cases h1 : (diaFault d).1 ≠ 0
  · rw [if_pos h1] at h; exact absurd h1 h
  rw [if_neg h1] at h ⊢
  by_cases h2 : (tabFault rows (-2)).1 ≠ 0
  · rw [if_pos h2] at h; exact absurd h2 h
  rw [if_neg h2] at h ⊢
  by_cases h3 : 4000 < (tableText d rows).length
  · rw [if_pos h3] at h; simp at h
  rw [if_neg h3]
  exact ⟨rfl, h1, h2, by omega⟩

theorem idxFrom_neg {α : Type} {p : α → Bool} : ∀ {l : List α} {n : Nat}, (¬ 0 ≤ idxFrom p n l) ↔ ∀ x ∈ l, ¬ p x = true
  | [], n => by simp [idxFrom]
  | x :: l, n => by
    rw [idxFrom]
    by_cases h : p x = true
    · rw [if_pos h]
      constructor
      · intro h1; omega
      · intro h1; exact absurd h (h1 x (by simp))
    · rw [if_neg h, idxFrom_neg (l := l)]
      constructor
      · intro h1 y hy
        rcases List.mem_cons.mp hy with rfl | hy
        · exact h
        · exact h1 y hy
      · intro h1 y hy; exact h1 y (by simp [hy])
theorem tabFault_none {rows : List (List (List UInt8))} {k : Int} (h : ¬ (tabFault rows k).1 ≠ 0) : ∀ r ∈ rows, ¬ r = [] := by
  unfold tabFault at h
  by_cases h1 : 200 < rows.length ∨ 1000 < total rows
  · rw [if_pos h1] at h; simp at h
  · rw [if_neg h1] at h
    by_cases h2 : 0 ≤ idxFrom (fun r => decide (r = [])) 0 rows
    · rw [if_pos h2] at h; simp at h
    · intro r hr
      have := idxFrom_neg.mp h2 r hr
      simpa using this
theorem tabFault_join {a b : List (List (List UInt8))} {k : Int} (ha : ∀ r ∈ a, ¬ r = []) (hb : ∀ r ∈ b, ¬ r = []) : tabFault (a ++ b) k = (2, k) ∨ tabFault (a ++ b) k = (0, 0) := by
  unfold tabFault
  by_cases h1 : 200 < (a ++ b).length ∨ 1000 < total (a ++ b)
  · rw [if_pos h1]; exact .inl rfl
  · rw [if_neg h1, if_neg]
    · exact .inr rfl
    · rw [idxFrom_neg]
      intro r hr
      rcases List.mem_append.mp hr with hr | hr
      · simpa using ha r hr
      · simpa using hb r hr

theorem law7 (a b : List (List (List UInt8))) (d : Dia) (hl : a.length < 2000000) (ht : total a < 2000000000000) (hr : ∀ r ∈ a, ∀ s ∈ r, s.length ≤ 1048576)
    (hl2 : b.length < 2000000) (ht2 : total b < 2000000000000) (hr2 : ∀ r ∈ b, ∀ s ∈ r, s.length ≤ 1048576) (h : List Blk) :
    CallP Tryd.prog 7 [.d (.sl 39 (a.map encR)), .d (.sl 39 (b.map encR)), .d (encDia d)] h (.d (.bool true)) := by
  refine callW tb_ok fn7 (by simp) (fun hok => ?_)
  simp (disch := first | omega | (simp; done) | (simp; omega)) [ltT, ltF, leT, leF, eqT', eqF, ltTn, leTn, ltFn, leFn, wrapI, mid, c7]
  refine (print_V a d hl ht hr _).useV ?_
  simp (disch := first | omega | (simp; done) | (simp; omega)) [ltT, ltF, leT, leF, eqT', eqF, ltTn, leTn, ltFn, leFn, wrapI, mid]
  refine (print_V b d hl2 ht2 hr2 _).useV ?_
  by_cases h1 : (printS a d).2.1 ≠ 0
  · simp (disch := first | omega | (simp; done) | (simp; omega)) [ltT, ltF, leT, leF, eqT', eqF, ltTn, leTn, ltFn, leFn, wrapI, mid, h1]
    refine (tabled_V _).useV ?_
    simp (disch := first | omega | (simp; done) | (simp; omega)) [ltT, ltF, leT, leF, eqT', eqF, ltTn, leTn, ltFn, leFn, wrapI, mid]
    exact rshift_d hok
  by_cases h2 : (printS b d).2.1 ≠ 0
  · simp (disch := first | omega | (simp; done) | (simp; omega)) [ltT, ltF, leT, leF, eqT', eqF, ltTn, leTn, ltFn, leFn, wrapI, mid, h1, h2]
    refine (tabled_V _).useV ?_
    simp (disch := first | omega | (simp; done) | (simp; omega)) [ltT, ltF, leT, leF, eqT', eqF, ltTn, leTn, ltFn, leFn, wrapI, mid]
    exact rshift_d hok
  obtain ⟨ea, d1, f1, la⟩ := printS_ok h1
  obtain ⟨eb, _, f2, lb⟩ := printS_ok h2
  obtain ⟨_, ra, ta⟩ := tabFault_ok f1
  obtain ⟨_, rb, tb'⟩ := tabFault_ok f2
  clear h1 h2
  rw [ea, eb]
  simp (disch := first | omega | (simp; done) | (simp; omega)) [ltT, ltF, leT, leF, eqT', eqF, ltTn, leTn, ltFn, leFn, wrapI, mid]
  have hcall := print_V (a ++ b) d (by simp; omega) (by rw [total_app]; omega) (fun r hr' => by rcases List.mem_append.mp hr' with h | h; exact hr r h; exact hr2 r h)
  have hjoin : (printS (a ++ b) d = ([], (2, -2)) ∨ printS (a ++ b) d = ([], (14, -3))) ∨ printS (a ++ b) d = (tableText d a ++ tableText d b, (0, 0)) := by
    unfold printS
    rw [if_neg d1]
    rcases tabFault_join (k := -2) (tabFault_none f1) (tabFault_none f2) with e | e
    · rw [e]; exact .inl (.inl rfl)
    · rw [e, if_neg (by simp)]
      split
      · exact .inl (.inr rfl)
      · rw [tableText_app]; exact .inr rfl
  simp only [List.map_append] at hcall
  refine CallP.useV (CallP.subs (hcall _) ⟨.bl _ _ _, .refl _, trivial⟩) ?_
  rcases hjoin with (e | e) | e
  · rw [e]
    simp (disch := first | omega | (simp; done) | (simp; omega)) [ltT, ltF, leT, leF, eqT', eqF, ltTn, leTn, ltFn, leFn, wrapI, mid]
    refine (tabled_V _).useV ?_
    simp (disch := first | omega | (simp; done) | (simp; omega)) [ltT, ltF, leT, leF, eqT', eqF, ltTn, leTn, ltFn, leFn, wrapI, mid]
    exact rshift_d hok
  · rw [e]
    simp (disch := first | omega | (simp; done) | (simp; omega)) [ltT, ltF, leT, leF, eqT', eqF, ltTn, leTn, ltFn, leFn, wrapI, mid]
    refine (tabled_V _).useV ?_
    simp (disch := first | omega | (simp; done) | (simp; omega)) [ltT, ltF, leT, leF, eqT', eqF, ltTn, leTn, ltFn, leFn, wrapI, mid]
    exact rshift_d hok
  · rw [e]
    simp (disch := first | omega | (simp; done) | (simp; omega)) [ltT, ltF, leT, leF, eqT', eqF, ltTn, leTn, ltFn, leFn, wrapI, mid]
    refine (tabled_V _).useV ?_
    simp (disch := first | omega | (simp; done) | (simp; omega)) [ltT, ltF, leT, leF, eqT', eqF, ltTn, leTn, ltFn, leFn, wrapI, mid]
    exact rshift_d hok

end Go.Vm

/- csv: the text of a table is parsed as the table. -/
namespace Go.Vm
open Proofs
set_option maxRecDepth 20000
set_option maxHeartbeats 1000000
set_option linter.unusedSimpArgs false

/-- What the reader asks of a dialect. -/
structure Dia.good (d : Dia) : Prop where
  ne : d.sep ≠ d.quote
  s10 : d.sep ≠ 10
  s13 : d.sep ≠ 13
  q10 : d.quote ≠ 10
  q13 : d.quote ≠ 13
theorem good_of {d : Dia} (h : ¬ (diaFault d).1 ≠ 0) : d.good := by
  unfold diaFault at h
  by_cases h1 : d.sep = d.quote ∨ isEnd d.sep = true ∨ isEnd d.quote = true
  · rw [if_pos h1] at h; simp at h
  · simp only [isEnd, Bool.or_eq_true, decide_eq_true_eq, not_or] at h1
    exact ⟨h1.1, h1.2.1.1, h1.2.1.2, h1.2.2.1, h1.2.2.2⟩
/-- The same separator and quote. -/
structure Dia.alike (d e : Dia) : Prop where
  sep : d.sep = e.sep
  quote : d.quote = e.quote

theorem quotedS_doubled (q : UInt8) (t : List UInt8) (ht : ∀ c l, t = c :: l → c ≠ q) : ∀ s : List UInt8, quotedS q (doubled q s ++ q :: t) = some (s, t)
  | [] => by
    simp only [doubled, List.flatMap_nil, List.nil_append]
    cases t with
    | nil => simp [quotedS]
    | cons c l => simp [quotedS, ht c l rfl]
  | c :: s => by
    have ih := quotedS_doubled q t ht s
    have hd : doubled q (c :: s) = (if c = q then [q, q] else [c]) ++ doubled q s := rfl
    rw [hd]
    by_cases h : c = q
    · rw [if_pos h]
      simp only [List.cons_append, List.nil_append, quotedS, if_true, ih, Option.map_some, h]
    · rw [if_neg h]
      simp only [List.cons_append, List.nil_append]
      rw [quotedS_cons _ h, ih]
      rfl
theorem plainS_plain (d : Dia) (t : List UInt8) (ht : endsS d t = true) : ∀ s : List UInt8, (∀ c ∈ s, special d c = false) → plainS d (s ++ t) = (s, t, true)
  | [], _ => by
    cases t with
    | nil => rfl
    | cons c l => rw [List.nil_append, plainS, if_pos ht]
  | c :: s, h => by
    have ih := plainS_plain d t ht s (fun x hx => h x (by simp [hx]))
    have hc := h c (by simp)
    simp only [special, Bool.or_eq_false_iff, decide_eq_false_iff_not] at hc
    rw [List.cons_append, plainS, if_neg (by simp [endsS, hc.1.1.1, hc.1.2, hc.2]), if_neg hc.1.1.2, ih]

theorem cellS_text {d0 d : Dia} (ha : d.alike d0) (hg : d0.good) (s t : List UInt8) (ht : endsS d t = true) (hne : t ≠ []) : cellS d (cellText d0 s ++ t) = (s, t, true) := by
  have hq : ∀ c l, t = c :: l → c ≠ d.quote := by
    intro c l e h
    subst e
    simp only [endsS, Bool.or_eq_true, decide_eq_true_eq] at ht
    rcases ht with (h1 | h1) | h1
    · exact hg.ne (by rw [← ha.sep, ← ha.quote, ← h1, h])
    · exact hg.q10 (by rw [← ha.quote, ← h, h1])
    · exact hg.q13 (by rw [← ha.quote, ← h, h1])
  unfold cellText
  split
  · rw [List.cons_append, cellS, if_pos ha.quote.symm, quotedR, List.append_assoc, ← ha.quote]
    simp only [List.singleton_append]
    rw [quotedS_doubled d.quote t hq s]
    simp [ht]
  · rename_i h
    simp only [Bool.or_eq_true, List.any_eq_true, not_or, not_exists, not_and, Bool.not_eq_true] at h
    have hs : ∀ c ∈ s, special d c = false := fun c hc => by
      have := h.2 c hc
      simpa [special, ha.sep, ha.quote] using this
    have hp := plainS_plain d t ht s hs
    rcases hst : s ++ t with _ | ⟨c, l⟩
    · simp at hst; exact absurd hst.2 hne
    · rw [cellS, if_neg, ← hst, hp]
      intro hc
      cases s with
      | nil => simp only [List.nil_append] at hst; exact hq c l hst hc
      | cons x s =>
        simp only [List.cons_append, List.cons.injEq] at hst
        have := hs x (by simp)
        simp only [special, Bool.or_eq_false_iff, decide_eq_false_iff_not] at this
        exact this.1.1.2 (by rw [hst.1, hc])

theorem rowFrom_succ (d : Dia) : ∀ (l : List (List UInt8)) (i : Nat), rowFrom d (i + 1) l = rowFrom d 1 l
  | [], _ => rfl
  | x :: l, i => by rw [rowFrom, rowFrom, rowFrom_succ d l (i + 1), rowFrom_succ d l 1]; simp
theorem rowS_text {d0 d : Dia} (ha : d.alike d0) (hg : d0.good) (t : List UInt8) : ∀ (l : List (List UInt8)) (x : List UInt8) (n : Nat), l.length < n → rowS n d (cellText d0 x ++ (rowFrom d0 1 l ++ (lineEnd d0 ++ t))) = (x :: l, t, true)
  | _, _, 0, h => by omega
  | [], x, n + 1, _ => by
    have he : endsS d (rowFrom d0 1 [] ++ (lineEnd d0 ++ t)) = true := by
      unfold lineEnd; cases d0.ret <;> simp [rowFrom, endsS]
    rw [rowS, cellS_text ha hg x _ he (by unfold lineEnd; simp [rowFrom])]
    have h1 : ¬ (10 : UInt8) = d.sep := fun e => hg.s10 (by rw [← ha.sep, ← e])
    have h2 : ¬ (13 : UInt8) = d.sep := fun e => hg.s13 (by rw [← ha.sep, ← e])
    unfold lineEnd
    cases d0.ret <;> simp [rowFrom, h1, h2, rowEnd]
  | y :: l, x, n + 1, h => by
    have ih := rowS_text ha hg t l y n (by simp only [List.length_cons] at h; omega)
    have e : rowFrom d0 1 (y :: l) ++ (lineEnd d0 ++ t) = d0.sep :: (cellText d0 y ++ (rowFrom d0 1 l ++ (lineEnd d0 ++ t))) := by
      rw [rowFrom, rowFrom_succ d0 l 1]; simp
    rw [e, rowS, cellS_text ha hg x _ (by simp [endsS, ha.sep]) (by simp)]
    simp only [← ha.sep, if_true, ih]

theorem rowFrom_ge (d : Dia) : ∀ (l : List (List UInt8)), l.length ≤ (rowFrom d 1 l).length
  | [] => by simp
  | x :: l => by
    have := rowFrom_ge d l
    rw [rowFrom, rowFrom_succ d l 1]
    simp only [List.length_append, List.length_cons]
    simp
    omega
theorem rowsS_text {d0 d : Dia} (ha : d.alike d0) (hg : d0.good) : ∀ (rows : List (List (List UInt8))) (n : Nat), (∀ r ∈ rows, ¬ r = []) → rows.length < n → rowsS n d (tableText d0 rows) = (rows, [], true)
  | _, 0, _, h => by omega
  | [], n + 1, _, _ => by simp [rowsS, tableText]
  | r :: rows, n + 1, hr, h => by
    have ih := rowsS_text ha hg rows n (fun r h => hr r (by simp [h])) (by simp only [List.length_cons] at h; omega)
    have e : tableText d0 (r :: rows) = rowText d0 r ++ tableText d0 rows := rfl
    cases r with
    | nil => exact absurd rfl (hr [] (by simp))
    | cons x l =>
      have e2 : rowText d0 (x :: l) ++ tableText d0 rows = cellText d0 x ++ (rowFrom d0 1 l ++ (lineEnd d0 ++ tableText d0 rows)) := by
        simp [rowText, rowFrom]
      have hln : 1 ≤ (lineEnd d0).length := by unfold lineEnd; simp
      have hge := rowFrom_ge d0 l
      rw [e, e2, rowsS, if_neg (by
        intro h0
        have := congrArg List.length h0
        simp only [List.length_append, List.length_nil] at this
        omega), rowS_text ha hg _ l x _ (by simp only [List.length_append]; omega)]
      simp only [ih]
theorem tableText_ge (d : Dia) : ∀ (rows : List (List (List UInt8))), rows.length ≤ (tableText d rows).length
  | [] => by simp
  | r :: rows => by
    have := tableText_ge d rows
    have e : tableText d (r :: rows) = rowText d r ++ tableText d rows := rfl
    have hln : 1 ≤ (lineEnd d).length := by unfold lineEnd; simp
    rw [e, rowText]
    simp only [List.length_append, List.length_cons]
    omega

theorem tabFault_at {rows : List (List (List UInt8))} {k k' : Int} (h : ¬ (tabFault rows k).1 ≠ 0) : ¬ (tabFault rows k').1 ≠ 0 := by
  unfold tabFault at h ⊢
  by_cases h1 : 200 < rows.length ∨ 1000 < total rows
  · rw [if_pos h1] at h; simp at h
  · rw [if_neg h1] at h ⊢; exact h

theorem parse_print {d d1 : Dia} {rows : List (List (List UInt8))} (ha : d1.alike d) (h : ¬ (printS rows d).2.1 ≠ 0) : parseS (tableText d rows) d1 = (rows, (0, 0)) := by
  obtain ⟨_, h1, h2, h3⟩ := printS_ok h
  have hg := good_of h1
  have hd : diaFault d1 = diaFault d := by unfold diaFault; rw [ha.sep, ha.quote]
  have hn := tabFault_none h2
  have hr := rowsS_text ha hg rows ((tableText d rows).length + 1) hn (by have := tableText_ge d rows; omega)
  rw [parseS, hd, if_neg h1, if_neg (by omega), hr]
  simp only [if_true]
  rw [if_neg (tabFault_at h2)]

theorem law6 (rows : List (List (List UInt8))) (d : Dia) (always ends : Bool) (hl : rows.length < 2000000) (ht : total rows < 2000000000000) (hrl : ∀ r ∈ rows, r.length < 1000000000) (hr : ∀ r ∈ rows, ∀ s ∈ r, s.length ≤ 1048576) (h : List Blk) :
    CallP Tryd.prog 6 [.d (.sl 39 (rows.map encR)), .d (encDia d), .d (.bool always), .d (.bool ends)] h (.d (.bool true)) := by
  refine callW tb_ok fn6 (by simp) (fun hok => ?_)
  simp (disch := first | omega | (simp; done) | (simp; omega)) [ltT, ltF, leT, leF, eqT', eqF, ltTn, leTn, ltFn, leFn, wrapI, mid, c6]
  refine (print_V rows d hl ht hr _).useV ?_
  by_cases h1 : (printS rows d).2.1 ≠ 0
  · have h2 : (printS rows d).1 = [] := by
      unfold printS at h1 ⊢
      split
      · rfl
      · rename_i a1
        rw [if_neg a1] at h1
        split
        · rfl
        · rename_i a2
          rw [if_neg a2] at h1
          split
          · rfl
          · rename_i a3
            rw [if_neg a3] at h1; simp at h1
    simp (disch := first | omega | (simp; done) | (simp; omega)) [ltT, ltF, leT, leF, eqT', eqF, ltTn, leTn, ltFn, leFn, wrapI, mid, h1, h2]
    refine (tabled_V _).useV ?_
    simp (disch := first | omega | (simp; done) | (simp; omega)) [ltT, ltF, leT, leF, eqT', eqF, ltTn, leTn, ltFn, leFn, wrapI, mid]
    exact rshift_d hok
  obtain ⟨ea, _, _, la⟩ := printS_ok h1
  have hp := parse_print (d := d) (d1 := ⟨d.sep, d.quote, always, ends⟩) (rows := rows) ⟨rfl, rfl⟩ h1
  clear h1
  rw [ea]
  simp (disch := first | omega | (simp; done) | (simp; omega)) [ltT, ltF, leT, leF, eqT', eqF, ltTn, leTn, ltFn, leFn, wrapI, mid]
  refine (parse_V (tableText d rows) ⟨d.sep, d.quote, always, ends⟩ (by omega) _).useV ?_
  rw [hp]
  simp (disch := first | omega | (simp; done) | (simp; omega)) [ltT, ltF, leT, leF, eqT', eqF, ltTn, leTn, ltFn, leFn, wrapI, mid]
  refine (sameTable_V rows rows _ (by omega) (by omega) hrl hrl).useV ?_
  simp (disch := first | omega | (simp; done) | (simp; omega)) [ltT, ltF, leT, leF, eqT', eqF, ltTn, leTn, ltFn, leFn, wrapI, mid]
  refine (tabled_V _).useV ?_
  simp (disch := first | omega | (simp; done) | (simp; omega)) [ltT, ltF, leT, leF, eqT', eqF, ltTn, leTn, ltFn, leFn, wrapI, mid]
  exact rshift_d hok

end Go.Vm

/- csv: reading byte by byte is reading cell by cell. -/
namespace Go.Vm
set_option linter.unusedSimpArgs false

/-- Reading byte by byte: what is left of the text, the rows, the row and the cell so far, the state. -/
def tabR (d : Dia) : List UInt8 → List (List (List UInt8)) → List (List UInt8) → List UInt8 → Int → List (List (List UInt8)) × List UInt8 × Bool
  | [], rows, row, cell, st =>
    if st = 2 ∨ st = 4 then ([], [], false) else
    (if (if st ≠ 0 then row ++ [cell] else row) = [] then rows else rows ++ [if st ≠ 0 then row ++ [cell] else row], [], true)
  | c :: l, rows, row, cell, st =>
    if st = 2 then (if c = d.quote then tabR d l rows row cell 3 else tabR d l rows row (cell ++ [c]) 2)
    else if st = 4 ∧ c ≠ 10 then ([], c :: l, false)
    else if c = d.sep ∧ st ≠ 4 then tabR d l rows (if l = [] then row ++ [cell] ++ [[]] else row ++ [cell]) [] 0
    else if c = 10 then tabR d l (rows ++ [row ++ [cell]]) [] [] 0
    else if c = 13 then tabR d l rows row cell 4
    else if c = d.quote then (if st = 1 then ([], c :: l, false) else tabR d l rows row (if st = 3 then cell ++ [c] else cell) 2)
    else if st = 3 then ([], c :: l, false)
    else tabR d l rows row (cell ++ [c]) 1

def endC (d : Dia) (r : List UInt8) (rows : List (List (List UInt8))) (row : List (List UInt8)) (cell : List UInt8) : List (List (List UInt8)) × List UInt8 × Bool :=
  match r with
  | [] => (rows ++ [row ++ [cell]], [], true)
  | c :: l => if c = d.sep then tabR d l rows (if l = [] then row ++ [cell] ++ [[]] else row ++ [cell]) [] 0
    else if c = 10 then tabR d l (rows ++ [row ++ [cell]]) [] [] 0
    else match l with
      | [] => ([], [], false)
      | e :: l2 => if e = 10 then tabR d l2 (rows ++ [row ++ [cell]]) [] [] 0 else ([], e :: l2, false)

theorem tabR_end {d : Dia} (hg : d.good) (c : UInt8) (l : List UInt8) (rows : List (List (List UInt8))) (row : List (List UInt8)) (cell : List UInt8) (st : Int) (hst : st = 0 ∨ st = 1 ∨ st = 3) (he : endsS d (c :: l) = true) :
    tabR d (c :: l) rows row cell st = endC d (c :: l) rows row cell := by
  have s2 : ¬ st = 2 := by omega
  have s4 : ¬ st = 4 := by omega
  have s4' : ¬ (st = 4 ∧ c ≠ 10) := fun h => s4 h.1
  rw [tabR, if_neg s2, if_neg s4']
  simp only [endC]
  by_cases h1 : c = d.sep
  · rw [if_pos ⟨h1, s4⟩, if_pos h1]
  · rw [if_neg (fun h => h1 h.1), if_neg h1]
    by_cases h2 : c = 10
    · rw [if_pos h2, if_pos h2]
    · have h3 : c = 13 := by
        simp only [endsS, Bool.or_eq_true, decide_eq_true_eq] at he
        rcases he with (h | h) | h
        · exact absurd h h1
        · exact absurd h h2
        · exact h
      rw [if_neg h2, if_neg h2, if_pos h3]
      cases l with
      | nil => simp [tabR]
      | cons e l2 =>
        rw [tabR, if_neg (by omega)]
        by_cases h4 : e = 10
        · have h5 : ¬ e = d.sep := fun h => hg.s10 (by rw [← h, h4])
          simp [h4, hg.s10.symm]
        · simp [h4]
theorem tabR_quotes {d : Dia} (hg : d.good) (rows : List (List (List UInt8))) (row : List (List UInt8)) : ∀ (n : Nat) (l : List UInt8) (cell : List UInt8), l.length ≤ n →
    tabR d l rows row cell 2 = match quotedS d.quote l with
      | none => ([], [], false)
      | some (s, r) => tabR d r rows row (cell ++ s) 3
  | _, [], cell, _ => by simp [tabR, quotedS]
  | _, [c], cell, _ => by
    by_cases h : c = d.quote <;> simp [tabR, quotedS, h]
  | 0, _ :: _ :: _, _, h => by simp at h
  | n + 1, c :: e :: l, cell, hn => by
    simp only [List.length_cons] at hn
    by_cases h : c = d.quote
    · rw [tabR, if_pos rfl, if_pos h]
      by_cases h2 : e = d.quote
      · have ih := tabR_quotes hg rows row n l (cell ++ [e]) (by omega)
        have e1 : quotedS d.quote (c :: e :: l) = (quotedS d.quote l).map fun r => (d.quote :: r.1, r.2) := by simp [quotedS, h, h2]
        have h5 : ¬ e = d.sep := fun h => hg.ne (by rw [← h, h2])
        have h6 : ¬ e = 10 := fun h => hg.q10 (by rw [← h2, h])
        have h7 : ¬ e = 13 := fun h => hg.q13 (by rw [← h2, h])
        rw [e1, tabR, if_neg (by omega), if_neg (by omega), if_neg (fun h => h5 h.1), if_neg h6, if_neg h7, if_pos h2, if_neg (by omega), if_pos rfl, ih]
        cases quotedS d.quote l with
        | none => rfl
        | some x => simp [h2]
      · have e1 : quotedS d.quote (c :: e :: l) = some ([], e :: l) := by simp [quotedS, h, h2]
        rw [e1]
        simp
    · have ih := tabR_quotes hg rows row n (e :: l) (cell ++ [c]) (by simp; omega)
      rw [tabR, if_pos rfl, if_neg h, ih, quotedS_cons _ h]
      cases quotedS d.quote (e :: l) with
      | none => rfl
      | some x => simp
theorem quotedS_head {q : UInt8} : ∀ (n : Nat) (l s : List UInt8) (c : UInt8) (r : List UInt8), l.length ≤ n → quotedS q l = some (s, c :: r) → c ≠ q
  | _, [], s, c, r, _, h => by simp [quotedS] at h
  | _, [x], s, c, r, _, h => by by_cases h1 : x = q <;> simp [quotedS, h1] at h
  | 0, _ :: _ :: _, _, _, _, hn, _ => by simp at hn
  | n + 1, x :: e :: l, s, c, r, hn, h => by
    simp only [List.length_cons] at hn
    by_cases h1 : x = q
    · by_cases h2 : e = q
      · have e1 : quotedS q (x :: e :: l) = (quotedS q l).map fun r => (q :: r.1, r.2) := by simp [quotedS, h1, h2]
        rw [e1, Option.map_eq_some_iff] at h
        obtain ⟨⟨s1, r1⟩, h3, h4⟩ := h
        simp only [Prod.mk.injEq] at h4
        rw [h4.2] at h3
        exact quotedS_head n l s1 c r (by omega) h3
      · have e1 : quotedS q (x :: e :: l) = some ([], e :: l) := by simp [quotedS, h1, h2]
        rw [e1] at h
        simp only [Option.some.injEq, Prod.mk.injEq, List.cons.injEq] at h
        rw [← h.2.1]; exact h2
    · rw [quotedS_cons _ h1, Option.map_eq_some_iff] at h
      obtain ⟨⟨s1, r1⟩, h3, h4⟩ := h
      simp only [Prod.mk.injEq] at h4
      rw [h4.2] at h3
      exact quotedS_head n (e :: l) s1 c r (by simp; omega) h3
theorem tabR_plain {d : Dia} (hg : d.good) (rows : List (List (List UInt8))) (row : List (List UInt8)) : ∀ (l cell : List UInt8) (st : Int), (st = 1 ∨ (st = 0 ∧ ∃ c r, l = c :: r ∧ c ≠ d.quote)) →
    tabR d l rows row cell st = match plainS d l with
      | (s, r, true) => endC d r rows row (cell ++ s)
      | (_, r, false) => ([], r, false)
  | [], cell, st, h => by
    have h1 : st = 1 := by
      rcases h with h | ⟨_, c, r, h, _⟩
      · exact h
      · simp at h
    subst h1
    simp [tabR, plainS, endC]
  | c :: l, cell, st, h => by
    have hst : st = 0 ∨ st = 1 ∨ st = 3 := by rcases h with h | h <;> omega
    by_cases he : endsS d (c :: l) = true
    · rw [plainS, if_pos he, tabR_end hg c l rows row cell st hst he]
      simp
    · have he2 := he
      simp only [endsS, Bool.or_eq_true, decide_eq_true_eq, not_or] at he2
      rw [plainS, if_neg he]
      have s2 : ¬ st = 2 := by omega
      have s4' : ¬ (st = 4 ∧ c ≠ 10) := fun h => by omega
      rw [tabR, if_neg s2, if_neg s4', if_neg (fun h => he2.1.1 h.1), if_neg he2.1.2, if_neg he2.2]
      by_cases h2 : c = d.quote
      · rw [if_pos h2, if_pos h2]
        have h1 : st = 1 := by
          rcases h with h | ⟨_, c', r, h, h3⟩
          · exact h
          · simp only [List.cons.injEq] at h; exact absurd (by rw [← h.1, h2]) h3
        rw [if_pos h1]
      · have ih := tabR_plain hg rows row l (cell ++ [c]) 1 (.inl rfl)
        have s3 : ¬ st = 3 := by rcases h with h | h <;> omega
        rw [if_neg h2, if_neg h2, if_neg s3, ih]
        rcases plainS d l with ⟨s, r, b⟩
        cases b <;> simp
theorem plainS_ends (d : Dia) : ∀ (l s r : List UInt8), plainS d l = (s, r, true) → endsS d r = true
  | [], s, r, h => by simp only [plainS, Prod.mk.injEq] at h; rw [← h.2.1]; rfl
  | c :: l, s, r, h => by
    rw [plainS] at h
    by_cases he : endsS d (c :: l) = true
    · rw [if_pos he] at h; simp only [Prod.mk.injEq] at h; rw [← h.2.1]; exact he
    · rw [if_neg he] at h
      by_cases h2 : c = d.quote
      · rw [if_pos h2] at h; simp at h
      · rw [if_neg h2] at h
        rcases hp : plainS d l with ⟨s1, r1, b⟩
        rw [hp] at h
        cases b with
        | false => simp at h
        | true => simp only [Prod.mk.injEq] at h; rw [← h.2.1]; exact plainS_ends d l s1 r1 hp
/-- A cell at its beginning. -/
theorem tabR_cell {d : Dia} (hg : d.good) (rows : List (List (List UInt8))) (row : List (List UInt8)) (c : UInt8) (l : List UInt8) :
    tabR d (c :: l) rows row [] 0 = match cellS d (c :: l) with
      | (s, r, true) => endC d r rows row s
      | (_, r, false) => ([], r, false) := by
  rw [cellS]
  by_cases hq : c = d.quote
  · have h5 : ¬ c = d.sep := fun h => hg.ne (by rw [← h, hq])
    have h6 : ¬ c = 10 := fun h => hg.q10 (by rw [← hq, h])
    have h7 : ¬ c = 13 := fun h => hg.q13 (by rw [← hq, h])
    rw [if_pos hq, tabR, if_neg (by omega), if_neg (by omega), if_neg (fun h => h5 h.1), if_neg h6, if_neg h7, if_pos hq, if_neg (by omega), if_neg (by omega), tabR_quotes hg rows row l.length l [] (Nat.le_refl _), quotedR]
    rcases hx : quotedS d.quote l with _ | ⟨s, r⟩
    · rfl
    · simp only [List.nil_append]
      cases r with
      | nil => simp [endsS, endC, tabR]
      | cons e r =>
        have hne := quotedS_head l.length l s e r (Nat.le_refl _) hx
        cases he : endsS d (e :: r) with
        | true => exact tabR_end hg e r rows row s 3 (by omega) he
        | false =>
          simp only [endsS, Bool.or_eq_false_iff, decide_eq_false_iff_not] at he
          rw [tabR, if_neg (by omega), if_neg (by omega), if_neg (fun h => he.1.1 h.1), if_neg he.1.2, if_neg he.2, if_neg hne, if_pos rfl]
  · rw [if_neg hq, tabR_plain hg rows row (c :: l) [] 0 (.inr ⟨rfl, c, l, rfl, hq⟩)]
    rfl
theorem cellS_ends (d : Dia) : ∀ (l s r : List UInt8), cellS d l = (s, r, true) → endsS d r = true
  | [], s, r, h => by simp only [cellS, Prod.mk.injEq] at h; rw [← h.2.1]; rfl
  | c :: l, s, r, h => by
    rw [cellS] at h
    by_cases hq : c = d.quote
    · rw [if_pos hq, quotedR] at h
      rcases hx : quotedS d.quote l with _ | ⟨s1, r1⟩
      · rw [hx] at h; simp at h
      · rw [hx] at h; simp only [Prod.mk.injEq] at h; rw [← h.2.1]; exact h.2.2
    · rw [if_neg hq] at h; exact plainS_ends d _ s r h
theorem tabR_row {d : Dia} (hg : d.good) (rows : List (List (List UInt8))) : ∀ (n : Nat) (text : List UInt8) (row : List (List UInt8)), text ≠ [] → text.length < n →
    tabR d text rows row [] 0 = match rowS n d text with
      | (t, r, true) => tabR d r (rows ++ [row ++ t]) [] [] 0
      | (_, r, false) => ([], r, false)
  | 0, _, _, _, h => by omega
  | n + 1, [], _, h, _ => absurd rfl h
  | n + 1, c :: l, row, _, hn => by
    obtain ⟨p, hp⟩ := cellS_suffix d (c :: l)
    rw [tabR_cell hg, rowS]
    rcases hc : cellS d (c :: l) with ⟨s, r, ok⟩
    rw [hc] at hp
    simp only at hp
    cases ok with
    | false => rfl
    | true =>
      have he := cellS_ends d _ s r hc
      cases r with
      | nil => simp [endC, tabR]
      | cons e r =>
        have hlen : r.length < n := by
          have := congrArg List.length hp
          simp only [List.length_append, List.length_cons] at this hn
          omega
        simp only [endC]
        by_cases h1 : e = d.sep
        · simp only [if_pos h1]
          cases r with
          | nil =>
            obtain ⟨n, rfl⟩ : ∃ m, n = m + 1 := ⟨n - 1, by simp at hlen; omega⟩
            simp [rowS, cellS, tabR]
          | cons x r =>
            have ih := tabR_row hg rows n (x :: r) (row ++ [s]) (by simp) hlen
            simp only [List.cons_ne_nil, if_false, ih]
            rcases rowS n d (x :: r) with ⟨t, r2, ok2⟩
            cases ok2 <;> simp
        · simp only [if_neg h1]
          simp only [endsS, Bool.or_eq_true, decide_eq_true_eq] at he
          by_cases h2 : e = 10
          · have h3 : ¬ e = 13 := by rw [h2]; decide
            simp [h2, rowEnd]
          · have h3 : e = 13 := by
              rcases he with (h | h) | h
              · exact absurd h h1
              · exact absurd h h2
              · exact h
            simp only [if_neg h2]
            cases r with
            | nil => simp [rowEnd, h3]
            | cons x r =>
              by_cases h4 : x = 10 <;> simp [rowEnd, h3, h4]
theorem tabR_rows {d : Dia} (hg : d.good) : ∀ (n : Nat) (text : List UInt8) (rows : List (List (List UInt8))), text.length < n → tabR d text rows [] [] 0 = accRows rows (rowsS n d text)
  | 0, _, _, h => by omega
  | n + 1, [], rows, _ => by simp [tabR, rowsS, accRows]
  | n + 1, c :: l, rows, hn => by
    obtain ⟨p, hp, hp2⟩ := rowS_suffix d ((c :: l).length + 1) (c :: l)
    rw [tabR_row hg rows ((c :: l).length + 1) (c :: l) [] (by simp) (by omega), rowsS, if_neg (by simp)]
    rcases hr : rowS ((c :: l).length + 1) d (c :: l) with ⟨t, r, ok⟩
    rw [hr] at hp hp2
    simp only at hp hp2
    cases ok with
    | false => simp [accRows]
    | true =>
      have hpl : 0 < p.length := List.length_pos_iff.mpr ((hp2 rfl).2 (by simp))
      have hlen := congrArg List.length hp
      simp only [List.length_append] at hlen
      have ih := tabR_rows hg n r (rows ++ [t]) (by omega)
      simp only [List.nil_append, ih]
      rcases rowsS n d r with ⟨t2, r2, ok2⟩
      cases ok2 <;> simp [accRows]

end Go.Vm

/- The stripped codes of some functions, by program (gen.py). -/
namespace Go.Vm
set_option maxRecDepth 20000

/-- brindlewood/brindlewoodref5.TableOf -/
def c19m : VC := (.seq (.reg [⟨(some 3), (.box 24 (.tmp 1)), none, false, false⟩,
    ⟨(some 4), (.assign (.const (.slice none 0 0))), none, false, false⟩,
    ⟨(some 5), (.alloc 26), none, false, false⟩]) (.seq (.reg [⟨(some 6), (.assign (.const (.slice none 0 0))), none, false, false⟩]) (.seq (.reg [⟨(some 7), (.assign (.const (.slice none 0 0))), none, false, false⟩]) (.seq (.reg [⟨(some 8), (.assign (.const (.string { data := #[] }))), none, false, false⟩]) (.seq (.reg [⟨(some 9), (.assign (.const (.int .i64 0))), none, false, false⟩]) (.seq (.seq (.reg [⟨(some 10), (.assign (.const (.int .i64 0))), none, false, false⟩]) (.block 0 (.loop (.seq (.seq (.reg [⟨(some 13), (.move (.tmp 10)), none, false, false⟩,
    ⟨(some 14), (.move (.tmp 0)), none, false, false⟩,
    ⟨(some 15), (.call { callee := .builtin .len, args := #[.tmp 14], argTypes := #[9] }), none, false, false⟩,
    ⟨(some 16), (.binOp .lss 3 (.tmp 13) (.tmp 15) 3), none, false, false⟩]) (.cond (.tmp 16) .skip (.exit 0))) (.seq (.block 1 (.seq (.reg [⟨(some 19), (.move (.tmp 0)), none, false, false⟩,
    ⟨(some 20), (.move (.tmp 10)), none, false, false⟩,
    ⟨(some 21), (.index 9 (.tmp 19) (.tmp 20)), none, false, false⟩,
    ⟨(some 11), (.assign (.tmp 21)), none, false, false⟩]) (.seq (.seq (.reg [⟨(some 22), (.move (.tmp 9)), none, false, false⟩,
    ⟨(some 23), (.binOp .eql 3 (.tmp 22) (.const (.int .i64 2)) 3), none, false, false⟩]) (.cond (.tmp 23) (.seq (.seq (.reg [⟨(some 24), (.move (.tmp 11)), none, false, false⟩,
    ⟨(some 25), (.fieldAddr 24 (.tmp 3) 1), none, false, false⟩,
    ⟨(some 26), (.load 5 (.tmp 25)), none, false, false⟩,
    ⟨(some 27), (.binOp .eql 5 (.tmp 24) (.tmp 26) 5), none, false, false⟩]) (.cond (.tmp 27) (.reg [⟨(some 9), (.assign (.const (.int .i64 3))), none, false, false⟩]) (.reg [⟨(some 28), (.move (.tmp 8)), none, false, false⟩,
    ⟨(some 29), (.move (.tmp 0)), none, false, false⟩,
    ⟨(some 30), (.move (.tmp 10)), none, false, false⟩,
    ⟨(some 31), (.move (.tmp 10)), none, false, false⟩,
    ⟨(some 32), (.binOp .add 3 (.tmp 31) (.const (.int .i64 1)) 3), none, false, false⟩,
    ⟨(some 33), (.slice 9 (.tmp 29) (some (.tmp 30)) (some (.tmp 32)) none), none, false, false⟩,
    ⟨(some 34), (.binOp .add 9 (.tmp 28) (.tmp 33) 9), none, false, false⟩,
    ⟨(some 8), (.assign (.tmp 34)), none, false, false⟩]))) (.exit 1)) .skip)) (.seq (.seq (.reg [⟨(some 35), (.move (.tmp 9)), none, false, false⟩,
    ⟨(some 36), (.binOp .eql 3 (.tmp 35) (.const (.int .i64 4)) 3), none, false, false⟩,
    ⟨(some 37), (.move (.tmp 36)), none, false, false⟩,
    ⟨(some 38), (.move (.tmp 11)), (some (37, true)), false, false⟩,
    ⟨(some 39), (.binOp .neq 5 (.tmp 38) (.const (.int .u8 10)) 5), (some (37, true)), false, false⟩,
    ⟨(some 40), (.pick (.tmp 37) (.tmp 39) (.const (.bool false))), none, false, false⟩]) (.cond (.tmp 40) (.seq (.reg [⟨(some 41), (.move (.tmp 10)), none, false, false⟩,
    ⟨(some 42), (.call { callee := .value (.func 16), args := #[.const (.int .i64 1), .tmp 41], argTypes := #[3, 3] }), none, false, false⟩,
    ⟨(some 4), (.assign (.const (.slice none 0 0))), none, false, false⟩,
    ⟨none, (.store 26 (.tmp 5) (.tmp 42)), none, false, false⟩]) .ret) .skip)) (.seq (.seq (.reg [⟨(some 43), (.move (.tmp 11)), none, false, false⟩,
    ⟨(some 44), (.fieldAddr 24 (.tmp 3) 0), none, false, false⟩,
    ⟨(some 45), (.load 5 (.tmp 44)), none, false, false⟩,
    ⟨(some 46), (.binOp .eql 5 (.tmp 43) (.tmp 45) 5), none, false, false⟩,
    ⟨(some 47), (.move (.tmp 46)), none, false, false⟩,
    ⟨(some 48), (.move (.tmp 9)), (some (47, true)), false, false⟩,
    ⟨(some 49), (.binOp .neq 3 (.tmp 48) (.const (.int .i64 4)) 3), (some (47, true)), false, false⟩,
    ⟨(some 50), (.pick (.tmp 47) (.tmp 49) (.const (.bool false))), none, false, false⟩]) (.cond (.tmp 50) (.seq (.reg [⟨(some 51), (.move (.tmp 7)), none, false, false⟩,
    ⟨(some 52), (.move (.tmp 8)), none, false, false⟩,
    ⟨(some 53), (.buildSlice 39 1 #[(0, .tmp 52)]), none, false, false⟩,
    ⟨(some 54), (.call { callee := .builtin .append, args := #[.tmp 51, .tmp 53], argTypes := #[39, 39] }), none, false, false⟩,
    ⟨(some 7), (.assign (.tmp 54)), none, false, false⟩]) (.seq (.reg [⟨(some 8), (.assign (.const (.string { data := #[] }))), none, false, false⟩]) (.seq (.reg [⟨(some 9), (.assign (.const (.int .i64 0))), none, false, false⟩]) (.seq (.seq (.reg [⟨(some 55), (.move (.tmp 10)), none, false, false⟩,
    ⟨(some 56), (.binOp .add 3 (.tmp 55) (.const (.int .i64 1)) 3), none, false, false⟩,
    ⟨(some 57), (.move (.tmp 0)), none, false, false⟩,
    ⟨(some 58), (.call { callee := .builtin .len, args := #[.tmp 57], argTypes := #[9] }), none, false, false⟩,
    ⟨(some 59), (.binOp .eql 3 (.tmp 56) (.tmp 58) 3), none, false, false⟩]) (.cond (.tmp 59) (.reg [⟨(some 60), (.move (.tmp 7)), none, false, false⟩,
    ⟨(some 61), (.buildSlice 39 1 #[(0, .const (.string { data := #[] }))]), none, false, false⟩,
    ⟨(some 62), (.call { callee := .builtin .append, args := #[.tmp 60, .tmp 61], argTypes := #[39, 39] }), none, false, false⟩,
    ⟨(some 7), (.assign (.tmp 62)), none, false, false⟩]) .skip)) (.exit 1))))) .skip)) (.seq (.seq (.reg [⟨(some 63), (.move (.tmp 11)), none, false, false⟩,
    ⟨(some 64), (.binOp .eql 5 (.tmp 63) (.const (.int .u8 10)) 5), none, false, false⟩]) (.cond (.tmp 64) (.seq (.reg [⟨(some 65), (.move (.tmp 7)), none, false, false⟩,
    ⟨(some 66), (.move (.tmp 8)), none, false, false⟩,
    ⟨(some 67), (.buildSlice 39 1 #[(0, .tmp 66)]), none, false, false⟩,
    ⟨(some 68), (.call { callee := .builtin .append, args := #[.tmp 65, .tmp 67], argTypes := #[39, 39] }), none, false, false⟩,
    ⟨(some 7), (.assign (.tmp 68)), none, false, false⟩]) (.seq (.reg [⟨(some 69), (.move (.tmp 6)), none, false, false⟩,
    ⟨(some 70), (.move (.tmp 7)), none, false, true⟩,
    ⟨(some 71), (.buildSlice 22 1 #[(0, .tmp 70)]), none, false, false⟩,
    ⟨(some 72), (.call { callee := .builtin .append, args := #[.tmp 69, .tmp 71], argTypes := #[22, 22] }), none, false, false⟩,
    ⟨(some 6), (.assign (.tmp 72)), none, false, false⟩]) (.seq (.reg [⟨(some 7), (.assign (.const (.slice none 0 0))), none, false, false⟩]) (.seq (.reg [⟨(some 8), (.assign (.const (.string { data := #[] }))), none, false, false⟩]) (.seq (.reg [⟨(some 9), (.assign (.const (.int .i64 0))), none, false, false⟩]) (.exit 1)))))) .skip)) (.seq (.seq (.reg [⟨(some 73), (.move (.tmp 11)), none, false, false⟩,
    ⟨(some 74), (.binOp .eql 5 (.tmp 73) (.const (.int .u8 13)) 5), none, false, false⟩]) (.cond (.tmp 74) (.seq (.reg [⟨(some 9), (.assign (.const (.int .i64 4))), none, false, false⟩]) (.exit 1)) .skip)) (.seq (.seq (.reg [⟨(some 75), (.move (.tmp 11)), none, false, false⟩,
    ⟨(some 76), (.fieldAddr 24 (.tmp 3) 1), none, false, false⟩,
    ⟨(some 77), (.load 5 (.tmp 76)), none, false, false⟩,
    ⟨(some 78), (.binOp .eql 5 (.tmp 75) (.tmp 77) 5), none, false, false⟩]) (.cond (.tmp 78) (.seq (.seq (.reg [⟨(some 79), (.move (.tmp 9)), none, false, false⟩,
    ⟨(some 80), (.binOp .eql 3 (.tmp 79) (.const (.int .i64 1)) 3), none, false, false⟩]) (.cond (.tmp 80) (.seq (.reg [⟨(some 81), (.move (.tmp 10)), none, false, false⟩,
    ⟨(some 82), (.call { callee := .value (.func 16), args := #[.const (.int .i64 1), .tmp 81], argTypes := #[3, 3] }), none, false, false⟩,
    ⟨(some 4), (.assign (.const (.slice none 0 0))), none, false, false⟩,
    ⟨none, (.store 26 (.tmp 5) (.tmp 82)), none, false, false⟩]) .ret) .skip)) (.seq (.seq (.reg [⟨(some 83), (.move (.tmp 9)), none, false, false⟩,
    ⟨(some 84), (.binOp .eql 3 (.tmp 83) (.const (.int .i64 3)) 3), none, false, false⟩]) (.cond (.tmp 84) (.reg [⟨(some 85), (.move (.tmp 8)), none, false, false⟩,
    ⟨(some 86), (.move (.tmp 0)), none, false, false⟩,
    ⟨(some 87), (.move (.tmp 10)), none, false, false⟩,
    ⟨(some 88), (.move (.tmp 10)), none, false, false⟩,
    ⟨(some 89), (.binOp .add 3 (.tmp 88) (.const (.int .i64 1)) 3), none, false, false⟩,
    ⟨(some 90), (.slice 9 (.tmp 86) (some (.tmp 87)) (some (.tmp 89)) none), none, false, false⟩,
    ⟨(some 91), (.binOp .add 9 (.tmp 85) (.tmp 90) 9), none, false, false⟩,
    ⟨(some 8), (.assign (.tmp 91)), none, false, false⟩]) .skip)) (.seq (.reg [⟨(some 9), (.assign (.const (.int .i64 2))), none, false, false⟩]) (.exit 1)))) .skip)) (.seq (.seq (.reg [⟨(some 92), (.move (.tmp 9)), none, false, false⟩,
    ⟨(some 93), (.binOp .eql 3 (.tmp 92) (.const (.int .i64 3)) 3), none, false, false⟩]) (.cond (.tmp 93) (.seq (.reg [⟨(some 94), (.move (.tmp 10)), none, false, false⟩,
    ⟨(some 95), (.call { callee := .value (.func 16), args := #[.const (.int .i64 1), .tmp 94], argTypes := #[3, 3] }), none, false, false⟩,
    ⟨(some 4), (.assign (.const (.slice none 0 0))), none, false, false⟩,
    ⟨none, (.store 26 (.tmp 5) (.tmp 95)), none, false, false⟩]) .ret) .skip)) (.seq (.reg [⟨(some 96), (.move (.tmp 8)), none, false, false⟩,
    ⟨(some 97), (.move (.tmp 0)), none, false, false⟩,
    ⟨(some 98), (.move (.tmp 10)), none, false, false⟩,
    ⟨(some 99), (.move (.tmp 10)), none, false, false⟩,
    ⟨(some 100), (.binOp .add 3 (.tmp 99) (.const (.int .i64 1)) 3), none, false, false⟩,
    ⟨(some 101), (.slice 9 (.tmp 97) (some (.tmp 98)) (some (.tmp 100)) none), none, false, false⟩,
    ⟨(some 102), (.binOp .add 9 (.tmp 96) (.tmp 101) 9), none, false, false⟩,
    ⟨(some 8), (.assign (.tmp 102)), none, false, false⟩]) (.reg [⟨(some 9), (.assign (.const (.int .i64 1))), none, false, false⟩]))))))))))) (.reg [⟨(some 17), (.move (.tmp 10)), none, false, false⟩,
    ⟨(some 18), (.binOp .add 3 (.tmp 17) (.const (.int .i64 1)) 3), none, false, false⟩,
    ⟨(some 10), (.assign (.tmp 18)), none, false, false⟩])))))) (.seq (.seq (.reg [⟨(some 103), (.move (.tmp 9)), none, false, false⟩,
    ⟨(some 104), (.binOp .eql 3 (.tmp 103) (.const (.int .i64 2)) 3), none, false, false⟩,
    ⟨(some 105), (.move (.tmp 104)), none, false, false⟩,
    ⟨(some 106), (.move (.tmp 9)), (some (105, false)), false, false⟩,
    ⟨(some 107), (.binOp .eql 3 (.tmp 106) (.const (.int .i64 4)) 3), (some (105, false)), false, false⟩,
    ⟨(some 108), (.pick (.tmp 105) (.const (.bool true)) (.tmp 107)), none, false, false⟩]) (.cond (.tmp 108) (.seq (.reg [⟨(some 109), (.move (.tmp 0)), none, false, false⟩,
    ⟨(some 110), (.call { callee := .builtin .len, args := #[.tmp 109], argTypes := #[9] }), none, false, false⟩,
    ⟨(some 111), (.call { callee := .value (.func 16), args := #[.const (.int .i64 1), .tmp 110], argTypes := #[3, 3] }), none, false, false⟩,
    ⟨(some 4), (.assign (.const (.slice none 0 0))), none, false, false⟩,
    ⟨none, (.store 26 (.tmp 5) (.tmp 111)), none, false, false⟩]) .ret) .skip)) (.seq (.seq (.reg [⟨(some 112), (.move (.tmp 9)), none, false, false⟩,
    ⟨(some 113), (.binOp .neq 3 (.tmp 112) (.const (.int .i64 0)) 3), none, false, false⟩]) (.cond (.tmp 113) (.reg [⟨(some 114), (.move (.tmp 7)), none, false, false⟩,
    ⟨(some 115), (.move (.tmp 8)), none, false, false⟩,
    ⟨(some 116), (.buildSlice 39 1 #[(0, .tmp 115)]), none, false, false⟩,
    ⟨(some 117), (.call { callee := .builtin .append, args := #[.tmp 114, .tmp 116], argTypes := #[39, 39] }), none, false, false⟩,
    ⟨(some 7), (.assign (.tmp 117)), none, false, false⟩]) .skip)) (.seq (.seq (.reg [⟨(some 118), (.move (.tmp 7)), none, false, false⟩,
    ⟨(some 119), (.call { callee := .builtin .len, args := #[.tmp 118], argTypes := #[39] }), none, false, false⟩,
    ⟨(some 120), (.binOp .gtr 3 (.tmp 119) (.const (.int .i64 0)) 3), none, false, false⟩]) (.cond (.tmp 120) (.reg [⟨(some 121), (.move (.tmp 6)), none, false, false⟩,
    ⟨(some 122), (.move (.tmp 7)), none, false, true⟩,
    ⟨(some 123), (.buildSlice 22 1 #[(0, .tmp 122)]), none, false, false⟩,
    ⟨(some 124), (.call { callee := .builtin .append, args := #[.tmp 121, .tmp 123], argTypes := #[22, 22] }), none, false, false⟩,
    ⟨(some 6), (.assign (.tmp 124)), none, false, false⟩]) .skip)) (.seq (.seq (.reg [⟨(some 125), (.move (.tmp 6)), none, false, false⟩,
    ⟨(some 126), (.call { callee := .value (.func 14), args := #[.tmp 125, .const (.int .i64 (-3))], argTypes := #[22, 3] }), none, false, false⟩,
    ⟨(some 12), (.alloc 26), none, false, false⟩,
    ⟨none, (.store 26 (.tmp 12) (.tmp 126)), none, false, false⟩]) (.seq (.reg [⟨(some 127), (.fieldAddr 26 (.tmp 12) 0), none, false, false⟩,
    ⟨(some 128), (.load 3 (.tmp 127)), none, false, false⟩,
    ⟨(some 129), (.binOp .neq 3 (.tmp 128) (.const (.int .i64 0)) 3), none, false, false⟩]) (.cond (.tmp 129) (.seq (.reg [⟨(some 130), (.load 26 (.tmp 12)), none, false, false⟩,
    ⟨(some 4), (.assign (.const (.slice none 0 0))), none, false, false⟩,
    ⟨none, (.store 26 (.tmp 5) (.tmp 130)), none, false, false⟩]) .ret) .skip))) (.seq (.reg [⟨(some 131), (.move (.tmp 6)), none, false, false⟩,
    ⟨(some 132), (.call { callee := .value (.func 16), args := #[.const (.int .i64 0), .const (.int .i64 0)], argTypes := #[3, 3] }), none, false, false⟩,
    ⟨(some 4), (.assign (.tmp 131)), none, false, false⟩,
    ⟨none, (.store 26 (.tmp 5) (.tmp 132)), none, false, false⟩]) .ret)))))))))))
theorem fn19m : FnIs Proofs.Tryd.prog 19 133 (fun t => t == 70 || t == 122) [.tmp 4, .cell 5 26] c19m := ⟨Proofs.Tryd.f19, Proofs.Tryd.func19, by kernel_rfl, by kernel_rfl, by kernel_rfl, by kernel_rfl⟩

end Go.Vm

/- csv: the reference's TableOf. -/
namespace Go.Vm
open Proofs
set_option maxRecDepth 20000
set_option maxHeartbeats 1000000
set_option linter.unusedSimpArgs false

def tableOfS (text : List UInt8) (d : Dia) : List (List (List UInt8)) × (Int × Int) :=
  if (tabR d text [] [] [] 0).2.2 = true then
    if (tabFault (tabR d text [] [] [] 0).1 (-3)).1 ≠ 0 then ([], tabFault (tabR d text [] [] [] 0).1 (-3)) else ((tabR d text [] [] [] 0).1, (0, 0))
  else ([], (1, ((text.length - (tabR d text [] [] [] 0).2.1.length : Nat) : Int)))

def finR (n : Nat) (res : List (List (List UInt8)) × List UInt8 × Bool) : List (List (List UInt8)) × (Int × Int) :=
  if res.2.2 = true then (if (tabFault res.1 (-3)).1 ≠ 0 then ([], tabFault res.1 (-3)) else (res.1, (0, 0))) else ([], (1, ((n - res.2.1.length : Nat) : Int)))

/-- The row so far: nil, or a row that grows. -/
def rowAV (b : Nat) : List (List UInt8) → AV
  | [] => .d .nilsl
  | x :: l => .bl b 9 ((x :: l).map encS)
def rowBk : List (List UInt8) → List Blk
  | [] => []
  | x :: l => [.tail 9 (x :: l).length]

theorem hokT {h : List Blk} (hok : HOk h) {e1 e2 : TypeId} {x y : D} {m : Nat} {t2 : TypeId} : HOk (h ++ [.cells e1 [.d x], .cells e2 [.d y], .tail t2 m]) := by
  refine hok.append ?_
  intro z hz
  simp only [List.mem_cons, List.not_mem_nil, or_false] at hz
  rcases hz with rfl | rfl | rfl
  · exact bel_cellsD _ _ _
  · exact bel_cellsD _ _ _
  · trivial

theorem tableOf_V (text : List UInt8) (d : Dia) (hl : text.length ≤ 1048576) (h : List Blk) :
    CallP Tryd.prog 19 [.d (.str text), .d (encDia d)] h (.tup [.d (.sl 39 ((tableOfS text d).1.map encR)), .d (encF (tableOfS text d).2)]) := by
  refine callW tb_ok fn19m (by simp) (fun hok => ?_)
  obtain ⟨res, hres⟩ : ∃ res, tabR d text [] [] [] 0 = res := ⟨_, rfl⟩
  have hps : tableOfS text d = finR text.length res := by
    rw [tableOfS, finR, hres]
  rw [hps]
  simp (disch := first | omega | (simp; done) | (simp; omega)) [ltT, ltF, leT, leF, eqT', eqF, ltTn, leTn, ltFn, leFn, wrapI, mid, c19m]
  refine W_loopA (ι := List UInt8 × List UInt8 × List (List (List UInt8)) × List (List UInt8) × List UInt8 × Int)
    (fun p => p.1 ++ p.2.1 = text ∧ tabR d p.2.1 p.2.2.1 p.2.2.2.1 p.2.2.2.2.1 p.2.2.2.2.2 = res ∧ p.2.2.1.length ≤ p.1.length ∧ total p.2.2.1 + p.2.2.2.1.length ≤ 2 * p.1.length ∧ p.2.2.2.2.1.length ≤ p.1.length)
    (fun p => ⟨[(0, .d (.str text)), (3, .ptr h.length 24 0 0), (5, .ptr (h.length + 1) 26 0 0), (6, .bl (h.length + 2) 39 (p.2.2.1.map encR)), (7, rowAV (h.length + 3) p.2.2.2.1), (8, .d (.str p.2.2.2.2.1)), (9, .d (.int .i64 p.2.2.2.2.2)), (10, .d (.int .i64 p.1.length))],
      h ++ .cells 24 [.d (encDia d)] :: .cells 26 [.d (encF (0, 0))] :: .tail 39 p.2.2.1.length :: rowBk p.2.2.2.1⟩) (fun p => p.2.1.length) ([], text, [], [], [], 0) ⟨rfl, hres, by simp, by simp [total], by simp⟩
    ((Shift.nilbl (i := 6) 39 (by simp)).trans (Shift.slots' (by simp [rowBk]) (by simp [rowAV]))) ?_
  rintro ⟨P, rest, rows, row, cell, st⟩ ⟨hx, hc, hrl, htl, hcl⟩ A hA
  simp only at hx hc hrl htl hcl
  have hlen : text.length = P.length + rest.length := by rw [← hx]; simp
  cases rest with
  | nil =>
    clear hA
    simp only [List.append_nil] at hx
    subst hx
    simp only [tabR] at hc
    by_cases hst : st = 2 ∨ st = 4
    · rw [if_pos hst] at hc
      have hf : finR P.length res = (([] : List (List (List UInt8))), ((1, (P.length : Int)) : Int × Int)) := by rw [← hc]; simp [finR]
      rw [hf]
      by_cases s2 : st = 2
      · simp (disch := first | omega | (simp; done) | (simp; omega)) [ltT, ltF, leT, leF, eqT', eqF, ltTn, leTn, ltFn, leFn, wrapI, mid]
        refine (at_V _ _ _).useV ?_
        simp (disch := first | omega | (simp; done) | (simp; omega)) [ltT, ltF, leT, leF, eqT', eqF, ltTn, leTn, ltFn, leFn, wrapI, mid]
        exact RShift.subs ⟨.nil _, .refl _, trivial⟩ (by simp) hok (Nat.le_refl _)
      · have s4 : st = 4 := by omega
        simp (disch := first | omega | (simp; done) | (simp; omega)) [ltT, ltF, leT, leF, eqT', eqF, ltTn, leTn, ltFn, leFn, wrapI, mid]
        refine (at_V _ _ _).useV ?_
        simp (disch := first | omega | (simp; done) | (simp; omega)) [ltT, ltF, leT, leF, eqT', eqF, ltTn, leTn, ltFn, leFn, wrapI, mid]
        exact RShift.subs ⟨.nil _, .refl _, trivial⟩ (by simp) hok (Nat.le_refl _)
    rw [if_neg hst] at hc
    have s2 : ¬ st = 2 := fun h => hst (.inl h)
    have s4 : ¬ st = 4 := fun h => hst (.inr h)
    have fin : ∀ R : List (List (List UInt8)), (R, ([] : List UInt8), true) = res → finR P.length res = if (tabFault R (-3)).1 ≠ 0 then ([], tabFault R (-3)) else (R, (0, 0)) := by
      intro R hR; rw [← hR]; simp [finR]
    have call : ∀ R : List (List (List UInt8)), R.length ≤ P.length + 1 → total R ≤ 2 * P.length + 2 → ∀ g, CallP Tryd.prog 14 [.bl (h.length + 2) 39 (R.map encR), .d (.int .i64 (-3))] g (.d (encF (tabFault R (-3)))) :=
      fun R h1 h2 g => CallP.subs (tableFault_V R (-3) (by omega) (by omega) g) ⟨.bl _ _ _, .refl _, trivial⟩
    by_cases s0 : st = 0
    · cases row with
      | nil =>
        simp [s0] at hc
        simp only [List.length_nil] at htl
        rw [fin _ hc]
        have hcall := call rows (by omega) (by omega)
        simp (disch := first | omega | (simp; done) | (simp; omega)) [ltT, ltF, leT, leF, eqT', eqF, ltTn, leTn, ltFn, leFn, wrapI, mid, rowAV, rowBk]
        refine (hcall _).useV ?_
        by_cases h4 : (tabFault rows (-3)).1 ≠ 0
        · simp (disch := first | omega | (simp; done) | (simp; omega)) [ltT, ltF, leT, leF, eqT', eqF, ltTn, leTn, ltFn, leFn, wrapI, mid, h4]
          exact RShift.subs ⟨.nil _, .refl _, trivial⟩ (by simp) hok (Nat.le_refl _)
        · simp (disch := first | omega | (simp; done) | (simp; omega)) [ltT, ltF, leT, leF, eqT', eqF, ltTn, leTn, ltFn, leFn, wrapI, mid, h4]
          refine (at_V _ _ _).useV ?_
          simp (disch := first | omega | (simp; done) | (simp; omega)) [ltT, ltF, leT, leF, eqT', eqF, ltTn, leTn, ltFn, leFn, wrapI, mid]
          exact RShift.subs ⟨.bl _ _ _, .refl _, trivial⟩ (by simp) hok (Nat.le_refl _)
      | cons r0 rw0 =>
        simp [s0] at hc
        simp only [List.length_cons] at htl
        rw [fin _ hc]
        have hcall := call (rows ++ [r0 :: rw0]) (by simp; omega) (by simp [total_app, total]; omega)
        simp [encR] at hcall
        simp (disch := first | omega | (simp; done) | (simp; omega)) [ltT, ltF, leT, leF, eqT', eqF, ltTn, leTn, ltFn, leFn, wrapI, mid, rowAV, rowBk]
        refine (hcall _).useV ?_
        by_cases h4 : (tabFault (rows ++ [r0 :: rw0]) (-3)).1 ≠ 0
        · simp (disch := first | omega | (simp; done) | (simp; omega)) [ltT, ltF, leT, leF, eqT', eqF, ltTn, leTn, ltFn, leFn, wrapI, mid, h4]
          exact RShift.subs ⟨.nil _, .refl _, trivial⟩ (by simp) hok (Nat.le_refl _)
        · simp (disch := first | omega | (simp; done) | (simp; omega)) [ltT, ltF, leT, leF, eqT', eqF, ltTn, leTn, ltFn, leFn, wrapI, mid, h4]
          refine (at_V _ _ _).useV ?_
          simp (disch := first | omega | (simp; done) | (simp; omega)) [ltT, ltF, leT, leF, eqT', eqF, ltTn, leTn, ltFn, leFn, wrapI, mid, encR]
          exact RShift.subs ⟨.bl _ _ _, .refl _, trivial⟩ (by simp) hok (Nat.le_refl _)
    · cases row with
      | nil =>
        simp [s0] at hc
        simp only [List.length_nil] at htl
        rw [fin _ hc]
        have hcall := call (rows ++ [[cell]]) (by simp; omega) (by simp [total_app, total]; omega)
        simp [encR, encS] at hcall
        simp (disch := first | omega | (simp; done) | (simp; omega)) [ltT, ltF, leT, leF, eqT', eqF, ltTn, leTn, ltFn, leFn, wrapI, mid, rowAV, rowBk, s0]
        refine (hcall _).useV ?_
        by_cases h4 : (tabFault (rows ++ [[cell]]) (-3)).1 ≠ 0
        · simp (disch := first | omega | (simp; done) | (simp; omega)) [ltT, ltF, leT, leF, eqT', eqF, ltTn, leTn, ltFn, leFn, wrapI, mid, h4]
          exact RShift.subs ⟨.nil _, .refl _, trivial⟩ (by simp) hok (Nat.le_refl _)
        · simp (disch := first | omega | (simp; done) | (simp; omega)) [ltT, ltF, leT, leF, eqT', eqF, ltTn, leTn, ltFn, leFn, wrapI, mid, h4]
          refine (at_V _ _ _).useV ?_
          simp (disch := first | omega | (simp; done) | (simp; omega)) [ltT, ltF, leT, leF, eqT', eqF, ltTn, leTn, ltFn, leFn, wrapI, mid, encR, encS]
          exact RShift.subs ⟨.bl _ _ _, .refl _, trivial⟩ (by simp) hok (Nat.le_refl _)
      | cons r0 rw0 =>
        simp [s0] at hc
        simp only [List.length_cons] at htl
        rw [fin _ hc]
        have hcall := call (rows ++ [r0 :: (rw0 ++ [cell])]) (by simp; omega) (by simp [total_app, total]; omega)
        simp [encR, encS] at hcall
        simp (disch := first | omega | (simp; done) | (simp; omega)) [ltT, ltF, leT, leF, eqT', eqF, ltTn, leTn, ltFn, leFn, wrapI, mid, rowAV, rowBk, s0, encS]
        refine (hcall _).useV ?_
        by_cases h4 : (tabFault (rows ++ [r0 :: (rw0 ++ [cell])]) (-3)).1 ≠ 0
        · simp (disch := first | omega | (simp; done) | (simp; omega)) [ltT, ltF, leT, leF, eqT', eqF, ltTn, leTn, ltFn, leFn, wrapI, mid, h4]
          exact RShift.subs ⟨.nil _, .refl _, trivial⟩ (by simp) hok (Nat.le_refl _)
        · simp (disch := first | omega | (simp; done) | (simp; omega)) [ltT, ltF, leT, leF, eqT', eqF, ltTn, leTn, ltFn, leFn, wrapI, mid, h4]
          refine (at_V _ _ _).useV ?_
          simp (disch := first | omega | (simp; done) | (simp; omega)) [ltT, ltF, leT, leF, eqT', eqF, ltTn, leTn, ltFn, leFn, wrapI, mid, encR, encS]
          exact RShift.subs ⟨.bl _ _ _, .refl _, trivial⟩ (by simp) hok (Nat.le_refl _)
  | cons c l =>
    simp only [List.length_cons] at hlen
    subst hx
    rw [tabR] at hc
    by_cases s2 : st = 2
    · rw [if_pos s2] at hc
      by_cases hq : c = d.quote
      · rw [if_pos hq] at hc
        simp (disch := first | omega | (simp; done) | (simp; omega)) [ltT, ltF, leT, leF, eqT', eqF, ltTn, leTn, ltFn, leFn, wrapI, mid, u8_inj, u8_10, u8_13, eq_true hq]
        exact hA (P ++ [c], l, rows, row, cell, 3) _ ⟨by simp, hc, by simp; omega, by simp; omega, by simp; omega⟩ (by simp) (Shift.slots' rfl (by simp))
      · rw [if_neg hq] at hc
        simp (disch := first | omega | (simp; done) | (simp; omega)) [ltT, ltF, leT, leF, eqT', eqF, ltTn, leTn, ltFn, leFn, wrapI, mid, u8_inj, u8_10, u8_13, eq_false hq]
        exact hA (P ++ [c], l, rows, row, cell ++ [c], 2) _ ⟨by simp, hc, by simp; omega, by simp; omega, by simp; omega⟩ (by simp) (Shift.slots' rfl (by simp [s2]))
    rw [if_neg s2] at hc
    have err : ∀ (r : List UInt8), (([] : List (List (List UInt8))), r, false) = res → r = c :: l → finR (P ++ c :: l).length res = (([] : List (List (List UInt8))), ((1, (P.length : Int)) : Int × Int)) := by
      intro r hr hr2
      rw [← hr, hr2]
      simp [finR]
    by_cases s4 : st = 4 ∧ c ≠ 10
    · rw [if_pos s4] at hc
      rw [err _ hc rfl]
      obtain ⟨s4, h10⟩ := s4
      simp (disch := first | omega | (simp; done) | (simp; omega)) [ltT, ltF, leT, leF, eqT', eqF, ltTn, leTn, ltFn, leFn, wrapI, mid, u8_inj, u8_10, u8_13, eq_false h10]
      refine (at_V _ _ _).useV ?_
      simp (disch := first | omega | (simp; done) | (simp; omega)) [ltT, ltF, leT, leF, eqT', eqF, ltTn, leTn, ltFn, leFn, wrapI, mid]
      exact RShift.subs ⟨.nil _, .refl _, trivial⟩ (by simp) hok (Nat.le_refl _)
    rw [if_neg s4] at hc
    by_cases hsep : c = d.sep ∧ st ≠ 4
    · rw [if_pos hsep] at hc
      obtain ⟨hsep, s4'⟩ := hsep
      have s4c : ¬ (c ≠ 10 ∧ st = 4) := fun h => s4' h.2
      cases l with
      | nil =>
        simp only [if_true, List.length_nil] at hc hlen
        cases row with
        | nil =>
          simp (disch := first | omega | (simp; done) | (simp; omega)) [ltT, ltF, leT, leF, eqT', eqF, ltTn, leTn, ltFn, leFn, wrapI, mid, u8_inj, u8_10, u8_13, eq_true hsep, rowAV, rowBk]
          exact hA (P ++ [c], [], rows, [cell, []], [], 0) _ ⟨by simp, hc, by simp; omega, by simp; omega, by simp⟩ (by simp) (Shift.slots' (by simp [rowBk]) (by simp [rowAV, encS]))
        | cons r0 rw0 =>
          simp only [List.length_cons] at htl
          simp (disch := first | omega | (simp; done) | (simp; omega)) [ltT, ltF, leT, leF, eqT', eqF, ltTn, leTn, ltFn, leFn, wrapI, mid, u8_inj, u8_10, u8_13, eq_true hsep, rowAV, rowBk]
          exact hA (P ++ [c], [], rows, r0 :: (rw0 ++ [cell, []]), [], 0) _ ⟨by simp, by simpa using hc, by simp; omega, by simp; omega, by simp⟩ (by simp) (Shift.slots' (by simp [rowBk]) (by simp [rowAV, encS]))
      | cons e l =>
        simp only [List.length_cons] at hlen
        rw [if_neg (by simp)] at hc
        cases row with
        | nil =>
          simp (disch := first | omega | (simp; done) | (simp; omega)) [ltT, ltF, leT, leF, eqT', eqF, ltTn, leTn, ltFn, leFn, wrapI, mid, u8_inj, u8_10, u8_13, eq_true hsep, rowAV, rowBk]
          exact hA (P ++ [c], e :: l, rows, [cell], [], 0) _ ⟨by simp, hc, by simp; omega, by simp; omega, by simp⟩ (by simp) (Shift.slots' (by simp [rowBk]) (by simp [rowAV, encS]))
        | cons r0 rw0 =>
          simp only [List.length_cons] at htl
          simp (disch := first | omega | (simp; done) | (simp; omega)) [ltT, ltF, leT, leF, eqT', eqF, ltTn, leTn, ltFn, leFn, wrapI, mid, u8_inj, u8_10, u8_13, eq_true hsep, rowAV, rowBk]
          exact hA (P ++ [c], e :: l, rows, r0 :: (rw0 ++ [cell]), [], 0) _ ⟨by simp, by simpa using hc, by simp; omega, by simp; omega, by simp⟩ (by simp) (Shift.slots' (by simp [rowBk]) (by simp [rowAV, encS]))
    rw [if_neg hsep] at hc
    by_cases h10 : c = 10
    · rw [if_pos h10] at hc
      have hsc : ¬ ((c.toNat : Int) = (d.sep.toNat : Int) ∧ ¬ st = 4) := by rw [u8_inj]; exact hsep
      have hg : (decide ((c.toNat : Int) = (d.sep.toNat : Int))) = true → ¬ st = 4 → False := fun h h2 => hsc ⟨of_decide_eq_true h, h2⟩
      by_cases hse : c = d.sep
      · have s4' : st = 4 := Classical.byContradiction fun h => hsep ⟨hse, h⟩
        cases row with
        | nil =>
          simp (disch := first | omega | (simp; done) | (simp; omega)) [ltT, ltF, leT, leF, eqT', eqF, ltTn, leTn, ltFn, leFn, wrapI, mid, u8_inj, u8_10, u8_13, eq_true h10, eq_true hse, rowAV, rowBk]
          exact hA (P ++ [c], l, rows ++ [[cell]], [], [], 0) _ ⟨by simp, by simpa using hc, by simp; omega, by simp [total_app, total]; omega, by simp⟩ (by simp) (Shift.weak' (g := [.tail 9 1]) (by simp [rowBk]) (hokT hok) (by simp) (by simp [rowAV, encS, encR]))
        | cons r0 rw0 =>
          simp only [List.length_cons] at htl
          simp (disch := first | omega | (simp; done) | (simp; omega)) [ltT, ltF, leT, leF, eqT', eqF, ltTn, leTn, ltFn, leFn, wrapI, mid, u8_inj, u8_10, u8_13, eq_true h10, eq_true hse, rowAV, rowBk]
          exact hA (P ++ [c], l, rows ++ [r0 :: (rw0 ++ [cell])], [], [], 0) _ ⟨by simp, by simpa using hc, by simp; omega, by simp [total_app, total]; omega, by simp⟩ (by simp) (Shift.weak' (g := [.tail 9 (rw0.length + 2)]) (by simp [rowBk]) (hokT hok) (by simp) (by simp [rowAV, encS, encR]))
      · by_cases s4' : st = 4 <;>
        · cases row with
          | nil =>
            simp (disch := first | omega | (simp; done) | (simp; omega)) [ltT, ltF, leT, leF, eqT', eqF, ltTn, leTn, ltFn, leFn, wrapI, mid, u8_inj, u8_10, u8_13, eq_true h10, eq_false hse, rowAV, rowBk]
            exact hA (P ++ [c], l, rows ++ [[cell]], [], [], 0) _ ⟨by simp, by simpa using hc, by simp; omega, by simp [total_app, total]; omega, by simp⟩ (by simp) (Shift.weak' (g := [.tail 9 1]) (by simp [rowBk]) (hokT hok) (by simp) (by simp [rowAV, encS, encR]))
          | cons r0 rw0 =>
            simp only [List.length_cons] at htl
            simp (disch := first | omega | (simp; done) | (simp; omega)) [ltT, ltF, leT, leF, eqT', eqF, ltTn, leTn, ltFn, leFn, wrapI, mid, u8_inj, u8_10, u8_13, eq_true h10, eq_false hse, rowAV, rowBk]
            exact hA (P ++ [c], l, rows ++ [r0 :: (rw0 ++ [cell])], [], [], 0) _ ⟨by simp, by simpa using hc, by simp; omega, by simp [total_app, total]; omega, by simp⟩ (by simp) (Shift.weak' (g := [.tail 9 (rw0.length + 2)]) (by simp [rowBk]) (hokT hok) (by simp) (by simp [rowAV, encS, encR]))
    rw [if_neg h10] at hc
    have s4' : ¬ st = 4 := fun h => s4 ⟨h, h10⟩
    have hse : ¬ c = d.sep := fun h => hsep ⟨h, s4'⟩
    by_cases h13 : c = 13
    · rw [if_pos h13] at hc
      simp (disch := first | omega | (simp; done) | (simp; omega)) [ltT, ltF, leT, leF, eqT', eqF, ltTn, leTn, ltFn, leFn, wrapI, mid, u8_inj, u8_10, u8_13, eq_false h10, eq_false hse, eq_true h13]
      exact hA (P ++ [c], l, rows, row, cell, 4) _ ⟨by simp, hc, by simp; omega, by simp; omega, by simp; omega⟩ (by simp) (Shift.slots' rfl (by simp))
    rw [if_neg h13] at hc
    by_cases hq : c = d.quote
    · rw [if_pos hq] at hc
      by_cases s1 : st = 1
      · rw [if_pos s1] at hc
        rw [err _ hc rfl]
        simp (disch := first | omega | (simp; done) | (simp; omega)) [ltT, ltF, leT, leF, eqT', eqF, ltTn, leTn, ltFn, leFn, wrapI, mid, u8_inj, u8_10, u8_13, eq_false h10, eq_false hse, eq_false h13, eq_true hq]
        refine (at_V _ _ _).useV ?_
        simp (disch := first | omega | (simp; done) | (simp; omega)) [ltT, ltF, leT, leF, eqT', eqF, ltTn, leTn, ltFn, leFn, wrapI, mid]
        exact RShift.subs ⟨.nil _, .refl _, trivial⟩ (by simp) hok (Nat.le_refl _)
      · rw [if_neg s1] at hc
        by_cases s3 : st = 3
        · rw [if_pos s3] at hc
          simp (disch := first | omega | (simp; done) | (simp; omega)) [ltT, ltF, leT, leF, eqT', eqF, ltTn, leTn, ltFn, leFn, wrapI, mid, u8_inj, u8_10, u8_13, eq_false h10, eq_false hse, eq_false h13, eq_true hq]
          exact hA (P ++ [c], l, rows, row, cell ++ [c], 2) _ ⟨by simp, hc, by simp; omega, by simp; omega, by simp; omega⟩ (by simp) (Shift.slots' rfl (by simp))
        · rw [if_neg s3] at hc
          simp (disch := first | omega | (simp; done) | (simp; omega)) [ltT, ltF, leT, leF, eqT', eqF, ltTn, leTn, ltFn, leFn, wrapI, mid, u8_inj, u8_10, u8_13, eq_false h10, eq_false hse, eq_false h13, eq_true hq]
          exact hA (P ++ [c], l, rows, row, cell, 2) _ ⟨by simp, hc, by simp; omega, by simp; omega, by simp; omega⟩ (by simp) (Shift.slots' rfl (by simp))
    rw [if_neg hq] at hc
    by_cases s3 : st = 3
    · rw [if_pos s3] at hc
      rw [err _ hc rfl]
      simp (disch := first | omega | (simp; done) | (simp; omega)) [ltT, ltF, leT, leF, eqT', eqF, ltTn, leTn, ltFn, leFn, wrapI, mid, u8_inj, u8_10, u8_13, eq_false h10, eq_false hse, eq_false h13, eq_false hq]
      refine (at_V _ _ _).useV ?_
      simp (disch := first | omega | (simp; done) | (simp; omega)) [ltT, ltF, leT, leF, eqT', eqF, ltTn, leTn, ltFn, leFn, wrapI, mid]
      exact RShift.subs ⟨.nil _, .refl _, trivial⟩ (by simp) hok (Nat.le_refl _)
    · rw [if_neg s3] at hc
      simp (disch := first | omega | (simp; done) | (simp; omega)) [ltT, ltF, leT, leF, eqT', eqF, ltTn, leTn, ltFn, leFn, wrapI, mid, u8_inj, u8_10, u8_13, eq_false h10, eq_false hse, eq_false h13, eq_false hq]
      exact hA (P ++ [c], l, rows, row, cell ++ [c], 1) _ ⟨by simp, hc, by simp; omega, by simp; omega, by simp; omega⟩ (by simp) (Shift.slots' rfl (by simp))

end Go.Vm

/- csv: the law of Parse. -/
namespace Go.Vm
open Proofs
set_option maxRecDepth 20000
set_option maxHeartbeats 1000000
set_option linter.unusedSimpArgs false

theorem tableOf_parse (text : List UInt8) (d : Dia) (h1 : ¬ (diaFault d).1 ≠ 0) (h2 : text.length ≤ 4000) : tableOfS text d = parseS text d := by
  have hg := good_of h1
  rw [parseS, if_neg h1, if_neg (by omega), tableOfS, tabR_rows hg (text.length + 1) text [] (by omega)]
  rcases rowsS (text.length + 1) d text with ⟨t, r, ok⟩
  cases ok <;> simp [accRows]

theorem total_le_mem {α : Type} : ∀ (rows : List (List α)) (r : List α), r ∈ rows → r.length ≤ total rows
  | [], _, h => by simp at h
  | x :: l, r, h => by
    rcases List.mem_cons.mp h with rfl | h
    · simp [total]
    · have := total_le_mem l r h; simp [total]; omega

theorem parse_len (text : List UInt8) (d : Dia) : (parseS text d).1.length ≤ 200 ∧ ∀ r ∈ (parseS text d).1, r.length ≤ 1000 := by
  unfold parseS
  split
  · simp
  split
  · simp
  split
  · split
    · simp
    · rename_i h
      obtain ⟨_, h2, h3⟩ := tabFault_ok h
      exact ⟨h2, fun r hr => by have := total_le_mem _ r hr; simp only at this; omega⟩
  · simp

theorem law4 (text : List UInt8) (d : Dia) (hl : text.length ≤ 1048576) (h : List Blk) :
    CallP Tryd.prog 4 [.d (.str text), .d (encDia d)] h (.d (.bool true)) := by
  refine callW tb_ok fn4 (by simp) (fun hok => ?_)
  obtain ⟨pl, pr⟩ := parse_len text d
  have hn : ∀ {x : Int × Int}, x.1 ≠ 0 → (parseS text d).2 = x → (parseS text d).1 = [] := by
    intro x hx he
    subst he
    revert hx
    unfold parseS
    split
    · simp
    split
    · simp
    split
    · split
      · simp
      · simp
    · simp
  simp (disch := first | omega | (simp; done) | (simp; omega)) [ltT, ltF, leT, leF, eqT', eqF, ltTn, leTn, ltFn, leFn, wrapI, mid, c4]
  refine (parse_V text d hl _).useV ?_
  simp (disch := first | omega | (simp; done) | (simp; omega)) [ltT, ltF, leT, leF, eqT', eqF, ltTn, leTn, ltFn, leFn, wrapI, mid]
  refine (diaRef_V d _).useV ?_
  by_cases h1 : (diaFault d).1 ≠ 0
  · have hp : parseS text d = ([], diaFault d) := by rw [parseS, if_pos h1]
    rw [hp]
    simp (disch := first | omega | (simp; done) | (simp; omega)) [ltT, ltF, leT, leF, eqT', eqF, ltTn, leTn, ltFn, leFn, wrapI, mid, h1]
    refine (tabled_V _).useV ?_
    simp (disch := first | omega | (simp; done) | (simp; omega)) [ltT, ltF, leT, leF, eqT', eqF, ltTn, leTn, ltFn, leFn, wrapI, mid]
    exact rshift_d hok
  have hd := diaFault_ok h1
  rw [hd]
  by_cases h2 : 4000 < text.length
  · have hp : parseS text d = ([], (3, -2)) := by rw [parseS, if_neg h1, if_pos h2]
    rw [hp]
    simp (disch := first | omega | (simp; done) | (simp; omega)) [ltT, ltF, leT, leF, eqT', eqF, ltTn, leTn, ltFn, leFn, wrapI, mid]
    refine (at_V _ _ _).useV ?_
    simp (disch := first | omega | (simp; done) | (simp; omega)) [ltT, ltF, leT, leF, eqT', eqF, ltTn, leTn, ltFn, leFn, wrapI, mid]
    refine (tabled_V _).useV ?_
    simp (disch := first | omega | (simp; done) | (simp; omega)) [ltT, ltF, leT, leF, eqT', eqF, ltTn, leTn, ltFn, leFn, wrapI, mid]
    exact rshift_d hok
  simp (disch := first | omega | (simp; done) | (simp; omega)) [ltT, ltF, leT, leF, eqT', eqF, ltTn, leTn, ltFn, leFn, wrapI, mid]
  refine (tableOf_V text d hl _).useV ?_
  rw [tableOf_parse text d h1 (by omega)]
  simp (disch := first | omega | (simp; done) | (simp; omega)) [ltT, ltF, leT, leF, eqT', eqF, ltTn, leTn, ltFn, leFn, wrapI, mid]
  refine (sameTable_V (parseS text d).1 (parseS text d).1 _ (by omega) (by omega) (fun r hr => by have := pr r hr; omega) (fun r hr => by have := pr r hr; omega)).useV ?_
  simp (disch := first | omega | (simp; done) | (simp; omega)) [ltT, ltF, leT, leF, eqT', eqF, ltTn, leTn, ltFn, leFn, wrapI, mid]
  refine (tabled_V _).useV ?_
  simp (disch := first | omega | (simp; done) | (simp; omega)) [ltT, ltF, leT, leF, eqT', eqF, ltTn, leTn, ltFn, leFn, wrapI, mid]
  exact rshift_d hok

end Go.Vm
