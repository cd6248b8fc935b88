/- csv: Parse. -/
import Derived.Test.YtggeifnbllfmbaaDoorCs6
namespace Go.Vm
open Proofs
set_option maxRecDepth 20000
set_option maxHeartbeats 1000000
set_option linter.unusedSimpArgs false

theorem rowEnd_suffix : ∀ l, l ≠ [] → ∃ p, p ≠ [] ∧ p ++ (rowEnd l).1 = l
  | [], h => (h rfl).elim
  | c :: l, _ => by
    by_cases h1 : c = 13
    · cases l with
      | nil => exact ⟨[c], by simp, by simp [rowEnd, h1]⟩
      | cons e l2 =>
        by_cases h2 : e = 10
        · exact ⟨[c, e], by simp, by simp [rowEnd, h1, h2]⟩
        · exact ⟨[c], by simp, by simp [rowEnd, h1, h2]⟩
    · exact ⟨[c], by simp, by simp [rowEnd, h1]⟩

theorem rowS_suffix (d : Dia) : ∀ (n : Nat) (l : List UInt8), ∃ p, p ++ (rowS n d l).2.1 = l ∧ ((rowS n d l).2.2 = true → (rowS n d l).1.length ≤ p.length + 1 ∧ (l ≠ [] → p ≠ []))
  | 0, l => ⟨[], rfl, by simp [rowS]⟩
  | n + 1, l => by
    obtain ⟨p, hp⟩ := cellS_suffix d l
    rw [rowS]
    rcases hc : cellS d l with ⟨s, r, ok⟩
    rw [hc] at hp
    simp only at hp
    cases ok with
    | false => exact ⟨p, hp, by simp⟩
    | true =>
      cases r with
      | nil => exact ⟨l, by simp, by simp⟩
      | cons c l2 =>
        by_cases h1 : c = d.sep
        · simp only [if_pos h1]
          obtain ⟨q, hq, hq2⟩ := rowS_suffix d n l2
          rcases hr : rowS n d l2 with ⟨t, r2, ok2⟩
          rw [hr] at hq hq2
          simp only at hq hq2
          have : (p ++ c :: q) ++ r2 = l := by rw [← hp, ← hq]; simp
          cases ok2 with
          | false => exact ⟨_, this, by simp⟩
          | true =>
            obtain ⟨h3, _⟩ := hq2 rfl
            exact ⟨_, this, fun _ => ⟨by simp; omega, by simp⟩⟩
        · simp only [if_neg h1]
          obtain ⟨q, hq1, hq⟩ := rowEnd_suffix (c :: l2) (by simp)
          rcases hr : rowEnd (c :: l2) with ⟨r2, ok2⟩
          rw [hr] at hq
          simp only at hq
          have : (p ++ q) ++ r2 = l := by rw [← hp, ← hq]; simp
          cases ok2 with
          | false => exact ⟨_, this, by simp⟩
          | true => exact ⟨_, this, fun _ => ⟨by simp, by simp [hq1]⟩⟩

def rowsS : Nat → Dia → List UInt8 → List (List (List UInt8)) × List UInt8 × Bool
  | 0, _, rest => ([], rest, false)
  | n + 1, d, rest => if rest = [] then ([], [], true) else
    match rowS (rest.length + 1) d rest with
    | (_, r, false) => ([], r, false)
    | (row, r, true) => match rowsS n d r with
      | (t, r2, true) => (row :: t, r2, true)
      | (_, r2, false) => ([], r2, false)
def accRows (acc : List (List (List UInt8))) (o : List (List (List UInt8)) × List UInt8 × Bool) : List (List (List UInt8)) × List UInt8 × Bool := if o.2.2 = true then (acc ++ o.1, o.2) else ([], o.2)
def parseS (text : List UInt8) (d : Dia) : List (List (List UInt8)) × (Int × Int) :=
  if (diaFault d).1 ≠ 0 then ([], diaFault d) else if 4000 < text.length then ([], (3, -2)) else
    if (rowsS (text.length + 1) d text).2.2 = true then
      if (tabFault (rowsS (text.length + 1) d text).1 (-3)).1 ≠ 0 then ([], tabFault (rowsS (text.length + 1) d text).1 (-3)) else ((rowsS (text.length + 1) d text).1, (0, 0))
    else ([], (1, ((text.length - (rowsS (text.length + 1) d text).2.1.length : Nat) : Int)))
theorem rowsS_nil (d : Dia) : ∀ (n : Nat) (l : List UInt8), (rowsS n d l).2.2 = false → (rowsS n d l).1 = []
  | 0, _, _ => rfl
  | n + 1, l, h => by
    rw [rowsS] at h ⊢
    split
    · rfl
    · rename_i h0
      rw [if_neg h0] at h
      rcases hr : rowS (l.length + 1) d l with ⟨row, r, ok⟩
      rw [hr] at h
      cases ok with
      | false => rfl
      | true =>
        simp only at h ⊢
        rcases ht : rowsS n d r with ⟨t, r2, ok2⟩
        rw [ht] at h
        cases ok2 <;> simp at h ⊢

theorem parse_V (text : List UInt8) (d : Dia) (hl : text.length ≤ 1048576) (h : List Blk) :
    CallP Tryd.prog 18 [.d (.str text), .d (encDia d)] h (.tup [.d (.sl 39 ((parseS text d).1.map encR)), .d (encF (parseS text d).2)]) := by
  refine callW tb_ok fn18 (by simp) (fun hok => ?_)
  simp (disch := first | omega | (simp; done) | (simp; omega)) [ltT, ltF, leT, leF, eqT', eqF, ltTn, leTn, ltFn, leFn, wrapI, mid, c18]
  refine (validate_V d _).useV ?_
  by_cases h1 : (diaFault d).1 ≠ 0
  · simp (disch := first | omega | (simp; done) | (simp; omega)) [ltT, ltF, leT, leF, eqT', eqF, ltTn, leTn, ltFn, leFn, wrapI, mid, h1, parseS]
    exact RShift.subs ⟨.nil _, .refl _, trivial⟩ (by simp) hok (Nat.le_refl _)
  by_cases h2 : 4000 < text.length
  · simp (disch := first | omega | (simp; done) | (simp; omega)) [ltT, ltF, leT, leF, eqT', eqF, ltTn, leTn, ltFn, leFn, wrapI, mid, h1, h2, parseS]
    exact RShift.subs ⟨.nil _, .refl _, trivial⟩ (by simp) hok (Nat.le_refl _)
  simp (disch := first | omega | (simp; done) | (simp; omega)) [ltT, ltF, leT, leF, eqT', eqF, ltTn, leTn, ltFn, leFn, wrapI, mid, h1]
  have hd := diaFault_ok h1
  rw [hd]
  obtain ⟨res, hres⟩ : ∃ res, rowsS (text.length + 1) d text = res := ⟨_, rfl⟩
  have hps : parseS text d = if res.2.2 = true then (if (tabFault res.1 (-3)).1 ≠ 0 then ([], tabFault res.1 (-3)) else (res.1, (0, 0))) else ([], (1, ((text.length - res.2.1.length : Nat) : Int))) := by
    rw [parseS, if_neg h1, if_neg h2, hres]
  rw [hps]
  refine W_loopA (ι := List (List (List UInt8)) × List UInt8 × List UInt8 × Nat) (fun p => p.2.1 ++ p.2.2.1 = text ∧ accRows p.1 (rowsS p.2.2.2 d p.2.2.1) = res ∧ p.2.2.1.length < p.2.2.2 ∧ p.1.length ≤ p.2.1.length ∧ total p.1 ≤ p.2.1.length + p.1.length)
    (fun p => ⟨[(0, .d (.str text)), (5, .ptr (h.length + 1) 26 0 0), (7, .ptr (h.length + 3) 69 0 0), (8, .bl (h.length + 4) 39 (p.1.map encR))],
      h ++ [.cells 24 [.d (encDia d)], .cells 26 [.d (encF (0, 0))], .cells 26 [.d (encF (0, 0))], rdB d text p.2.1.length, .tail 39 p.1.length]⟩) (fun p => p.2.2.1.length) ([], [], text, text.length + 1) ⟨rfl, ?_, by simp, by simp, by simp [total]⟩
    ((Shift.nilbl (i := 8) 39 (by simp)).trans (Shift.slots' (by simp [rdB]) (by simp))) ?_
  · rw [hres, accRows]
    split
    · simp
    · rename_i h3
      have := rowsS_nil d (text.length + 1) text (by rw [hres]; simpa using h3)
      rw [hres] at this
      rw [← this]
  rintro ⟨acc, P, rest, n⟩ ⟨hx, hc, hn, ha, hta⟩ A hA
  simp only at hx hc hn ha hta
  have hlen : text.length = P.length + rest.length := by rw [← hx]; simp
  obtain ⟨n, rfl⟩ : ∃ m, n = m + 1 := ⟨n - 1, by omega⟩
  rw [rowsS] at hc
  cases hrest : rest with
  | nil =>
    subst hrest
    simp only [if_true, accRows, List.append_nil] at hc
    simp only [List.length_nil] at hlen
    simp (disch := first | omega | (simp; done) | (simp; omega)) [ltT, ltF, leT, leF, eqT', eqF, ltTn, leTn, ltFn, leFn, wrapI, mid, rdB]
    refine CallP.useV (CallP.subs (check_V acc (-3) (by omega) (by omega) _) ⟨.bl _ _ _, .refl _, trivial⟩) ?_
    by_cases h4 : (tabFault acc (-3)).1 ≠ 0
    · simp (disch := first | omega | (simp; done) | (simp; omega)) [ltT, ltF, leT, leF, eqT', eqF, ltTn, leTn, ltFn, leFn, wrapI, mid, h4, ← hc]
      exact RShift.subs ⟨.nil _, .refl _, trivial⟩ (by simp) hok (Nat.le_refl _)
    · simp (disch := first | omega | (simp; done) | (simp; omega)) [ltT, ltF, leT, leF, eqT', eqF, ltTn, leTn, ltFn, leFn, wrapI, mid, h4, ← hc]
      exact RShift.subs ⟨.bl _ _ _, .refl _, trivial⟩ (by simp) hok (Nat.le_refl _)
  | cons c l =>
    have hne : rest ≠ [] := by simp [hrest]
    have hpos : 0 < rest.length := List.length_pos_iff.mpr hne
    rw [← hrest]
    rw [if_neg hne] at hc
    simp (disch := first | omega | (simp; done) | (simp; omega)) [ltT, ltF, leT, leF, eqT', eqF, ltTn, leTn, ltFn, leFn, wrapI, mid, rdB]
    refine callV_of (row_V (b := h.length + 3) (d := d) (pre := P) (rest := rest) (text := text) hx (by simp [rdB]) hl (rest.length + 1) (by omega)) ?_
    rintro _ _ ⟨rfl, rfl⟩
    obtain ⟨p, hp, hp2⟩ := rowS_suffix d (rest.length + 1) rest
    rcases hr : rowS (rest.length + 1) d rest with ⟨row, r, ok⟩
    rw [hr] at hc hp hp2
    simp only at hc hp hp2
    have hx2 : (P ++ p) ++ r = text := by rw [List.append_assoc, hp]; exact hx
    have hlen2 : text.length = P.length + p.length + r.length := by rw [← hx2]; simp [Nat.add_assoc]
    cases ok with
    | false =>
      simp only [accRows] at hc
      simp (disch := first | omega | (simp; done) | (simp; omega)) [ltT, ltF, leT, leF, eqT', eqF, ltTn, leTn, ltFn, leFn, wrapI, mid, ← hc, rowV, rdB]
      exact RShift.subs ⟨.nil _, .refl _, trivial⟩ (by simp) hok (Nat.le_refl _)
    | true =>
      obtain ⟨hp3, hp4⟩ := hp2 rfl
      have hp5 : 0 < p.length := List.length_pos_iff.mpr (hp4 hne)
      have hc' : accRows (acc ++ [row]) (rowsS n d r) = res := by
        rw [← hc]
        rcases ht : rowsS n d r with ⟨t, r2, ok2⟩
        cases ok2 <;> simp [accRows, ht]
      have e1 : text.length - r.length = P.length + p.length := by omega
      simp (disch := first | omega | (simp; done) | (simp; omega)) [ltT, ltF, leT, leF, eqT', eqF, ltTn, leTn, ltFn, leFn, wrapI, mid, rowV, rdB]
      refine ⟨rfl, ?_⟩
      exact hA (acc ++ [row], P ++ p, r, n) _ ⟨hx2, hc', by simp; omega, by simp; omega, by simp [total_app, total]; omega⟩ (by simp; omega) (Shift.slots' (by simp [rdB, e1]) (by simp))

end Go.Vm
