/- date: Format. -/
import Derived.Test.YtjjpkeajlgbleaaDoorDt12
namespace Go.Vm
open Proofs
set_option maxRecDepth 20000
set_option maxHeartbeats 4000000
set_option linter.unusedSimpArgs false

def formatS (m : Mo) (p : List UInt8) : List UInt8 × (Int × Int) := if (momF m).1 ≠ 0 then ([], momF m) else if (patF 100 p).1 ≠ 0 then ([], patF 100 p) else (fmtS m p, (0, 0))

theorem patFrom_cons {f : Int} {c e : UInt8} {l : List UInt8} {i : Nat} (h2 : c ≠ 37) : patFrom f i (c :: e :: l) = patFrom f (i + 1) (e :: l) := by rw [patFrom, if_pos h2]
theorem split_at {α : Type} (l : List α) (n : Nat) (h : n < l.length) : ∃ a x b, l = a ++ x :: b ∧ a.length = n :=
  ⟨l.take n, l[n], l.drop (n + 1), by rw [List.getElem_cons_drop, List.take_append_drop], by simp; omega⟩
theorem names_len : (∀ x ∈ dayNames, x.length = 3) ∧ ∀ x ∈ monthNames, x.length = 3 := by decide
theorem dirBel (n : Nat) : BlkBel n (.map dirEs) := by
  intro x hx
  simp only [dirEs, List.mem_cons, List.not_mem_nil, or_false] at hx
  rcases hx with rfl | rfl | rfl | rfl | rfl | rfl | rfl | rfl | rfl | rfl | rfl | rfl <;> exact .d _

theorem format_V (m : Mo) (p : List UInt8) (hp : p.length ≤ 1048576) (h : List Blk) : CallP Tryd.prog 15 [.d (encMo m), .d (.str p)] h (.tup [.d (.str (formatS m p).1), .d (encF (formatS m p).2)]) := by
  refine callW tb_ok fn15 (by simp) (fun hok => ?_)
  simp (disch := first | omega | (simp; done) | (simp; omega)) [ltT, ltF, leT, leF, eqT', eqF, ltTn, leTn, ltFn, leFn, wrapI, mid, c15]
  refine (check_V m _).useV ?_
  by_cases h1 : (momF m).1 ≠ 0
  · rw [show formatS m p = ([], momF m) from by unfold formatS; rw [if_pos h1]]
    simp (disch := first | omega | (simp; done) | (simp; omega)) [ltT, ltF, leT, leF, eqT', eqF, ltTn, leTn, ltFn, leFn, wrapI, mid, h1]
    exact RShift.subs ⟨.refl _, .refl _, trivial⟩ (by simp) hok (Nat.le_refl _)
  obtain ⟨hz, hm⟩ := momF_ok h1
  simp (disch := first | omega | (simp; done) | (simp; omega)) [ltT, ltF, leT, leF, eqT', eqF, ltTn, leTn, ltFn, leFn, wrapI, mid, hz]
  refine (checkPattern_V p 100 hp (by omega) (by omega) _).useV ?_
  by_cases h2 : (patF 100 p).1 ≠ 0
  · rw [show formatS m p = ([], patF 100 p) from by unfold formatS; rw [if_neg h1, if_pos h2]]
    simp (disch := first | omega | (simp; done) | (simp; omega)) [ltT, ltF, leT, leF, eqT', eqF, ltTn, leTn, ltFn, leFn, wrapI, mid, h2]
    exact RShift.subs ⟨.refl _, .refl _, trivial⟩ (by simp) hok (Nat.le_refl _)
  rw [show formatS m p = (fmtS m p, (0, 0)) from by unfold formatS; rw [if_neg h1, if_neg h2]]
  have hp2 : p.length ≤ 200 := by
    unfold patF at h2
    by_cases c : 200 < p.length
    · rw [if_pos c] at h2; simp at h2
    · omega
  have hpz : (patFrom 100 0 p).1 = 0 := by
    unfold patF at h2
    rw [if_neg (by omega)] at h2
    simpa using h2
  obtain ⟨pf, hpf⟩ : ∃ pf, pf = patF 100 p := ⟨_, rfl⟩
  rw [← hpf] at h2
  simp (disch := first | omega | (simp; done) | (simp; omega)) [ltT, ltF, leT, leF, eqT', eqF, ltTn, leTn, ltFn, leFn, wrapI, mid, h2, ← hpf]
  refine callV_of (directives_V _) ?_
  rintro _ _ ⟨rfl, rfl⟩
  simp (disch := first | omega | (simp; done) | (simp; omega)) [ltT, ltF, leT, leF, eqT', eqF, ltTn, leTn, ltFn, leFn, wrapI, mid]
  have hH : ∀ (fr : Bool) (s : List UInt8), HOk (h ++ [.cells 23 [.d (encMo m)], .cells 25 [.d (encF (0, 0))], .cells 25 [.d (encF (0, 0))], .cells 25 [.d (encF pf)], .map dirEs, bldB (h.length + 5) (h.length + 6) fr s, rowB s]) := by
    intro fr s
    refine hok.append ?_
    intro z hz
    simp only [List.mem_cons, List.not_mem_nil, or_false] at hz
    rcases hz with rfl | rfl | rfl | rfl | rfl | rfl | rfl
    · exact bel_cellsD _ _ _
    · exact bel_cellsD _ _ _
    · exact bel_cellsD _ _ _
    · exact bel_cellsD _ _ _
    · exact dirBel _
    · intro y hy z hz
      rw [List.mem_singleton] at hy
      subst hy
      simp only [AV.cells, List.mem_cons, List.not_mem_nil, or_false] at hz
      rcases hz with rfl | rfl
      · exact bel_bcell (by simp) fr
      · unfold bufB; split
        · exact .d _
        · simp
    · trivial
  refine W_loopA (ι := List UInt8 × List UInt8 × List UInt8 × Bool) (fun q => q.1 ++ q.2.1 = p ∧ q.2.2.1 ++ fmtS m q.2.1 = fmtS m p ∧ (patFrom 100 q.1.length q.2.1).1 = 0 ∧ q.2.2.1.length ≤ 5 * q.1.length) (fun q => ⟨[(1, .d (.str p)), (2, .ptr h.length 23 0 0), (5, .ptr (h.length + 1) 25 0 0), (8, .map (h.length + 4)), (9, .ptr (h.length + 5) 68 0 0), (10, .d (.int .i64 q.1.length))],
    h ++ [.cells 23 [.d (encMo m)], .cells 25 [.d (encF (0, 0))], .cells 25 [.d (encF (0, 0))], .cells 25 [.d (encF pf)], .map dirEs, bldB (h.length + 5) (h.length + 6) q.2.2.2 q.2.2.1, rowB q.2.2.1]⟩) (fun q => q.2.1.length) ([], p, [], true) ⟨rfl, rfl, hpz, by simp⟩ ?_ ?_
  · refine (Shift.openB (b := h.length + 5) (e := 5) (T := 68) (x := .d (.agg [.nilptr, .nilsl])) rfl (by simp) rfl).trans (Shift.slots' ?_ (by simp))
    simp [bldB, bcell, bufB, rowB]
  rintro ⟨pre, rest, acc, fr⟩ ⟨hx, hc, hpat, hal⟩ A hA
  simp only at hx hc hpat hal
  have hlen := congrArg List.length hx
  simp only [List.length_append] at hlen
  match rest, hc, hx, hA, hlen, hpat with
  | [], hc, hx, hA, hlen, hpat =>
    simp only [List.append_nil] at hx
    simp only [fmtS, List.append_nil] at hc
    subst hx
    simp (disch := first | omega | (simp; done) | (simp; omega)) [ltT, ltF, leT, leF, eqT', eqF, ltTn, leTn, ltFn, leFn, wrapI, mid]
    refine callV_of (string_V (b := h.length + 5) (k := h.length + 6) (fr := fr) (s := acc) (by simp) (by simp) (by omega)) ?_
    rintro _ _ ⟨rfl, rfl⟩
    simp (disch := first | omega | (simp; done) | (simp; omega)) [ltT, ltF, leT, leF, eqT', eqF, ltTn, leTn, ltFn, leFn, wrapI, mid, hc]
    exact RShift.drop (.refl _) (by simp) hok (Nat.le_refl _)
  | [c], hc, hx, hA, hlen, hpat =>
    subst hx
    simp only [List.length_cons, List.length_nil] at hlen
    by_cases h3 : c = 37
    · simp [patFrom, h3] at hpat
    · simp (disch := first | omega | (simp; done) | (simp; omega)) [ltT, ltF, leT, leF, eqT', eqF, ltTn, leTn, ltFn, leFn, wrapI, mid, u8_37, eq_false h3]
      refine callV_of (writeByte_V (b := h.length + 5) (k := h.length + 6) (fr := fr) (s := acc) c (by simp) (by simp) (by omega) (by omega)) ?_
      rintro _ _ ⟨rfl, rfl⟩
      simp (disch := first | omega | (simp; done) | (simp; omega)) [ltT, ltF, leT, leF, eqT', eqF, ltTn, leTn, ltFn, leFn, wrapI, mid]
      exact hA (pre ++ [c], [], acc ++ [c], false) _ ⟨by simp, by rw [← hc]; simp [fmtS], by simp [patFrom], by simp; omega⟩ (by simp) (Shift.slots' (by simp) (by simp))
  | c :: e :: l, hc, hx, hA, hlen, hpat =>
    subst hx
    simp only [List.length_cons] at hlen
    by_cases h3 : c = 37
    · have h3' : ¬ c ≠ 37 := by simpa using h3
      rw [patFrom, if_neg h3'] at hpat
      rw [fmtS, if_neg h3'] at hc
      have hlet : letL.contains e = true := by
        cases hl : letL.contains e with
        | true => rfl
        | false => rw [hl] at hpat; simp at hpat
      rw [if_pos hlet] at hpat
      by_cases h4 : e = 37
      · rw [if_pos h4] at hc
        simp (disch := first | omega | (simp; done) | (simp; omega)) [ltT, ltF, leT, leF, eqT', eqF, ltTn, leTn, ltFn, leFn, wrapI, mid, u8_37, eq_true h3, eq_true h4]
        refine callV_of (writeByte_V (b := h.length + 5) (k := h.length + 6) (fr := fr) (s := acc) 37 (by simp) (by simp) (by omega) (by omega)) ?_
        rintro _ _ ⟨rfl, rfl⟩
        simp (disch := first | omega | (simp; done) | (simp; omega)) [ltT, ltF, leT, leF, eqT', eqF, ltTn, leTn, ltFn, leFn, wrapI, mid]
        exact hA (pre ++ [c, e], l, acc ++ [37], false) _ ⟨by simp, by rw [← hc]; simp, by simpa using hpat, by simp; omega⟩ (by simp only [List.length_cons]; omega) (Shift.slots' (by simp) (by simp [Int.add_assoc]))
      rw [if_neg h4] at hc
      have hem : e = 89 ∨ e = 109 ∨ e = 100 ∨ e = 72 ∨ e = 77 ∨ e = 83 ∨ e = 106 ∨ e = 71 ∨ e = 86 ∨ e = 117 ∨ e = 97 ∨ e = 98 := by
        simp [letL] at hlet
        simp [h4] at hlet
        rcases hlet with h | h | h | h | h | h | h | h | h | h | h | h <;> simp [h]
      have hr := Mo.day_range hm
      have hw := weekS_bnd hm
      have hdo := doy_bnd2 hm
      have hml := dim_le m.y m.m
      obtain ⟨⟨m1, m2, m3, m4, m5, m6⟩, m7, m8, m9⟩ := id hm
      have fin : ∀ (s : List UInt8), s = fmtDir m e → s.length ≤ 5 → ∀ (env : Env), Shift Tryd.prog h.length 81 env ⟨[(1, .d (.str (pre ++ c :: e :: l))), (2, .ptr h.length 23 0 0), (5, .ptr (h.length + 1) 25 0 0), (8, .map (h.length + 4)), (9, .ptr (h.length + 5) 68 0 0), (10, .d (.int .i64 ((pre.length : Int) + 2)))],
          h ++ [.cells 23 [.d (encMo m)], .cells 25 [.d (encF (0, 0))], .cells 25 [.d (encF (0, 0))], .cells 25 [.d (encF pf)], .map dirEs, bldB (h.length + 5) (h.length + 6) false (acc ++ s), rowB (acc ++ s)]⟩ → A env := by
        intro s hs hs5 env hsh
        refine hA (pre ++ [c, e], l, acc ++ s, false) env ⟨by simp, by rw [← hc, hs]; simp, by simpa using hpat, by simp; omega⟩ (by simp only [List.length_cons]; omega) ?_
        have : ((pre ++ [c, e]).length : Int) = (pre.length : Int) + 2 := by simp
        simp only [this]
        exact hsh
      clear hA hc
      rcases hem with rfl | rfl | rfl | rfl | rfl | rfl | rfl | rfl | rfl | rfl | rfl | rfl
      · -- 89
        simp (disch := first | omega | (simp; done) | (simp; omega)) [ltT, ltF, leT, leF, eqT', eqF, ltTn, leTn, ltFn, leFn, wrapI, mid, u8_37, eq_true h3, dirEs, encDir]
        refine (v71_V m  _).useV ?_
        simp (disch := first | omega | (simp; done) | (simp; omega)) [ltT, ltF, leT, leF, eqT', eqF, ltTn, leTn, ltFn, leFn, wrapI, mid]
        refine (itoa_V m.y (by omega) (by omega) _).useV ?_
        have hil := itoa_len (n := m.y) (by omega) (by omega)
        have emax : max (0 : Int) (4 - ((Lib.itoa m.y).length : Int)) = ((4 - (Lib.itoa m.y).length : Nat) : Int) := by omega
        have hpl : (padS 4 m.y).length ≤ 5 := padS_len 4 (by omega) (by omega) (by omega)
        simp (disch := first | omega | (simp; done) | (simp; omega)) [ltT, ltF, leT, leF, eqT', eqF, ltTn, leTn, ltFn, leFn, wrapI, mid, emax]
        refine (repeat_V [48] (4 - (Lib.itoa m.y).length) (by simp) (by omega) _).useV ?_
        have hll := Lib.repeatL_length [48] (4 - (Lib.itoa m.y).length)
        simp only [List.length_cons, List.length_nil] at hll
        simp (disch := first | omega | (simp; done) | (simp; omega)) [ltT, ltF, leT, leF, eqT', eqF, ltTn, leTn, ltFn, leFn, wrapI, mid]
        refine callV_of (writeString_V (b := h.length + 5) (k := h.length + 6) (fr := fr) (s := acc) (padS 4 m.y) (by simp) (by simp) (by omega) (by omega)) ?_
        rintro _ _ ⟨rfl, rfl⟩
        simp (disch := first | omega | (simp; done) | (simp; omega)) [ltT, ltF, leT, leF, eqT', eqF, ltTn, leTn, ltFn, leFn, wrapI, mid]
        exact fin (padS 4 m.y) (by simp [fmtDir]) hpl _ (Shift.weak' (g := [.cells 74 [.d (encDir 4 .nilsl 71)]]) (by simp [encDir, dirEs]) (hH _ _) (by simp) (by simp [Int.add_assoc]))
      · -- 109
        simp (disch := first | omega | (simp; done) | (simp; omega)) [ltT, ltF, leT, leF, eqT', eqF, ltTn, leTn, ltFn, leFn, wrapI, mid, u8_37, eq_true h3, dirEs, encDir]
        refine (v72_V m  _).useV ?_
        simp (disch := first | omega | (simp; done) | (simp; omega)) [ltT, ltF, leT, leF, eqT', eqF, ltTn, leTn, ltFn, leFn, wrapI, mid]
        refine (itoa_V m.m (by omega) (by omega) _).useV ?_
        have hil := itoa_len (n := m.m) (by omega) (by omega)
        have emax : max (0 : Int) (2 - ((Lib.itoa m.m).length : Int)) = ((2 - (Lib.itoa m.m).length : Nat) : Int) := by omega
        have hpl : (padS 2 m.m).length ≤ 5 := padS_len 2 (by omega) (by omega) (by omega)
        simp (disch := first | omega | (simp; done) | (simp; omega)) [ltT, ltF, leT, leF, eqT', eqF, ltTn, leTn, ltFn, leFn, wrapI, mid, emax]
        refine (repeat_V [48] (2 - (Lib.itoa m.m).length) (by simp) (by omega) _).useV ?_
        have hll := Lib.repeatL_length [48] (2 - (Lib.itoa m.m).length)
        simp only [List.length_cons, List.length_nil] at hll
        simp (disch := first | omega | (simp; done) | (simp; omega)) [ltT, ltF, leT, leF, eqT', eqF, ltTn, leTn, ltFn, leFn, wrapI, mid]
        refine callV_of (writeString_V (b := h.length + 5) (k := h.length + 6) (fr := fr) (s := acc) (padS 2 m.m) (by simp) (by simp) (by omega) (by omega)) ?_
        rintro _ _ ⟨rfl, rfl⟩
        simp (disch := first | omega | (simp; done) | (simp; omega)) [ltT, ltF, leT, leF, eqT', eqF, ltTn, leTn, ltFn, leFn, wrapI, mid]
        exact fin (padS 2 m.m) (by simp [fmtDir]) hpl _ (Shift.weak' (g := [.cells 74 [.d (encDir 2 .nilsl 72)]]) (by simp [encDir, dirEs]) (hH _ _) (by simp) (by simp [Int.add_assoc]))
      · -- 100
        simp (disch := first | omega | (simp; done) | (simp; omega)) [ltT, ltF, leT, leF, eqT', eqF, ltTn, leTn, ltFn, leFn, wrapI, mid, u8_37, eq_true h3, dirEs, encDir]
        refine (v73_V m  _).useV ?_
        simp (disch := first | omega | (simp; done) | (simp; omega)) [ltT, ltF, leT, leF, eqT', eqF, ltTn, leTn, ltFn, leFn, wrapI, mid]
        refine (itoa_V m.d (by omega) (by omega) _).useV ?_
        have hil := itoa_len (n := m.d) (by omega) (by omega)
        have emax : max (0 : Int) (2 - ((Lib.itoa m.d).length : Int)) = ((2 - (Lib.itoa m.d).length : Nat) : Int) := by omega
        have hpl : (padS 2 m.d).length ≤ 5 := padS_len 2 (by omega) (by omega) (by omega)
        simp (disch := first | omega | (simp; done) | (simp; omega)) [ltT, ltF, leT, leF, eqT', eqF, ltTn, leTn, ltFn, leFn, wrapI, mid, emax]
        refine (repeat_V [48] (2 - (Lib.itoa m.d).length) (by simp) (by omega) _).useV ?_
        have hll := Lib.repeatL_length [48] (2 - (Lib.itoa m.d).length)
        simp only [List.length_cons, List.length_nil] at hll
        simp (disch := first | omega | (simp; done) | (simp; omega)) [ltT, ltF, leT, leF, eqT', eqF, ltTn, leTn, ltFn, leFn, wrapI, mid]
        refine callV_of (writeString_V (b := h.length + 5) (k := h.length + 6) (fr := fr) (s := acc) (padS 2 m.d) (by simp) (by simp) (by omega) (by omega)) ?_
        rintro _ _ ⟨rfl, rfl⟩
        simp (disch := first | omega | (simp; done) | (simp; omega)) [ltT, ltF, leT, leF, eqT', eqF, ltTn, leTn, ltFn, leFn, wrapI, mid]
        exact fin (padS 2 m.d) (by simp [fmtDir]) hpl _ (Shift.weak' (g := [.cells 74 [.d (encDir 2 .nilsl 73)]]) (by simp [encDir, dirEs]) (hH _ _) (by simp) (by simp [Int.add_assoc]))
      · -- 72
        simp (disch := first | omega | (simp; done) | (simp; omega)) [ltT, ltF, leT, leF, eqT', eqF, ltTn, leTn, ltFn, leFn, wrapI, mid, u8_37, eq_true h3, dirEs, encDir]
        refine (v74_V m  _).useV ?_
        simp (disch := first | omega | (simp; done) | (simp; omega)) [ltT, ltF, leT, leF, eqT', eqF, ltTn, leTn, ltFn, leFn, wrapI, mid]
        refine (itoa_V m.h (by omega) (by omega) _).useV ?_
        have hil := itoa_len (n := m.h) (by omega) (by omega)
        have emax : max (0 : Int) (2 - ((Lib.itoa m.h).length : Int)) = ((2 - (Lib.itoa m.h).length : Nat) : Int) := by omega
        have hpl : (padS 2 m.h).length ≤ 5 := padS_len 2 (by omega) (by omega) (by omega)
        simp (disch := first | omega | (simp; done) | (simp; omega)) [ltT, ltF, leT, leF, eqT', eqF, ltTn, leTn, ltFn, leFn, wrapI, mid, emax]
        refine (repeat_V [48] (2 - (Lib.itoa m.h).length) (by simp) (by omega) _).useV ?_
        have hll := Lib.repeatL_length [48] (2 - (Lib.itoa m.h).length)
        simp only [List.length_cons, List.length_nil] at hll
        simp (disch := first | omega | (simp; done) | (simp; omega)) [ltT, ltF, leT, leF, eqT', eqF, ltTn, leTn, ltFn, leFn, wrapI, mid]
        refine callV_of (writeString_V (b := h.length + 5) (k := h.length + 6) (fr := fr) (s := acc) (padS 2 m.h) (by simp) (by simp) (by omega) (by omega)) ?_
        rintro _ _ ⟨rfl, rfl⟩
        simp (disch := first | omega | (simp; done) | (simp; omega)) [ltT, ltF, leT, leF, eqT', eqF, ltTn, leTn, ltFn, leFn, wrapI, mid]
        exact fin (padS 2 m.h) (by simp [fmtDir]) hpl _ (Shift.weak' (g := [.cells 74 [.d (encDir 2 .nilsl 74)]]) (by simp [encDir, dirEs]) (hH _ _) (by simp) (by simp [Int.add_assoc]))
      · -- 77
        simp (disch := first | omega | (simp; done) | (simp; omega)) [ltT, ltF, leT, leF, eqT', eqF, ltTn, leTn, ltFn, leFn, wrapI, mid, u8_37, eq_true h3, dirEs, encDir]
        refine (v75_V m  _).useV ?_
        simp (disch := first | omega | (simp; done) | (simp; omega)) [ltT, ltF, leT, leF, eqT', eqF, ltTn, leTn, ltFn, leFn, wrapI, mid]
        refine (itoa_V m.mi (by omega) (by omega) _).useV ?_
        have hil := itoa_len (n := m.mi) (by omega) (by omega)
        have emax : max (0 : Int) (2 - ((Lib.itoa m.mi).length : Int)) = ((2 - (Lib.itoa m.mi).length : Nat) : Int) := by omega
        have hpl : (padS 2 m.mi).length ≤ 5 := padS_len 2 (by omega) (by omega) (by omega)
        simp (disch := first | omega | (simp; done) | (simp; omega)) [ltT, ltF, leT, leF, eqT', eqF, ltTn, leTn, ltFn, leFn, wrapI, mid, emax]
        refine (repeat_V [48] (2 - (Lib.itoa m.mi).length) (by simp) (by omega) _).useV ?_
        have hll := Lib.repeatL_length [48] (2 - (Lib.itoa m.mi).length)
        simp only [List.length_cons, List.length_nil] at hll
        simp (disch := first | omega | (simp; done) | (simp; omega)) [ltT, ltF, leT, leF, eqT', eqF, ltTn, leTn, ltFn, leFn, wrapI, mid]
        refine callV_of (writeString_V (b := h.length + 5) (k := h.length + 6) (fr := fr) (s := acc) (padS 2 m.mi) (by simp) (by simp) (by omega) (by omega)) ?_
        rintro _ _ ⟨rfl, rfl⟩
        simp (disch := first | omega | (simp; done) | (simp; omega)) [ltT, ltF, leT, leF, eqT', eqF, ltTn, leTn, ltFn, leFn, wrapI, mid]
        exact fin (padS 2 m.mi) (by simp [fmtDir]) hpl _ (Shift.weak' (g := [.cells 74 [.d (encDir 2 .nilsl 75)]]) (by simp [encDir, dirEs]) (hH _ _) (by simp) (by simp [Int.add_assoc]))
      · -- 83
        simp (disch := first | omega | (simp; done) | (simp; omega)) [ltT, ltF, leT, leF, eqT', eqF, ltTn, leTn, ltFn, leFn, wrapI, mid, u8_37, eq_true h3, dirEs, encDir]
        refine (v76_V m  _).useV ?_
        simp (disch := first | omega | (simp; done) | (simp; omega)) [ltT, ltF, leT, leF, eqT', eqF, ltTn, leTn, ltFn, leFn, wrapI, mid]
        refine (itoa_V m.s (by omega) (by omega) _).useV ?_
        have hil := itoa_len (n := m.s) (by omega) (by omega)
        have emax : max (0 : Int) (2 - ((Lib.itoa m.s).length : Int)) = ((2 - (Lib.itoa m.s).length : Nat) : Int) := by omega
        have hpl : (padS 2 m.s).length ≤ 5 := padS_len 2 (by omega) (by omega) (by omega)
        simp (disch := first | omega | (simp; done) | (simp; omega)) [ltT, ltF, leT, leF, eqT', eqF, ltTn, leTn, ltFn, leFn, wrapI, mid, emax]
        refine (repeat_V [48] (2 - (Lib.itoa m.s).length) (by simp) (by omega) _).useV ?_
        have hll := Lib.repeatL_length [48] (2 - (Lib.itoa m.s).length)
        simp only [List.length_cons, List.length_nil] at hll
        simp (disch := first | omega | (simp; done) | (simp; omega)) [ltT, ltF, leT, leF, eqT', eqF, ltTn, leTn, ltFn, leFn, wrapI, mid]
        refine callV_of (writeString_V (b := h.length + 5) (k := h.length + 6) (fr := fr) (s := acc) (padS 2 m.s) (by simp) (by simp) (by omega) (by omega)) ?_
        rintro _ _ ⟨rfl, rfl⟩
        simp (disch := first | omega | (simp; done) | (simp; omega)) [ltT, ltF, leT, leF, eqT', eqF, ltTn, leTn, ltFn, leFn, wrapI, mid]
        exact fin (padS 2 m.s) (by simp [fmtDir]) hpl _ (Shift.weak' (g := [.cells 74 [.d (encDir 2 .nilsl 76)]]) (by simp [encDir, dirEs]) (hH _ _) (by simp) (by simp [Int.add_assoc]))
      · -- 106
        simp (disch := first | omega | (simp; done) | (simp; omega)) [ltT, ltF, leT, leF, eqT', eqF, ltTn, leTn, ltFn, leFn, wrapI, mid, u8_37, eq_true h3, dirEs, encDir]
        refine (v77_V m hm _).useV ?_
        simp (disch := first | omega | (simp; done) | (simp; omega)) [ltT, ltF, leT, leF, eqT', eqF, ltTn, leTn, ltFn, leFn, wrapI, mid]
        refine (itoa_V m.doy (by omega) (by omega) _).useV ?_
        have hil := itoa_len (n := m.doy) (by omega) (by omega)
        have emax : max (0 : Int) (3 - ((Lib.itoa m.doy).length : Int)) = ((3 - (Lib.itoa m.doy).length : Nat) : Int) := by omega
        have hpl : (padS 3 m.doy).length ≤ 5 := padS_len 3 (by omega) (by omega) (by omega)
        simp (disch := first | omega | (simp; done) | (simp; omega)) [ltT, ltF, leT, leF, eqT', eqF, ltTn, leTn, ltFn, leFn, wrapI, mid, emax]
        refine (repeat_V [48] (3 - (Lib.itoa m.doy).length) (by simp) (by omega) _).useV ?_
        have hll := Lib.repeatL_length [48] (3 - (Lib.itoa m.doy).length)
        simp only [List.length_cons, List.length_nil] at hll
        simp (disch := first | omega | (simp; done) | (simp; omega)) [ltT, ltF, leT, leF, eqT', eqF, ltTn, leTn, ltFn, leFn, wrapI, mid]
        refine callV_of (writeString_V (b := h.length + 5) (k := h.length + 6) (fr := fr) (s := acc) (padS 3 m.doy) (by simp) (by simp) (by omega) (by omega)) ?_
        rintro _ _ ⟨rfl, rfl⟩
        simp (disch := first | omega | (simp; done) | (simp; omega)) [ltT, ltF, leT, leF, eqT', eqF, ltTn, leTn, ltFn, leFn, wrapI, mid]
        exact fin (padS 3 m.doy) (by simp [fmtDir]) hpl _ (Shift.weak' (g := [.cells 74 [.d (encDir 3 .nilsl 77)]]) (by simp [encDir, dirEs]) (hH _ _) (by simp) (by simp [Int.add_assoc]))
      · -- 71
        simp (disch := first | omega | (simp; done) | (simp; omega)) [ltT, ltF, leT, leF, eqT', eqF, ltTn, leTn, ltFn, leFn, wrapI, mid, u8_37, eq_true h3, dirEs, encDir]
        refine (v79_V m hm _).useV ?_
        simp (disch := first | omega | (simp; done) | (simp; omega)) [ltT, ltF, leT, leF, eqT', eqF, ltTn, leTn, ltFn, leFn, wrapI, mid]
        refine (itoa_V (weekS m.y m.day).1 (by omega) (by omega) _).useV ?_
        have hil := itoa_len (n := (weekS m.y m.day).1) (by omega) (by omega)
        have emax : max (0 : Int) (4 - ((Lib.itoa (weekS m.y m.day).1).length : Int)) = ((4 - (Lib.itoa (weekS m.y m.day).1).length : Nat) : Int) := by omega
        have hpl : (padS 4 (weekS m.y m.day).1).length ≤ 5 := padS_len 4 (by omega) (by omega) (by omega)
        simp (disch := first | omega | (simp; done) | (simp; omega)) [ltT, ltF, leT, leF, eqT', eqF, ltTn, leTn, ltFn, leFn, wrapI, mid, emax]
        refine (repeat_V [48] (4 - (Lib.itoa (weekS m.y m.day).1).length) (by simp) (by omega) _).useV ?_
        have hll := Lib.repeatL_length [48] (4 - (Lib.itoa (weekS m.y m.day).1).length)
        simp only [List.length_cons, List.length_nil] at hll
        simp (disch := first | omega | (simp; done) | (simp; omega)) [ltT, ltF, leT, leF, eqT', eqF, ltTn, leTn, ltFn, leFn, wrapI, mid]
        refine callV_of (writeString_V (b := h.length + 5) (k := h.length + 6) (fr := fr) (s := acc) (padS 4 (weekS m.y m.day).1) (by simp) (by simp) (by omega) (by omega)) ?_
        rintro _ _ ⟨rfl, rfl⟩
        simp (disch := first | omega | (simp; done) | (simp; omega)) [ltT, ltF, leT, leF, eqT', eqF, ltTn, leTn, ltFn, leFn, wrapI, mid]
        exact fin (padS 4 (weekS m.y m.day).1) (by simp [fmtDir]) hpl _ (Shift.weak' (g := [.cells 74 [.d (encDir 4 .nilsl 79)]]) (by simp [encDir, dirEs]) (hH _ _) (by simp) (by simp [Int.add_assoc]))
      · -- 86
        simp (disch := first | omega | (simp; done) | (simp; omega)) [ltT, ltF, leT, leF, eqT', eqF, ltTn, leTn, ltFn, leFn, wrapI, mid, u8_37, eq_true h3, dirEs, encDir]
        refine (v80_V m hm _).useV ?_
        simp (disch := first | omega | (simp; done) | (simp; omega)) [ltT, ltF, leT, leF, eqT', eqF, ltTn, leTn, ltFn, leFn, wrapI, mid]
        refine (itoa_V (weekS m.y m.day).2 (by omega) (by omega) _).useV ?_
        have hil := itoa_len (n := (weekS m.y m.day).2) (by omega) (by omega)
        have emax : max (0 : Int) (2 - ((Lib.itoa (weekS m.y m.day).2).length : Int)) = ((2 - (Lib.itoa (weekS m.y m.day).2).length : Nat) : Int) := by omega
        have hpl : (padS 2 (weekS m.y m.day).2).length ≤ 5 := padS_len 2 (by omega) (by omega) (by omega)
        simp (disch := first | omega | (simp; done) | (simp; omega)) [ltT, ltF, leT, leF, eqT', eqF, ltTn, leTn, ltFn, leFn, wrapI, mid, emax]
        refine (repeat_V [48] (2 - (Lib.itoa (weekS m.y m.day).2).length) (by simp) (by omega) _).useV ?_
        have hll := Lib.repeatL_length [48] (2 - (Lib.itoa (weekS m.y m.day).2).length)
        simp only [List.length_cons, List.length_nil] at hll
        simp (disch := first | omega | (simp; done) | (simp; omega)) [ltT, ltF, leT, leF, eqT', eqF, ltTn, leTn, ltFn, leFn, wrapI, mid]
        refine callV_of (writeString_V (b := h.length + 5) (k := h.length + 6) (fr := fr) (s := acc) (padS 2 (weekS m.y m.day).2) (by simp) (by simp) (by omega) (by omega)) ?_
        rintro _ _ ⟨rfl, rfl⟩
        simp (disch := first | omega | (simp; done) | (simp; omega)) [ltT, ltF, leT, leF, eqT', eqF, ltTn, leTn, ltFn, leFn, wrapI, mid]
        exact fin (padS 2 (weekS m.y m.day).2) (by simp [fmtDir]) hpl _ (Shift.weak' (g := [.cells 74 [.d (encDir 2 .nilsl 80)]]) (by simp [encDir, dirEs]) (hH _ _) (by simp) (by simp [Int.add_assoc]))
      · -- 117
        simp (disch := first | omega | (simp; done) | (simp; omega)) [ltT, ltF, leT, leF, eqT', eqF, ltTn, leTn, ltFn, leFn, wrapI, mid, u8_37, eq_true h3, dirEs, encDir]
        refine (v70_V m hm _).useV ?_
        simp (disch := first | omega | (simp; done) | (simp; omega)) [ltT, ltF, leT, leF, eqT', eqF, ltTn, leTn, ltFn, leFn, wrapI, mid]
        refine (itoa_V ((m.day - 1) % 7 + 1) (by omega) (by omega) _).useV ?_
        have hil := itoa_len (n := ((m.day - 1) % 7 + 1)) (by omega) (by omega)
        have emax : max (0 : Int) (1 - ((Lib.itoa ((m.day - 1) % 7 + 1)).length : Int)) = ((1 - (Lib.itoa ((m.day - 1) % 7 + 1)).length : Nat) : Int) := by omega
        have hpl : (padS 1 ((m.day - 1) % 7 + 1)).length ≤ 5 := padS_len 1 (by omega) (by omega) (by omega)
        simp (disch := first | omega | (simp; done) | (simp; omega)) [ltT, ltF, leT, leF, eqT', eqF, ltTn, leTn, ltFn, leFn, wrapI, mid, emax]
        refine (repeat_V [48] (1 - (Lib.itoa ((m.day - 1) % 7 + 1)).length) (by simp) (by omega) _).useV ?_
        have hll := Lib.repeatL_length [48] (1 - (Lib.itoa ((m.day - 1) % 7 + 1)).length)
        simp only [List.length_cons, List.length_nil] at hll
        simp (disch := first | omega | (simp; done) | (simp; omega)) [ltT, ltF, leT, leF, eqT', eqF, ltTn, leTn, ltFn, leFn, wrapI, mid]
        refine callV_of (writeString_V (b := h.length + 5) (k := h.length + 6) (fr := fr) (s := acc) (padS 1 ((m.day - 1) % 7 + 1)) (by simp) (by simp) (by omega) (by omega)) ?_
        rintro _ _ ⟨rfl, rfl⟩
        simp (disch := first | omega | (simp; done) | (simp; omega)) [ltT, ltF, leT, leF, eqT', eqF, ltTn, leTn, ltFn, leFn, wrapI, mid]
        exact fin (padS 1 ((m.day - 1) % 7 + 1)) (by simp [fmtDir]) hpl _ (Shift.weak' (g := [.cells 74 [.d (encDir 1 .nilsl 70)]]) (by simp [encDir, dirEs]) (hH _ _) (by simp) (by simp [Int.add_assoc]))
      · -- 97
        obtain ⟨na, nm, nb, hn, hnl⟩ := split_at dayNames ((m.day - 1) % 7).toNat (by simp [dayNames]; omega)
        have hn3 : nm.length = 3 := names_len.1 nm (by rw [hn]; simp)
        have hfd : fmtDir m 97 = nm := by
          have : dayNames.getD ((m.day - 1) % 7).toNat [] = nm := by rw [hn, ← hnl]; simp
          rw [← this]; simp [fmtDir]
        have hni : (((m.day - 1) % 7)) = (na.length : Int) := by omega
        simp (disch := first | omega | (simp; done) | (simp; omega)) [ltT, ltF, leT, leF, eqT', eqF, ltTn, leTn, ltFn, leFn, wrapI, mid, u8_37, eq_true h3, dirEs, encDir]
        refine (v70_V m hm _).useV ?_
        have hnn : (D.sl 9 (List.map encS dayNames)) = D.sl 9 (na.map encS ++ encS nm :: nb.map encS) := by rw [hn]; simp
        simp (disch := first | omega | (simp; done) | (simp; omega)) [ltT, ltF, leT, leF, eqT', eqF, ltTn, leTn, ltFn, leFn, wrapI, mid, hnn, hni]
        refine pbV_of (fun _ => ?_) (fun hh => by cases hh)
        simp (disch := first | omega | (simp; done) | (simp; omega)) [ltT, ltF, leT, leF, eqT', eqF, ltTn, leTn, ltFn, leFn, wrapI, mid, hni]
        refine callV_of (writeString_V (b := h.length + 5) (k := h.length + 6) (fr := fr) (s := acc) nm (by simp) (by simp) (by omega) (by omega)) ?_
        rintro _ _ ⟨rfl, rfl⟩
        simp (disch := first | omega | (simp; done) | (simp; omega)) [ltT, ltF, leT, leF, eqT', eqF, ltTn, leTn, ltFn, leFn, wrapI, mid]
        exact fin nm hfd.symm (by omega) _ (Shift.weak' (g := [.cells 74 [.d (encDir 0 (.sl 9 (dayNames.map encS)) 70)]]) (by simp [encDir, dirEs, hn]) (hH _ _) (by simp) (by simp [Int.add_assoc]))
      · -- 98
        obtain ⟨na, nm, nb, hn, hnl⟩ := split_at monthNames (m.m - 1).toNat (by simp [monthNames]; omega)
        have hn3 : nm.length = 3 := names_len.2 nm (by rw [hn]; simp)
        have hfd : fmtDir m 98 = nm := by
          have : monthNames.getD (m.m - 1).toNat [] = nm := by rw [hn, ← hnl]; simp
          rw [← this]; simp [fmtDir]
        have hni : ((m.m - 1)) = (na.length : Int) := by omega
        simp (disch := first | omega | (simp; done) | (simp; omega)) [ltT, ltF, leT, leF, eqT', eqF, ltTn, leTn, ltFn, leFn, wrapI, mid, u8_37, eq_true h3, dirEs, encDir]
        refine (v81_V m  _).useV ?_
        have hnn : (D.sl 9 (List.map encS monthNames)) = D.sl 9 (na.map encS ++ encS nm :: nb.map encS) := by rw [hn]; simp
        simp (disch := first | omega | (simp; done) | (simp; omega)) [ltT, ltF, leT, leF, eqT', eqF, ltTn, leTn, ltFn, leFn, wrapI, mid, hnn, hni]
        refine pbV_of (fun _ => ?_) (fun hh => by cases hh)
        simp (disch := first | omega | (simp; done) | (simp; omega)) [ltT, ltF, leT, leF, eqT', eqF, ltTn, leTn, ltFn, leFn, wrapI, mid, hni]
        refine callV_of (writeString_V (b := h.length + 5) (k := h.length + 6) (fr := fr) (s := acc) nm (by simp) (by simp) (by omega) (by omega)) ?_
        rintro _ _ ⟨rfl, rfl⟩
        simp (disch := first | omega | (simp; done) | (simp; omega)) [ltT, ltF, leT, leF, eqT', eqF, ltTn, leTn, ltFn, leFn, wrapI, mid]
        exact fin nm hfd.symm (by omega) _ (Shift.weak' (g := [.cells 74 [.d (encDir 0 (.sl 9 (monthNames.map encS)) 81)]]) (by simp [encDir, dirEs, hn]) (hH _ _) (by simp) (by simp [Int.add_assoc]))
    · rw [fmtS, if_pos h3] at hc
      rw [patFrom_cons h3] at hpat
      simp (disch := first | omega | (simp; done) | (simp; omega)) [ltT, ltF, leT, leF, eqT', eqF, ltTn, leTn, ltFn, leFn, wrapI, mid, u8_37, eq_false h3]
      refine callV_of (writeByte_V (b := h.length + 5) (k := h.length + 6) (fr := fr) (s := acc) c (by simp) (by simp) (by omega) (by omega)) ?_
      rintro _ _ ⟨rfl, rfl⟩
      simp (disch := first | omega | (simp; done) | (simp; omega)) [ltT, ltF, leT, leF, eqT', eqF, ltTn, leTn, ltFn, leFn, wrapI, mid]
      exact hA (pre ++ [c], e :: l, acc ++ [c], false) _ ⟨by simp, by rw [← hc]; simp, by simpa using hpat, by simp; omega⟩ (by simp) (Shift.slots' (by simp) (by simp))

end Go.Vm
