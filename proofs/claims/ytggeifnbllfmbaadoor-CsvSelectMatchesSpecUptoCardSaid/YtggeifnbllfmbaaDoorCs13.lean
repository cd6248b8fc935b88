/- csv: the reference's Selected. -/
import Derived.Test.YtggeifnbllfmbaaDoorCs11
namespace Go.Vm
open Proofs
set_option maxRecDepth 20000
set_option maxHeartbeats 1000000
set_option linter.unusedSimpArgs false

theorem idxFrom_app {α : Type} {p : α → Bool} : ∀ (a b : List α) (n : Nat), idxFrom p n (a ++ b) = if 0 ≤ idxFrom p n a then idxFrom p n a else idxFrom p (n + a.length) b
  | [], b, n => by simp [idxFrom]
  | x :: a, b, n => by
    rw [List.cons_append, idxFrom, idxFrom]
    by_cases h : p x = true
    · rw [if_pos h, if_pos h, if_pos (by omega)]
    · rw [if_neg h, if_neg h, idxFrom_app a b (n + 1), List.length_cons]
      rw [show n + 1 + a.length = n + (a.length + 1) by omega]
theorem idxFrom_lt {α : Type} {p : α → Bool} : ∀ (a : List α) (n : Nat), idxFrom p n a < n + a.length
  | [], n => by simp only [idxFrom, List.length_nil]; omega
  | x :: a, n => by
    have := idxFrom_lt (p := p) a (n + 1)
    rw [idxFrom, List.length_cons]
    split <;> omega
theorem posS_lt (pre rest : List (List UInt8)) (x : List UInt8) : (posS (pre ++ x :: rest) x < pre.length) = (0 ≤ posS pre x) := by
  have hlt := idxFrom_lt (p := fun y => decide (y = x)) pre 0
  unfold posS
  have e : idxFrom (fun y => decide (y = x)) (0 + pre.length) (x :: rest) = pre.length := by rw [idxFrom, if_pos (by simp)]; simp
  rw [idxFrom_app, e]
  apply propext
  split
  · constructor <;> intro _ <;> omega
  · constructor <;> intro _ <;> omega

theorem hok3 {h : List Blk} (hok : HOk h) (e1 e2 : TypeId) (x y : D) (m : Nat) (t2 : TypeId) : HOk (h ++ [.cells e1 [.d x], .cells e2 [.d y], .tail t2 m]) := by
  refine hok.append ?_
  intro z hz
  simp only [List.mem_cons, List.not_mem_nil, or_false] at hz
  rcases hz with rfl | rfl | rfl
  · exact bel_cellsD _ _ _
  · exact bel_cellsD _ _ _
  · trivial

theorem selected_V (rows : List (List (List UInt8))) (names : List (List UInt8)) (hl : rows.length < 2000000) (ht : total rows < 2000000000000) (hn : names.length < 2000000) (h : List Blk) :
    CallP Tryd.prog 22 [.d (.sl 39 (rows.map encR)), .d (encR names)] h (.tup [.d (.sl 39 ((selectS rows names).1.map encR)), .d (encF (selectS rows names).2)]) := by
  refine callW tb_ok fn22 (by simp) (fun hok => ?_)
  simp (disch := first | omega | (simp; done) | (simp; omega)) [ltT, ltF, leT, leF, eqT', eqF, ltTn, leTn, ltFn, leFn, wrapI, mid, c22]
  refine (tableFault_V rows _ hl (by omega) _).useV ?_
  by_cases h1 : (tabFault rows (-1)).1 ≠ 0
  · rw [selectS.eq_def, if_pos h1]
    simp (disch := first | omega | (simp; done) | (simp; omega)) [ltT, ltF, leT, leF, eqT', eqF, ltTn, leTn, ltFn, leFn, wrapI, mid, h1]
    exact RShift.subs ⟨.nil _, .refl _, trivial⟩ (by simp) hok (Nat.le_refl _)
  obtain ⟨hf, hl2, ht2⟩ := tabFault_ok h1
  simp (disch := first | omega | (simp; done) | (simp; omega)) [ltT, ltF, leT, leF, eqT', eqF, ltTn, leTn, ltFn, leFn, wrapI, mid, h1]
  rw [selectS.eq_def, if_neg h1, hf]
  clear h1
  cases rows with
  | nil =>
    simp (disch := first | omega | (simp; done) | (simp; omega)) [ltT, ltF, leT, leF, eqT', eqF, ltTn, leTn, ltFn, leFn, wrapI, mid]
    refine (at_V _ _ _).useV ?_
    simp (disch := first | omega | (simp; done) | (simp; omega)) [ltT, ltF, leT, leF, eqT', eqF, ltTn, leTn, ltFn, leFn, wrapI, mid]
    exact RShift.subs ⟨.nil _, .refl _, trivial⟩ (by simp) hok (Nat.le_refl _)
  | cons head more =>
    simp only [List.length_cons, total] at hl hl2 ht2 ht ⊢
    obtain ⟨rowOf, hro⟩ : ∃ f : List (List UInt8) → List (List UInt8), f = fun r => names.map fun s => pick r (posS head s) := ⟨_, rfl⟩
    obtain ⟨res, hres⟩ : ∃ res, res = (head :: more).map rowOf := ⟨_, rfl⟩
    rw [← hro, ← hres]
    simp (disch := first | omega | (simp; done) | (simp; omega)) [ltT, ltF, leT, leF, eqT', eqF, ltTn, leTn, ltFn, leFn, wrapI, mid]
    refine W_loopA (ι := List (List UInt8) × List (List UInt8)) (fun p => p.1 ++ p.2 = head ∧ repFrom p.1 p.2 = repFrom [] head) (fun p => ⟨[(0, .d (.sl 39 ((head :: more).map encR))), (1, .d (encR names)), (5, .ptr h.length 26 0 0), (7, .d (.int .i64 p.1.length))],
      h ++ [.cells 26 [.d (encF (0, 0))], .cells 26 [.d (encF (0, 0))]]⟩) (fun p => p.2.length) ([], head) ⟨rfl, rfl⟩ (Shift.slots' rfl (by simp [encR])) ?_
    rintro ⟨pre, rest⟩ ⟨hx, hc⟩ A hA
    simp only at hx hc
    cases rest with
    | cons x rest =>
      have hpl := posS_lt pre rest x
      rw [hx] at hpl
      have hlen : head.length = pre.length + (rest.length + 1) := by rw [← hx]; simp
      have hge := idxFrom_lt (p := fun y => decide (y = x)) head 0
      have hrl0 : repFrom pre (x :: rest) = if 0 ≤ posS pre x then (pre.length : Int) else repFrom (pre ++ [x]) rest := rfl
      have hpos := position39_V head x
      rw [← hx]
      simp (disch := first | omega | (simp; done) | (simp; omega)) [ltT, ltF, leT, leF, eqT', eqF, ltTn, leTn, ltFn, leFn, wrapI, mid, encR, encS]
      have hcall := fun g => position39_V (pre ++ x :: rest) x g (by rw [hx]; omega)
      simp only [encR, encS, List.map_append, List.map_cons] at hcall
      refine (hcall _).useV ?_
      rw [hx]
      by_cases h2 : 0 ≤ posS pre x
      · have hr : repFrom [] head = pre.length := by rw [← hc, hrl0, if_pos h2]
        have h3 : 0 ≤ repFrom [] head := by omega
        have h4 : posS head x < pre.length := by rw [hpl]; exact h2
        simp (disch := first | omega | (simp; done) | (simp; omega)) [ltT, ltF, leT, leF, eqT', eqF, ltTn, leTn, ltFn, leFn, wrapI, mid, h4]
        refine (at_V _ _ _).useV ?_
        simp (disch := first | omega | (simp; done) | (simp; omega)) [ltT, ltF, leT, leF, eqT', eqF, ltTn, leTn, ltFn, leFn, wrapI, mid]
        rw [hr]
        exact RShift.subs ⟨.nil _, .refl _, trivial⟩ (by simp) hok (Nat.le_refl _)
      · rw [hrl0, if_neg h2] at hc
        have h4 : ¬ posS head x < pre.length := by rw [hpl]; exact h2
        simp (disch := first | omega | (simp; done) | (simp; omega)) [ltT, ltF, leT, leF, eqT', eqF, ltTn, leTn, ltFn, leFn, wrapI, mid, h4]
        exact hA (pre ++ [x], rest) _ ⟨by simpa using hx, hc⟩ (by simp) (Shift.slots' rfl (by simp [encR, encS, ← hx]))
    | nil =>
      clear hA
      simp only [List.append_nil] at hx
      subst hx
      simp only [repFrom] at hc
      have h3 : ¬ 0 ≤ repFrom [] pre := by omega
      simp only [if_neg h3]
      by_cases h4 : names = []
      · subst h4
        simp (disch := first | omega | (simp; done) | (simp; omega)) [ltT, ltF, leT, leF, eqT', eqF, ltTn, leTn, ltFn, leFn, wrapI, mid, encR]
        refine (at_V _ _ _).useV ?_
        simp (disch := first | omega | (simp; done) | (simp; omega)) [ltT, ltF, leT, leF, eqT', eqF, ltTn, leTn, ltFn, leFn, wrapI, mid]
        exact RShift.subs ⟨.nil _, .refl _, trivial⟩ (by simp) hok (Nat.le_refl _)
      have hnl : 0 < names.length := List.length_pos_iff.mpr h4
      rw [if_neg h4]
      simp (disch := first | omega | (simp; done) | (simp; omega)) [ltT, ltF, leT, leF, eqT', eqF, ltTn, leTn, ltFn, leFn, wrapI, mid, encR]
      refine W_loopA (ι := List (List UInt8) × List (List UInt8)) (fun p => p.1 ++ p.2 = names ∧ idxFrom (fun s => decide (posS pre s < 0)) p.1.length p.2 = missFrom pre names) (fun p => ⟨[(0, .d (.sl 39 ((pre :: more).map encR))), (1, .d (encR names)), (5, .ptr h.length 26 0 0), (8, .d (.int .i64 p.1.length))],
        h ++ [.cells 26 [.d (encF (0, 0))], .cells 26 [.d (encF (0, 0))]]⟩) (fun p => p.2.length) ([], names) ⟨rfl, rfl⟩ (Shift.slots' rfl (by simp [encR])) ?_
      rintro ⟨pn, rn⟩ ⟨hx, hc2⟩ A2 hA2
      simp only at hx hc2
      subst hx
      cases rn with
      | cons s rn =>
        simp only [List.length_append, List.length_cons] at hn
        simp (disch := first | omega | (simp; done) | (simp; omega)) [ltT, ltF, leT, leF, eqT', eqF, ltTn, leTn, ltFn, leFn, wrapI, mid, encR, encS]
        refine (position39_V pre s _ (by omega)).useV ?_
        by_cases h5 : posS pre s < 0
        · have hr : missFrom pre (pn ++ s :: rn) = pn.length := by rw [← hc2, idxFrom, if_pos (by simpa using h5)]
          have h6 : 0 ≤ missFrom pre (pn ++ s :: rn) := by omega
          simp (disch := first | omega | (simp; done) | (simp; omega)) [ltT, ltF, leT, leF, eqT', eqF, ltTn, leTn, ltFn, leFn, wrapI, mid, h5]
          refine (at_V _ _ _).useV ?_
          simp (disch := first | omega | (simp; done) | (simp; omega)) [ltT, ltF, leT, leF, eqT', eqF, ltTn, leTn, ltFn, leFn, wrapI, mid]
          rw [hr]
          exact RShift.subs ⟨.nil _, .refl _, trivial⟩ (by simp) hok (Nat.le_refl _)
        · rw [idxFrom, if_neg (by simpa using h5)] at hc2
          simp (disch := first | omega | (simp; done) | (simp; omega)) [ltT, ltF, leT, leF, eqT', eqF, ltTn, leTn, ltFn, leFn, wrapI, mid, h5]
          exact hA2 (pn ++ [s], rn) _ ⟨by simp, by simpa using hc2⟩ (by simp) (Shift.slots' rfl (by simp [encR, encS]))
      | nil =>
        clear hA2
        simp only [List.append_nil, idxFrom] at hc2 hn hnl h4 hro ⊢
        have h6 : ¬ 0 ≤ missFrom pre pn := by omega
        have hpos : ∀ s ∈ pn, 0 ≤ posS pre s := fun s hs => posS_nonneg h6 hs
        rw [if_neg h6]
        have hb : pn.length * (more.length + 1) ≤ 2000000 * 200 := Nat.mul_le_mul (by omega) (by omega)
        have hq : IntKind.i64.wrap ((pn.length : Int) * ((more.length : Int) + 1)) = ((pn.length * (more.length + 1) : Nat) : Int) := by
          have e : (pn.length : Int) * ((more.length : Int) + 1) = ((pn.length * (more.length + 1) : Nat) : Int) := by simp
          rw [e]
          generalize pn.length * (more.length + 1) = z at *
          exact wrapI (by omega) (by omega)
        obtain ⟨z, hz⟩ : ∃ z, z = pn.length * (more.length + 1) := ⟨_, rfl⟩
        rw [← hz] at hq hb ⊢
        by_cases h7 : 1000 < z
        · rw [if_pos h7]
          simp (disch := first | omega | (simp; done) | (simp; omega)) [ltT, ltF, leT, leF, eqT', eqF, ltTn, leTn, ltFn, leFn, wrapI, mid, encR, hq]
          refine (at_V _ _ _).useV ?_
          simp (disch := first | omega | (simp; done) | (simp; omega)) [ltT, ltF, leT, leF, eqT', eqF, ltTn, leTn, ltFn, leFn, wrapI, mid]
          exact RShift.subs ⟨.nil _, .refl _, trivial⟩ (by simp) hok (Nat.le_refl _)
        rw [if_neg h7]
        obtain ⟨rows, hrows⟩ : ∃ rows, rows = pre :: more := ⟨_, rfl⟩
        have hrl : rows.length = more.length + 1 := by rw [hrows]; simp
        have hrt : total rows ≤ 1000 := by rw [hrows, total]; exact ht2
        have hr0 : rows[0]'(by omega) = pre := by simp [hrows]
        rw [← hrows] at hres
        simp (disch := first | omega | (simp; done) | (simp; omega)) [ltT, ltF, leT, leF, eqT', eqF, ltTn, leTn, ltFn, leFn, wrapI, mid, encR, hq]
        refine W_loopA (ι := List (List (List UInt8)) × List (List (List UInt8))) (fun p => p.1 ++ p.2 = rows) (fun p => ⟨[(0, .d (.sl 39 (rows.map encR))), (1, .d (encR pn)), (5, .ptr h.length 26 0 0), (9, .bl (h.length + 2) 39 ((p.1.map rowOf).map encR)), (10, .d (.int .i64 p.1.length))],
          h ++ [.cells 26 [.d (encF (0, 0))], .cells 26 [.d (encF (0, 0))], .tail 39 p.1.length]⟩) (fun p => p.2.length) ([], rows) (by simp) ((Shift.nilbl (i := 9) 39 (by simp)).trans (Shift.slots' (by simp) (by simp [hrows, encR]))) ?_
        rintro ⟨dr, rr⟩ hx A3 hA3
        simp only at hx
        cases rr with
        | nil =>
          simp only [List.append_nil] at hx
          rw [hres, ← hx]
          have hrl2 : dr.length = more.length + 1 := by rw [hx]; exact hrl
          simp (disch := first | omega | (simp; done) | (simp; omega)) [ltT, ltF, leT, leF, eqT', eqF, ltTn, leTn, ltFn, leFn, wrapI, mid]
          refine (at_V _ _ _).useV ?_
          simp (disch := first | omega | (simp; done) | (simp; omega)) [ltT, ltF, leT, leF, eqT', eqF, ltTn, leTn, ltFn, leFn, wrapI, mid]
          exact RShift.subs ⟨.bl _ _ _, .refl _, trivial⟩ (by simp) hok (Nat.le_refl _)
        | cons x rr =>
          have hxl : x.length ≤ total rows := by rw [← hx, total_app, total]; omega
          have hdl : rows.length = dr.length + (rr.length + 1) := by rw [← hx]; simp
          have hri : rows[dr.length]'(by omega) = x := by simp [← hx]
          simp (disch := first | omega | (simp; done) | (simp; omega)) [ltT, ltF, leT, leF, eqT', eqF, ltTn, leTn, ltFn, leFn, wrapI, mid]
          refine W_loopA (ι := List (List UInt8) × List (List UInt8)) (fun p => p.1 ++ p.2 = pn) (fun p => ⟨[(0, .d (.sl 39 (rows.map encR))), (1, .d (encR pn)), (5, .ptr h.length 26 0 0), (9, .bl (h.length + 2) 39 ((dr.map rowOf).map encR)), (10, .d (.int .i64 dr.length)),
            (11, if p.2 = [] then .d (encR (p.1.map fun s => pick x (posS pre s))) else .bl (h.length + 3) 9 (p.1.map fun s => encS (pick x (posS pre s)))), (12, .d (.int .i64 p.1.length))],
            h ++ [.cells 26 [.d (encF (0, 0))], .cells 26 [.d (encF (0, 0))], .tail 39 dr.length, .tail 9 p.1.length]⟩) (fun p => p.2.length) ([], pn) (by simp) ((Shift.nilbl (i := 11) 9 (by simp)).trans (Shift.slots' (by simp) (by simp [h4]))) ?_
          rintro ⟨dq, rq⟩ hx4 A4 hA4
          simp only at hx4
          have hpl : pn.length = dq.length + rq.length := by rw [← hx4]; simp
          cases rq with
          | nil =>
            simp only [List.append_nil] at hx4
            subst hx4
            simp (disch := first | omega | (simp; done) | (simp; omega)) [ltT, ltF, leT, leF, eqT', eqF, ltTn, leTn, ltFn, leFn, wrapI, mid, encR]
            exact hA3 (dr ++ [x], rr) _ (by simpa using hx) (by simp) (Shift.weak' (g := [.tail 9 dq.length]) (by simp) (hok3 hok _ _ _ _ _ _) (by simp) (by simp [hro, encR]))
          | cons q rq =>
            have hq0 := hpos q (by rw [← hx4]; simp)
            by_cases h8 : posS pre q < x.length
            · obtain ⟨xa, y, xb, hxx, hxa⟩ := split_at x (posS pre q).toNat (by omega)
              have hk : posS pre q = xa.length := by omega
              have hpk : pick x (posS pre q) = y := by rw [pick, if_pos h8, hk, hxx]; simp
              subst hxx
              rw [hk] at hpk
              rw [← hx4]
              simp (disch := first | omega | (simp; done) | (simp; omega)) [ltT, ltF, leT, leF, eqT', eqF, ltTn, leTn, ltFn, leFn, wrapI, mid, hr0, hri, encR, encS]
              refine (position39_V pre q _ (by omega)).useV ?_
              simp (disch := first | omega | (simp; done) | (simp; omega)) [ltT, ltF, leT, leF, eqT', eqF, ltTn, leTn, ltFn, leFn, wrapI, mid, hk, hr0, hri, encR, encS]
              by_cases hrq : rq = []
              · exact hA4 (dq ++ [q], rq) _ (by simpa using hx4) (by simp) (Shift.slots' (by simp) (by simp [hrq, hpk, hk, ← hx4, encR, encS]; exact .bl _ _ _))
              · exact hA4 (dq ++ [q], rq) _ (by simpa using hx4) (by simp) (Shift.slots' (by simp) (by simp [hrq, hpk, hk, ← hx4, encR, encS]))
            · have hpk : pick x (posS pre q) = [] := by rw [pick, if_neg h8]
              rw [← hx4]
              simp (disch := first | omega | (simp; done) | (simp; omega)) [ltT, ltF, leT, leF, eqT', eqF, ltTn, leTn, ltFn, leFn, wrapI, mid, hr0, hri, encR, encS]
              refine (position39_V pre q _ (by omega)).useV ?_
              simp (disch := first | omega | (simp; done) | (simp; omega)) [ltT, ltF, leT, leF, eqT', eqF, ltTn, leTn, ltFn, leFn, wrapI, mid, hr0, hri, encR, encS]
              by_cases hrq : rq = []
              · exact hA4 (dq ++ [q], rq) _ (by simpa using hx4) (by simp) (Shift.slots' (by simp) (by simp [hrq, hpk, ← hx4, encR, encS]; exact .bl _ _ _))
              · exact hA4 (dq ++ [q], rq) _ (by simpa using hx4) (by simp) (Shift.slots' (by simp) (by simp [hrq, hpk, ← hx4, encR, encS]))

end Go.Vm
