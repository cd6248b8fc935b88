/- csv: Select. -/
import Derived.Test.YtggeifnbllfmbaaDoorCs8
namespace Go.Vm
open Proofs
set_option maxRecDepth 20000
set_option maxHeartbeats 1000000
set_option linter.unusedSimpArgs false

def repFrom : List (List UInt8) → List (List UInt8) → Int
  | _, [] => -1
  | pre, x :: l => if 0 ≤ posS pre x then pre.length else repFrom (pre ++ [x]) l
def pick (r : List (List UInt8)) (k : Int) : List UInt8 := if k < r.length then r.getD k.toNat [] else []
def missFrom (head names : List (List UInt8)) : Int := idxFrom (fun s => decide (posS head s < 0)) 0 names
def selectS (rows : List (List (List UInt8))) (names : List (List UInt8)) : List (List (List UInt8)) × (Int × Int) :=
  if (tabFault rows (-1)).1 ≠ 0 then ([], tabFault rows (-1)) else
  match rows with
  | [] => ([], (10, 0))
  | head :: more =>
    if 0 ≤ repFrom [] head then ([], (8, 1000 + repFrom [] head)) else if names = [] then ([], (10, -2)) else
    if 0 ≤ missFrom head names then ([], (12, 2000 + missFrom head names)) else
    if 1000 < names.length * (more.length + 1) then ([], (14, -3)) else
    ((head :: more).map fun r => names.map fun s => pick r (posS head s), (0, 0))

theorem posS_nonneg {head names : List (List UInt8)} {s : List UInt8} : ∀ {n : Nat}, ¬ 0 ≤ idxFrom (fun s => decide (posS head s < 0)) n names → s ∈ names → 0 ≤ posS head s := by
  induction names with
  | nil => intro n _ h; simp at h
  | cons x l ih =>
    intro n h hs
    rw [idxFrom] at h
    split at h
    · omega
    · rename_i h1
      rcases List.mem_cons.mp hs with rfl | hs
      · simpa using h1
      · exact ih h hs

theorem quo_lt (a n : Nat) : (IntKind.i64.wrap (Int.tdiv 1000 ((n : Int) + 1)) < (a : Int)) = (1000 < a * (n + 1)) := by
  have h1 : Int.tdiv 1000 ((n : Int) + 1) = ((1000 / (n + 1) : Nat) : Int) := by
    have := Int.ofNat_tdiv 1000 (n + 1)
    simpa using this.symm
  have h2 : 1000 / (n + 1) ≤ 1000 := Nat.div_le_self _ _
  have h3 : (1000 / (n + 1) < a) = (1000 < a * (n + 1)) := propext (Nat.div_lt_iff_lt_mul (by omega))
  rw [h1, ← h3]
  generalize 1000 / (n + 1) = q at *
  rw [wrapI (by omega) (by omega)]
  exact propext Int.ofNat_lt
theorem bel_cellsD (e : TypeId) (x : D) (n : Nat) : BlkBel n (.cells e [.d x]) := by
  intro y hy z hz
  rw [List.mem_singleton] at hy
  subst hy
  simp only [AV.cells, List.mem_map] at hz
  obtain ⟨z, _, rfl⟩ := hz
  exact .d _
theorem hok4 {h : List Blk} (hok : HOk h) (e1 e2 : TypeId) (x y : D) (n m : Nat) (t1 t2 : TypeId) : HOk (h ++ [.cells e1 [.d x], .cells e2 [.d y], .tail t1 n, .tail t2 m]) := by
  refine hok.append ?_
  intro z hz
  simp only [List.mem_cons, List.not_mem_nil, or_false] at hz
  rcases hz with rfl | rfl | rfl | rfl
  · exact bel_cellsD _ _ _
  · exact bel_cellsD _ _ _
  · trivial
  · trivial
theorem split_at {α : Type} (x : List α) (k : Nat) (hk : k < x.length) : ∃ a y b, x = a ++ y :: b ∧ a.length = k := by
  refine ⟨x.take k, x[k], x.drop (k + 1), ?_, by simp; omega⟩
  rw [List.getElem_cons_drop, List.take_append_drop]

theorem sub_Rf (b : Nat) (l : List (List UInt8)) (f : List UInt8 → List UInt8) (y : List UInt8) : Sub (.bl b 9 ((l.map fun s => D.str (f s)) ++ [D.str y])) (.d (encR (l.map f ++ [y]))) := by
  have : encR (l.map f ++ [y]) = .sl 9 ((l.map fun s => D.str (f s)) ++ [.str y]) := by simp [encR, encS]
  rw [this]
  exact .bl _ _ _

theorem select_V (rows : List (List (List UInt8))) (names : List (List UInt8)) (hl : rows.length < 2000000) (ht : total rows < 2000000000000) (hn : names.length < 2000000) (h : List Blk) :
    CallP Tryd.prog 21 [.d (.sl 39 (rows.map encR)), .d (encR names)] h (.tup [.d (.sl 39 ((selectS rows names).1.map encR)), .d (encF (selectS rows names).2)]) := by
  refine callW tb_ok fn21 (by simp) (fun hok => ?_)
  simp (disch := first | omega | (simp; done) | (simp; omega)) [ltT, ltF, leT, leF, eqT', eqF, ltTn, leTn, ltFn, leFn, wrapI, mid, c21]
  refine (check_V rows _ hl (by omega) _).useV ?_
  by_cases h1 : (tabFault rows (-1)).1 ≠ 0
  · rw [selectS.eq_def, if_pos h1]
    simp (disch := first | omega | (simp; done) | (simp; omega)) [ltT, ltF, leT, leF, eqT', eqF, ltTn, leTn, ltFn, leFn, wrapI, mid, h1]
    exact RShift.subs ⟨.nil _, .refl _, trivial⟩ (by simp) hok (Nat.le_refl _)
  obtain ⟨hf, hl2, ht2⟩ := tabFault_ok h1
  simp (disch := first | omega | (simp; done) | (simp; omega)) [ltT, ltF, leT, leF, eqT', eqF, ltTn, leTn, ltFn, leFn, wrapI, mid, h1]
  rw [selectS.eq_def, if_neg h1, hf]
  clear h1
  cases rows with
  | nil =>
    simp (disch := first | omega | (simp; done) | (simp; omega)) [ltT, ltF, leT, leF, eqT', eqF, ltTn, leTn, ltFn, leFn, wrapI, mid]
    exact RShift.subs ⟨.nil _, .refl _, trivial⟩ (by simp) hok (Nat.le_refl _)
  | cons head more =>
    simp only [List.length_cons, total] at hl hl2 ht2 ht ⊢
    obtain ⟨rowOf, hro⟩ : ∃ f : List (List UInt8) → List (List UInt8), f = fun r => names.map fun s => pick r (posS head s) := ⟨_, rfl⟩
    obtain ⟨res, hres⟩ : ∃ res, res = (head :: more).map rowOf := ⟨_, rfl⟩
    rw [← hro, ← hres]
    simp (disch := first | omega | (simp; done) | (simp; omega)) [ltT, ltF, leT, leF, eqT', eqF, ltTn, leTn, ltFn, leFn, wrapI, mid, encR]
    refine W_loopA (ι := List (List UInt8) × List (List UInt8)) (fun p => p.1 ++ p.2 = head ∧ repFrom p.1 p.2 = repFrom [] head) (fun p => ⟨[(0, .d (.sl 39 ((head :: more).map encR))), (1, .d (encR names)), (5, .ptr h.length 26 0 0), (7, .d (encR head)), (34, .d (encR head)), (35, .d (.int .i64 head.length)), (36, .d (.int .i64 p.1.length))],
      h ++ [.cells 26 [.d (encF (0, 0))], .cells 26 [.d (encF (0, 0))]]⟩) (fun p => p.2.length) ([], head) ⟨rfl, rfl⟩ (Shift.slots' rfl (by simp [encR])) ?_
    rintro ⟨pre, rest⟩ ⟨hx, hc⟩ A hA
    simp only at hx hc
    subst hx
    cases rest with
    | cons x rest =>
      simp only [List.length_append, List.length_cons] at ht2
      simp (disch := first | omega | (simp; done) | (simp; omega)) [ltT, ltF, leT, leF, eqT', eqF, ltTn, leTn, ltFn, leFn, wrapI, mid, encR, encS]
      refine (contains37_V pre x _ (by omega)).useV ?_
      by_cases h2 : 0 ≤ posS pre x
      · have hr : repFrom [] (pre ++ x :: rest) = pre.length := by rw [← hc, repFrom, if_pos h2]
        have h3 : 0 ≤ repFrom [] (pre ++ x :: rest) := by omega
        simp (disch := first | omega | (simp; done) | (simp; omega)) [ltT, ltF, leT, leF, eqT', eqF, ltTn, leTn, ltFn, leFn, wrapI, mid, h2]
        rw [hr]
        exact RShift.subs ⟨.nil _, .refl _, trivial⟩ (by simp) hok (Nat.le_refl _)
      · rw [repFrom, if_neg h2] at hc
        simp (disch := first | omega | (simp; done) | (simp; omega)) [ltT, ltF, leT, leF, eqT', eqF, ltTn, leTn, ltFn, leFn, wrapI, mid, h2]
        exact hA (pre ++ [x], rest) _ ⟨by simp, by rw [hc]⟩ (by simp) (Shift.slots' rfl (by simp [encR, encS]))
    | nil =>
      clear hA
      simp only [List.append_nil, repFrom] at hc ht2 hres hro ⊢
      have h3 : ¬ 0 ≤ repFrom [] pre := by omega
      simp only [if_neg h3]
      by_cases h4 : names = []
      · subst h4
        simp (disch := first | omega | (simp; done) | (simp; omega)) [ltT, ltF, leT, leF, eqT', eqF, ltTn, leTn, ltFn, leFn, wrapI, mid, encR]
        exact RShift.subs ⟨.nil _, .refl _, trivial⟩ (by simp) hok (Nat.le_refl _)
      have hnl : 0 < names.length := List.length_pos_iff.mpr h4
      rw [if_neg h4]
      simp (disch := first | omega | (simp; done) | (simp; omega)) [ltT, ltF, leT, leF, eqT', eqF, ltTn, leTn, ltFn, leFn, wrapI, mid, encR]
      refine W_loopA (ι := List (List UInt8) × List (List UInt8)) (fun p => p.1 ++ p.2 = names ∧ idxFrom (fun s => decide (posS pre s < 0)) p.1.length p.2 = missFrom pre names) (fun p => ⟨[(0, .d (.sl 39 ((pre :: more).map encR))), (5, .ptr h.length 26 0 0), (7, .d (encR pre)), (54, .d (encR names)), (55, .d (.int .i64 names.length)), (56, .d (.int .i64 p.1.length)), (10, .bl (h.length + 2) 3 (p.1.map fun s => D.int .i64 (posS pre s)))],
        h ++ [.cells 26 [.d (encF (0, 0))], .cells 26 [.d (encF (0, 0))], .tail 3 p.1.length]⟩) (fun p => p.2.length) ([], names) ⟨rfl, rfl⟩ ((Shift.nilbl (i := 10) 3 (by simp)).trans (Shift.slots' (by simp) (by simp [encR]))) ?_
      rintro ⟨pn, rn⟩ ⟨hx, hc2⟩ A2 hA2
      simp only at hx hc2
      subst hx
      cases rn with
      | cons s rn =>
        simp only [List.length_append, List.length_cons] at hn
        simp (disch := first | omega | (simp; done) | (simp; omega)) [ltT, ltF, leT, leF, eqT', eqF, ltTn, leTn, ltFn, leFn, wrapI, mid, encR, encS]
        refine (index38_V pre s _ (by omega)).useV ?_
        by_cases h5 : posS pre s < 0
        · have hr : missFrom pre (pn ++ s :: rn) = pn.length := by rw [← hc2, idxFrom, if_pos (by simpa using h5)]
          have h6 : 0 ≤ missFrom pre (pn ++ s :: rn) := by omega
          simp (disch := first | omega | (simp; done) | (simp; omega)) [ltT, ltF, leT, leF, eqT', eqF, ltTn, leTn, ltFn, leFn, wrapI, mid, h5]
          rw [hr]
          exact RShift.subs ⟨.nil _, .refl _, trivial⟩ (by simp) hok (Nat.le_refl _)
        · rw [idxFrom, if_neg (by simpa using h5)] at hc2
          simp (disch := first | omega | (simp; done) | (simp; omega)) [ltT, ltF, leT, leF, eqT', eqF, ltTn, leTn, ltFn, leFn, wrapI, mid, h5]
          exact hA2 (pn ++ [s], rn) _ ⟨by simp, by simpa using hc2⟩ (by simp) (Shift.slots' (by simp) (by simp [encR, encS]))
      | nil =>
        clear hA2
        simp only [List.append_nil, idxFrom] at hc2 hn hnl h4 hro ⊢
        have h6 : ¬ 0 ≤ missFrom pre pn := by omega
        have hpos : ∀ s ∈ pn, 0 ≤ posS pre s := fun s hs => posS_nonneg h6 hs
        rw [if_neg h6]
        have hq := quo_lt pn.length more.length
        by_cases h7 : 1000 < pn.length * (more.length + 1)
        · rw [if_pos h7]
          simp (disch := first | omega | (simp; done) | (simp; omega)) [ltT, ltF, leT, leF, eqT', eqF, ltTn, leTn, ltFn, leFn, wrapI, mid, hq, h7]
          exact RShift.subs ⟨.nil _, .refl _, trivial⟩ (by simp) hok (Nat.le_refl _)
        rw [if_neg h7]
        obtain ⟨rows, hrows⟩ : ∃ rows, rows = pre :: more := ⟨_, rfl⟩
        have hrl : rows.length = more.length + 1 := by rw [hrows]; simp
        have hrt : total rows ≤ 1000 := by rw [hrows, total]; exact ht2
        rw [← hrows] at hres
        simp (disch := first | omega | (simp; done) | (simp; omega)) [ltT, ltF, leT, leF, eqT', eqF, ltTn, leTn, ltFn, leFn, wrapI, mid, hq, h7]
        refine W_loopA (ι := List (List (List UInt8)) × List (List (List UInt8))) (fun p => p.1 ++ p.2 = rows) (fun p => ⟨[(5, .ptr h.length 26 0 0), (10, .d (.sl 3 (pn.map fun s => D.int .i64 (posS pre s)))), (14, .bl (h.length + 3) 39 ((p.1.map rowOf).map encR)), (81, .d (.sl 39 (rows.map encR))), (82, .d (.int .i64 rows.length)), (83, .d (.int .i64 p.1.length))],
          h ++ [.cells 26 [.d (encF (0, 0))], .cells 26 [.d (encF (0, 0))], .tail 3 pn.length, .tail 39 p.1.length]⟩) (fun p => p.2.length) ([], rows) (by simp) ((Shift.nilbl (i := 14) 39 (by simp)).trans (Shift.slots' (by simp) (by simp [hrows, encR, Sub.bl]))) ?_
        rintro ⟨dr, rr⟩ hx A3 hA3
        simp only at hx
        cases rr with
        | nil =>
          simp only [List.append_nil] at hx
          rw [hres, ← hx]
          have hrl2 : dr.length = more.length + 1 := by rw [hx]; exact hrl
          simp (disch := first | omega | (simp; done) | (simp; omega)) [ltT, ltF, leT, leF, eqT', eqF, ltTn, leTn, ltFn, leFn, wrapI, mid]
          exact RShift.subs ⟨.bl _ _ _, .refl _, trivial⟩ (by simp) hok (Nat.le_refl _)
        | cons x rr =>
          have hxl : x.length ≤ total rows := by rw [← hx, total_app, total]; omega
          have hdl : rows.length = dr.length + (rr.length + 1) := by rw [← hx]; simp
          rw [← hx]
          simp (disch := first | omega | (simp; done) | (simp; omega)) [ltT, ltF, leT, leF, eqT', eqF, ltTn, leTn, ltFn, leFn, wrapI, mid]
          refine W_loopA (ι := List (List UInt8) × List (List UInt8)) (fun p => p.1 ++ p.2 = pn) (fun p => ⟨[(5, .ptr h.length 26 0 0), (10, .d (.sl 3 (pn.map fun s => D.int .i64 (posS pre s)))), (14, .bl (h.length + 3) 39 ((dr.map rowOf).map encR)), (81, .d (.sl 39 (rows.map encR))), (82, .d (.int .i64 rows.length)), (83, .d (.int .i64 dr.length)),
            (16, .d (encR x)), (17, if p.2 = [] then .d (encR (p.1.map fun s => pick x (posS pre s))) else .bl (h.length + 4) 9 (p.1.map fun s => encS (pick x (posS pre s)))), (87, .d (.sl 3 (pn.map fun s => D.int .i64 (posS pre s)))), (88, .d (.int .i64 pn.length)), (89, .d (.int .i64 p.1.length))],
            h ++ [.cells 26 [.d (encF (0, 0))], .cells 26 [.d (encF (0, 0))], .tail 3 pn.length, .tail 39 dr.length, .tail 9 p.1.length]⟩) (fun p => p.2.length) ([], pn) (by simp) ((Shift.nilbl (i := 17) 9 (by simp)).trans (Shift.slots' (by simp) (by simp [← hx, h4]))) ?_
          rintro ⟨dq, rq⟩ hx4 A4 hA4
          simp only at hx4
          have hpl : pn.length = dq.length + rq.length := by rw [← hx4]; simp
          cases rq with
          | nil =>
            simp only [List.append_nil] at hx4
            subst hx4
            simp (disch := first | omega | (simp; done) | (simp; omega)) [ltT, ltF, leT, leF, eqT', eqF, ltTn, leTn, ltFn, leFn, wrapI, mid]
            refine ⟨rfl, ?_⟩
            exact hA3 (dr ++ [x], rr) _ (by simpa using hx) (by simp) (Shift.weak' (g := [.tail 9 dq.length]) (by simp) (hok4 hok _ _ _ _ _ _ _ _) (by simp) (by simp [hro]))
          | cons q rq =>
            have hq0 := hpos q (by rw [← hx4]; simp)
            by_cases h8 : posS pre q < x.length
            · obtain ⟨xa, y, xb, hxx, hxa⟩ := split_at x (posS pre q).toNat (by omega)
              have hk : posS pre q = xa.length := by omega
              have hpk : pick x (posS pre q) = y := by rw [pick, if_pos h8, hk, hxx]; simp
              subst hxx
              rw [hk] at hpk
              rw [← hx4]
              simp (disch := first | omega | (simp; done) | (simp; omega)) [ltT, ltF, leT, leF, eqT', eqF, ltTn, leTn, ltFn, leFn, wrapI, mid, hk, encR, encS]
              by_cases hrq : rq = []
              · exact hA4 (dq ++ [q], rq) _ (by simpa using hx4) (by simp) (Shift.slots' (by simp; simp at hpl; omega) (by simp [hrq, hpk, hk, ← hx4, encR, encS]; exact .bl _ _ _))
              · exact hA4 (dq ++ [q], rq) _ (by simpa using hx4) (by simp) (Shift.slots' (by simp; simp at hpl; omega) (by simp [hrq, hpk, hk, ← hx4, encR, encS]))
            · have hpk : pick x (posS pre q) = [] := by rw [pick, if_neg h8]
              rw [← hx4]
              simp (disch := first | omega | (simp; done) | (simp; omega)) [ltT, ltF, leT, leF, eqT', eqF, ltTn, leTn, ltFn, leFn, wrapI, mid, encR, encS]
              by_cases hrq : rq = []
              · exact hA4 (dq ++ [q], rq) _ (by simpa using hx4) (by simp) (Shift.slots' (by simp; simp at hpl; omega) (by simp [hrq, hpk, ← hx4, encR, encS]; exact .bl _ _ _))
              · exact hA4 (dq ++ [q], rq) _ (by simpa using hx4) (by simp) (Shift.slots' (by simp; simp at hpl; omega) (by simp [hrq, hpk, ← hx4, encR, encS]))

end Go.Vm
