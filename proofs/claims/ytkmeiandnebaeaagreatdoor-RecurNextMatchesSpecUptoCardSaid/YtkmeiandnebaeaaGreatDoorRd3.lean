/- recur: giving the days of a rule: the walks. -/
import Derived.Test.YtkmeiandnebaeaaGreatDoorRd2
namespace Go.Vm
open Proofs
set_option maxRecDepth 20000
set_option maxHeartbeats 1000000
set_option linter.unusedSimpArgs false

theorem picked_V (picks l : List Int) (hl : l.length ≤ 10000000) (hp : picks.length < 1000000) (h : List Blk) : CallP Tryz.prog 66 [.d (.sl 3 (l.map encI)), .d (.sl 3 (picks.map encI))] h (.d (.sl 3 ((pickS picks l).map encI))) := by
  refine callW tb_ok fn66 (by simp) (fun hok => ?_)
  by_cases hpk : picks = []
  · rw [show pickS picks l = l from if_pos hpk]
    simp (disch := first | omega | (simp; done) | (simp; omega)) [ltT, ltF, leT, leF, eqT', eqF, ltTn, leTn, ltFn, leFn, wrapI, mid, c66, hpk]
  · have pl := List.length_pos_iff.mpr hpk
    rw [pickS_eq]
    simp (disch := first | omega | (simp; done) | (simp; omega)) [ltT, ltF, leT, leF, eqT', eqF, ltTn, leTn, ltFn, leFn, wrapI, mid, c66]
    refine W_loopA (ι := List Int × List Int) (fun q => q.1 ++ q.2 = l)
      (fun q => ⟨[(0, .d (.sl 3 (l.map encI))), (1, .d (.sl 3 (picks.map encI))), (5, .bl h.length 3 ((pickG picks l.length 0 q.1).map encI)), (12, .d (.sl 3 (l.map encI))), (13, .d (.int .i64 l.length)), (14, .d (.int .i64 q.1.length))],
        h ++ [.tail 3 (pickG picks l.length 0 q.1).length]⟩) (fun q => q.2.length) ([], l) rfl ((Shift.nilbl (i := 5) 3 (by simp)).trans (Shift.slots' (by simp [pickG]) (by simp [pickG]))) ?_
    rintro ⟨pre, rest⟩ hx A hA
    simp only at hx
    cases rest with
    | nil =>
      rw [List.append_nil] at hx
      subst hx
      simp (disch := first | omega | (simp; done) | (simp; omega)) [ltT, ltF, leT, leF, eqT', eqF, ltTn, leTn, ltFn, leFn, wrapI, mid]
      exact RShift.drop (.bl _ _ _) (by simp) hok (Nat.le_refl _)
    | cons x rest =>
      have hlen : l.length = pre.length + (rest.length + 1) := by rw [← hx]; simp
      have hat : l[pre.length]'(by omega) = x := by simp [← hx]
      have hsn := pickG_snoc picks l.length x 0 pre
      rw [Nat.zero_add] at hsn
      have hpc : pickC picks l.length pre.length = (picks.contains ((pre.length : Int) + 1) || picks.contains ((pre.length : Int) - l.length)) := by simp [pickC, hpk]
      rw [hpc] at hsn
      have hpl : (pickG picks l.length 0 pre).length ≤ pre.length := by
        have : ∀ (i : Nat) (q : List Int), (pickG picks l.length i q).length ≤ q.length := by
          intro i q
          induction q generalizing i with
          | nil => simp [pickG]
          | cons a q ih => unfold pickG; split <;> simp <;> have := ih (i + 1) <;> omega
        exact this 0 pre
      simp (disch := first | omega | (simp; done) | (simp; omega)) [ltT, ltF, leT, leF, eqT', eqF, ltTn, leTn, ltFn, leFn, wrapI, mid, hat]
      refine (contains66_V picks _ _ (by omega)).useV ?_
      cases c1 : picks.contains ((pre.length : Int) + 1) with
      | true =>
        have c1' := c1
        simp only [List.contains_eq_mem, decide_eq_true_eq] at c1'
        rw [c1, Bool.true_or, if_pos rfl] at hsn
        simp (disch := first | omega | (simp; done) | (simp; omega)) [ltT, ltF, leT, leF, eqT', eqF, ltTn, leTn, ltFn, leFn, wrapI, mid, c1', encI]
        exact hA (pre ++ [x], rest) _ (by simpa using hx) (by simp) (Shift.slots' (by simp [hsn]) (by simp [hsn, encI]))
      | false =>
        have c1' := c1
        simp only [List.contains_eq_mem, decide_eq_false_iff_not] at c1'
        rw [c1, Bool.false_or] at hsn
        simp (disch := first | omega | (simp; done) | (simp; omega)) [ltT, ltF, leT, leF, eqT', eqF, ltTn, leTn, ltFn, leFn, wrapI, mid, c1']
        refine (contains66_V picks _ _ (by omega)).useV ?_
        cases c2 : picks.contains ((pre.length : Int) - l.length) with
        | true =>
          have c2' := c2
          simp only [List.contains_eq_mem, decide_eq_true_eq] at c2'
          rw [c2, if_pos rfl] at hsn
          simp (disch := first | omega | (simp; done) | (simp; omega)) [ltT, ltF, leT, leF, eqT', eqF, ltTn, leTn, ltFn, leFn, wrapI, mid, c2', encI]
          exact hA (pre ++ [x], rest) _ (by simpa using hx) (by simp) (Shift.slots' (by simp [hsn]) (by simp [hsn, encI]))
        | false =>
          have c2' := c2
          simp only [List.contains_eq_mem, decide_eq_false_iff_not] at c2'
          rw [c2, if_neg (by simp), List.append_nil] at hsn
          simp (disch := first | omega | (simp; done) | (simp; omega)) [ltT, ltF, leT, leF, eqT', eqF, ltTn, leTn, ltFn, leFn, wrapI, mid, c2', encI]
          exact hA (pre ++ [x], rest) _ (by simpa using hx) (by simp) (Shift.slots' (by simp [hsn]) (by simp [hsn, encI]))

/-- The blocks of the whole: G given state. -/
structure GivH (r : Ru) (s last : Int) (σ : Type) (y : σ → Int → σ × Bool) (g : FuncId) (cs : List AV) (G : Int → σ → List Blk) (rB sB lB gB yB : Nat) : Prop where
  hr : ∀ v st, (G v st)[rB]? = some (.cells 25 [.d (encRu r)])
  hs : ∀ v st, (G v st)[sB]? = some (.cells 3 [.d (.int .i64 s)])
  hl : ∀ v st, (G v st)[lB]? = some (.cells 3 [.d (.int .i64 last)])
  hg : ∀ v st, (G v st)[gB]? = some (.cells 3 [.d (.int .i64 v)])
  hyb : ∀ v st, (G v st)[yB]? = some (.cells 49 [.clo g cs])
  hlen : ∀ v st v' st', (G v st).length = (G v' st').length
  hset : ∀ v v' st, (G v st).set gB (.cells 3 [.d (.int .i64 v')]) = G v' st
  hy : ∀ v st n, s ≤ n → n ≤ 3652059 → CallW Tryz.prog g (.d (.int .i64 n) :: cs) (G v st) fun x h' => x = .d (.bool (y st n).2) ∧ h' = G v (y st n).1

theorem give_V {r : Ru} (hr : r.ok) {s last : Int} {σ : Type} {y : σ → Int → σ × Bool} {g : FuncId} {cs : List AV} {G : Int → σ → List Blk} {rB sB lB gB yB : Nat} (hG : GivH r s last σ y g cs G rB sB lB gB yB)
    (hlast : last ≤ 3652059) (l : List Int) (hl : ∀ n ∈ l, 1 ≤ n ∧ n ≤ 3652059) (hlen : l.length ≤ 10000000) (v : Int) (st : σ) (hv : 0 ≤ v) (hv2 : v ≤ 10000000) :
    CallW Tryz.prog 65 [.d (.sl 3 (l.map encI)), .ptr rB 25 0 0, .ptr sB 3 0 0, .ptr lB 3 0 0, .ptr gB 3 0 0, .ptr yB 49 0 0] (G v st) fun x h' =>
      x = .d (.bool (runG y s last r.count (pickS r.picks l) (v, st)).1) ∧ h' = G (runG y s last r.count (pickS r.picks l) (v, st)).2.1 (runG y s last r.count (pickS r.picks l) (v, st)).2.2 := by
  obtain ⟨g1, g2, g3, g4, g5, gl, g6, g7⟩ := hG
  refine callW tb_ok fn65 (by simp) (fun hok => ?_)
  have lt : ∀ {b : Nat} {x : Blk}, (∀ v st, (G v st)[b]? = some x) → ∀ v st, b < (G v st).length := fun hx v st => (List.getElem?_eq_some_iff.mp (hx v st)).1
  have qp := hr.picks.1
  simp (disch := first | omega | (simp; done) | (simp; omega)) [ltT, ltF, leT, leF, eqT', eqF, ltTn, leTn, ltFn, leFn, wrapI, mid, c65, g1]
  refine (picked_V r.picks l (by omega) (by omega) _).useV ?_
  obtain ⟨Q, hQ⟩ : ∃ Q, pickS r.picks l = Q := ⟨_, rfl⟩
  have hQs : Q.Sublist l := hQ ▸ pickS_sub _ _
  have hQn : ∀ n ∈ Q, 1 ≤ n ∧ n ≤ 3652059 := fun n hn => hl n (hQs.subset hn)
  have hQl := hQs.length_le
  rw [hQ]
  obtain ⟨RES, hRES⟩ : ∃ RES, runG y s last r.count Q (v, st) = RES := ⟨_, rfl⟩
  rw [hRES]
  simp (disch := first | omega | (simp; done) | (simp; omega)) [ltT, ltF, leT, leF, eqT', eqF, ltTn, leTn, ltFn, leFn, wrapI, mid, g1]
  refine W_loopA (ι := List Int × List Int × Int × σ) (fun q => q.1 ++ q.2.1 = Q ∧ runG y s last r.count q.2.1 (q.2.2.1, q.2.2.2) = RES ∧ 0 ≤ q.2.2.1 ∧ q.2.2.1 ≤ v + q.1.length)
    (fun q => ⟨[(1, .ptr rB 25 0 0), (2, .ptr sB 3 0 0), (3, .ptr lB 3 0 0), (4, .ptr gB 3 0 0), (5, .ptr yB 49 0 0), (13, .d (.sl 3 (Q.map encI))), (14, .d (.int .i64 Q.length)), (15, .d (.int .i64 q.1.length))], G q.2.2.1 q.2.2.2⟩)
    (fun q => q.2.1.length) ([], Q, v, st) ⟨rfl, hRES, hv, by simp⟩ (Shift.slots' rfl (by simp)) ?_
  rintro ⟨pre, rest, v', st'⟩ ⟨hx, hrun, hv0, hvb⟩ A hA
  simp only at hx hrun hv0 hvb
  have hlm := gl v st v' st'
  have hret : ∀ {b : Bool} {z : Int × σ}, (b, z) = RES → RShift Tryz.prog (G v st).length (.d (.bool b)) (G z.1 z.2) (.d (.bool RES.1)) (G RES.2.1 RES.2.2) := by
    rintro b z rfl
    exact rshift_same' rfl (by rw [gl v st z.1 z.2]; exact Nat.le_refl _)
  cases rest with
  | nil =>
    rw [List.append_nil] at hx
    subst hx
    simp only [runG] at hrun
    simp (disch := first | omega | (simp; done) | (simp; omega)) [ltT, ltF, leT, leF, eqT', eqF, ltTn, leTn, ltFn, leFn, wrapI, mid]
    exact hret hrun
  | cons n rest =>
    have hlq : Q.length = pre.length + (rest.length + 1) := by rw [← hx]; simp
    have hat : Q[pre.length]'(by omega) = n := by simp [← hx]
    have hnr := hQn n (by rw [← hx]; simp)
    simp only [runG] at hrun
    have g4l : ∀ v st, gB < (G v st).length := fun v st => (List.getElem?_eq_some_iff.mp (g4 v st)).1
    by_cases c1 : n < s
    · rw [if_pos c1] at hrun
      simp (disch := first | omega | (simp; done) | (simp; omega)) [ltT, ltF, leT, leF, eqT', eqF, ltTn, leTn, ltFn, leFn, wrapI, mid, hat, encI, g2]
      exact hA (pre ++ [n], rest, v', st') _ ⟨by simpa using hx, hrun, hv0, by simp; omega⟩ (by simp) (Shift.slots' rfl (by simp [encI]))
    · rw [if_neg c1] at hrun
      by_cases c2 : last < n
      · rw [if_pos (.inl c2)] at hrun
        simp (disch := first | omega | (simp; done) | (simp; omega)) [ltT, ltF, leT, leF, eqT', eqF, ltTn, leTn, ltFn, leFn, wrapI, mid, hat, encI, g2, g3, c2]
        exact hret hrun
      · by_cases c3 : 0 < r.count
        · by_cases c4 : v' = r.count
          · rw [if_pos (.inr ⟨c3, c4⟩)] at hrun
            simp (disch := first | omega | (simp; done) | (simp; omega)) [ltT, ltF, leT, leF, eqT', eqF, ltTn, leTn, ltFn, leFn, wrapI, mid, hat, encI, g1, g2, g3, g4, c2, c3, eq_true c4]
            exact hret hrun
          · rw [if_neg (fun q => q.elim c2 fun q => c4 q.2)] at hrun
            simp (disch := first | omega | (simp; done) | (simp; omega)) [ltT, ltF, leT, leF, eqT', eqF, ltTn, leTn, ltFn, leFn, wrapI, mid, hat, encI, g1, g2, g3, g4, g5, c2, c3, c4]
            refine callV_of (g7 v' st' n (by omega) (by omega)) ?_
            rintro _ _ ⟨rfl, rfl⟩
            cases hy : (y st' n).2 with
            | true =>
              rw [hy, if_pos rfl] at hrun
              simp (disch := first | omega | (simp; done) | (simp; omega)) [ltT, ltF, leT, leF, eqT', eqF, ltTn, leTn, ltFn, leFn, wrapI, mid, g4, g4l]
              exact hA (pre ++ [n], rest, v' + 1, (y st' n).1) _ ⟨by simpa using hx, hrun, by simp only; omega, by simp; omega⟩ (by simp) (Shift.slots' (g6 _ _ _) (by simp [encI]))
            | false =>
              rw [hy, if_neg (by simp)] at hrun
              simp (disch := first | omega | (simp; done) | (simp; omega)) [ltT, ltF, leT, leF, eqT', eqF, ltTn, leTn, ltFn, leFn, wrapI, mid]
              exact hret hrun
        · rw [if_neg (fun q => q.elim c2 fun q => c3 q.1)] at hrun
          simp (disch := first | omega | (simp; done) | (simp; omega)) [ltT, ltF, leT, leF, eqT', eqF, ltTn, leTn, ltFn, leFn, wrapI, mid, hat, encI, g1, g2, g3, g4, g5, c2, c3]
          refine callV_of (g7 v' st' n (by omega) (by omega)) ?_
          rintro _ _ ⟨rfl, rfl⟩
          cases hy : (y st' n).2 with
          | true =>
            rw [hy, if_pos rfl] at hrun
            simp (disch := first | omega | (simp; done) | (simp; omega)) [ltT, ltF, leT, leF, eqT', eqF, ltTn, leTn, ltFn, leFn, wrapI, mid, g4, g4l]
            exact hA (pre ++ [n], rest, v' + 1, (y st' n).1) _ ⟨by simpa using hx, hrun, by simp only; omega, by simp; omega⟩ (by simp) (Shift.slots' (g6 _ _ _) (by simp [encI]))
          | false =>
            rw [hy, if_neg (by simp)] at hrun
            simp (disch := first | omega | (simp; done) | (simp; omega)) [ltT, ltF, leT, leF, eqT', eqF, ltTn, leTn, ltFn, leFn, wrapI, mid]
            exact hret hrun

end Go.Vm
