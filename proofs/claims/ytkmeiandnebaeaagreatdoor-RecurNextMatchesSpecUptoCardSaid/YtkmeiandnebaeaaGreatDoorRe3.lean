/- recur: the reference's days of a rule: the walk. -/
import Derived.Test.YtkmeiandnebaeaaGreatDoorRe1
import Derived.Test.YtkmeiandnebaeaaGreatDoorRe2
namespace Go.Vm
open Proofs
set_option maxRecDepth 20000
set_option maxHeartbeats 4000000
set_option linter.unusedSimpArgs false

theorem pickG_len (picks : List Int) (len : Nat) : ∀ (i : Nat) (q : List Int), (pickG picks len i q).length ≤ q.length
  | i, [] => by simp [pickG]
  | i, a :: q => by unfold pickG; split <;> simp <;> have := pickG_len picks len (i + 1) q <;> omega
theorem mostS_le (r : Ru) (most : Nat) : mostS r most ≤ most := by unfold mostS; split <;> omega
theorem refS_len (r : Ru) (s : Int) (most k : Nat) : (refS r s most k).length ≤ most := by
  have := mostS_le r most
  unfold refS; simp only [List.length_take]; omega
/-- The candidates ahead of a day. -/
def fitL (r : Ru) (s : Int) (k : Nat) (n : Int) : List Int := (ints (pf r.unit s k) n).filter (fun n => fitD r (dyS s) (dyS n))
theorem fitL_len (r : Ru) (s : Int) (k : Nat) (n : Int) (h0 : 1 ≤ pf r.unit s k) (h1 : n ≤ maxD + 1) : (fitL r s k n).length ≤ 4000000 := by
  have := inc_len (a := 1) (b := maxD) ((ints_inc (pf r.unit s k) n).sublist List.filter_sublist) (fun x hx => by
    have := mem_ints.mp (List.mem_filter.mp hx).1
    omega) (l := fitL r s k n)
  unfold maxD at this
  omega
theorem fitL_mem {r : Ru} {s : Int} {k : Nat} {n x : Int} (h : x ∈ fitL r s k n) : pf r.unit s k ≤ x ∧ x < n := mem_ints.mp (List.mem_filter.mp h).1
/-- The days at the i-th candidate of the k-th period. -/
def outS (r : Ru) (s : Int) (most k i : Nat) : List Int := ((preS r s k).filter (midB r s) ++ (pickG r.picks (cand r s k).length 0 ((cand r s k).take i)).filter (midB r s)).take (mostS r most)
theorem outS_zero (r : Ru) (s : Int) (most k : Nat) : outS r s most k 0 = refS r s most k := by
  unfold outS refS
  rw [List.take_zero, pickG, List.filter_nil, List.append_nil]
  rfl
theorem outS_len (r : Ru) (s : Int) (most k i : Nat) : (outS r s most k i).length ≤ most := by
  have := mostS_le r most
  unfold outS; simp only [List.length_take]; omega

theorem recurring_V (s : Int) (r : Ru) (most : Nat) (hr : r.ok) (hs1 : 1 ≤ s) (hs2 : s ≤ 3652059) (hm : most ≤ 20001) (h : List Blk) :
    CallP Tryz.prog 15 [.d (.int .i64 s), .d (encRu r), .d (.int .i64 most)] h (.d (.sl 3 ((listS r s most).map encI))) := by
  refine callW tb_ok fn15 (by simp) (fun hok => ?_)
  have hst := hr.step
  have hct := hr.count
  have htl := hr.til
  have hpk := hr.picks.1
  obtain ⟨L, hL⟩ : ∃ L, lastS r s = L := ⟨_, rfl⟩
  have hL0 := lastS_le r s
  have hL1 : 0 ≤ L ∧ L ≤ 3652059 := by
    unfold maxD at hL0
    rw [hL] at hL0
    refine ⟨?_, hL0.1⟩
    rw [← hL]
    unfold lastS maxD
    split <;> omega
  have hms := mostS_le r most
  simp (disch := first | omega | (simp; done) | (simp; omega)) [ltT, ltF, leT, leF, eqT', eqF, ltTn, leTn, ltFn, leFn, wrapI, mid, c15, -W_seq]
  rw [W_seq]
  simp (disch := first | omega | (simp; done) | (simp; omega)) [ltT, ltF, leT, leF, eqT', eqF, ltTn, leTn, ltFn, leFn, wrapI, mid, -W_seq]
  rw [W_seq]
  simp (disch := first | omega | (simp; done) | (simp; omega)) [ltT, ltF, leT, leF, eqT', eqF, ltTn, leTn, ltFn, leFn, wrapI, mid, -W_seq]
  refine W_seqJ (fun e => ∃ S, e = ⟨S, h ++ [.cells 25 [.d (encRu r)]]⟩ ∧ look S 0 = some (.d (.int .i64 s)) ∧ look S 2 = some (.d (.int .i64 most)) ∧ look S 4 = some (.ptr h.length 25 0 0) ∧ look S 7 = some (.d (.int .i64 (min (s + 20000) 3652059)))) ?_ ?_
  · by_cases c : 3652059 < s + 20000
    · rw [show min (s + 20000) 3652059 = 3652059 from by omega]
      simp (disch := first | omega | (simp; done) | (simp; omega)) [ltT, ltF, leT, leF, eqT', eqF, ltTn, leTn, ltFn, leFn, wrapI, mid]
    · rw [show min (s + 20000) 3652059 = s + 20000 from by omega]
      simp (disch := first | omega | (simp; done) | (simp; omega)) [ltT, ltF, leT, leF, eqT', eqF, ltTn, leTn, ltFn, leFn, wrapI, mid]
  rintro _ ⟨S, rfl, l0, l2, l4, l7⟩
  refine W_seqJ (fun e => ∃ S, e = ⟨S, h ++ [.cells 25 [.d (encRu r)]]⟩ ∧ look S 0 = some (.d (.int .i64 s)) ∧ look S 2 = some (.d (.int .i64 most)) ∧ look S 4 = some (.ptr h.length 25 0 0) ∧ look S 7 = some (.d (.int .i64 L))) ?_ ?_
  · unfold lastS maxD at hL
    by_cases c1 : 0 < r.til
    · rw [if_pos c1] at hL
      by_cases c2 : r.til < min (s + 20000) 3652059
      · rw [show L = r.til from by omega]
        simp (disch := first | omega | (simp; done) | (simp; omega)) [ltT, ltF, leT, leF, eqT', eqF, ltTn, leTn, ltFn, leFn, wrapI, mid, l0, l2, l4, l7]
      · rw [show L = min (s + 20000) 3652059 from by omega]
        simp (disch := first | omega | (simp; done) | (simp; omega)) [ltT, ltF, leT, leF, eqT', eqF, ltTn, leTn, ltFn, leFn, wrapI, mid, l0, l2, l4, l7]
    · rw [if_neg c1] at hL
      rw [← hL]
      simp (disch := first | omega | (simp; done) | (simp; omega)) [ltT, ltF, leT, leF, eqT', eqF, ltTn, leTn, ltFn, leFn, wrapI, mid, l0, l2, l4, l7]
  clear l0 l2 l4 l7
  rintro _ ⟨S, rfl, l0, l2, l4, l7⟩
  refine W_seqJ (fun e => ∃ S, e = ⟨S, h ++ [.cells 25 [.d (encRu r)]]⟩ ∧ look S 0 = some (.d (.int .i64 s)) ∧ look S 2 = some (.d (.int .i64 (mostS r most : Nat))) ∧ look S 4 = some (.ptr h.length 25 0 0) ∧ look S 7 = some (.d (.int .i64 L))) ?_ ?_
  · obtain ⟨m, hm'⟩ : ∃ m, mostS r most = m := ⟨_, rfl⟩
    rw [hm']
    unfold mostS at hm'
    by_cases c1 : 0 < r.count
    · rw [if_pos c1] at hm'
      by_cases c2 : r.count < most
      · have e : (m : Int) = r.count := by omega
        rw [e]
        simp (disch := first | omega | (simp; done) | (simp; omega)) [ltT, ltF, leT, leF, eqT', eqF, ltTn, leTn, ltFn, leFn, wrapI, mid, l0, l2, l4, l7]
      · have e : (m : Int) = most := by omega
        rw [e]
        simp (disch := first | omega | (simp; done) | (simp; omega)) [ltT, ltF, leT, leF, eqT', eqF, ltTn, leTn, ltFn, leFn, wrapI, mid, l0, l2, l4, l7]
    · rw [if_neg c1] at hm'
      rw [← hm']
      simp (disch := first | omega | (simp; done) | (simp; omega)) [ltT, ltF, leT, leF, eqT', eqF, ltTn, leTn, ltFn, leFn, wrapI, mid, l0, l2, l4, l7]
  clear l0 l2 l4 l7
  rintro _ ⟨S, rfl, l0, l2, l4, l7⟩
  have hokB : ∀ k, HOk (h ++ [.cells 25 [.d (encRu r)], .tail 3 (refS r s most k).length]) := fun k => by
    refine hok.append ?_
    intro z hz
    simp only [List.mem_cons, List.not_mem_nil, or_false] at hz
    rcases hz with rfl | rfl <;> simp [BlkBel, AV.cells]
  simp (disch := first | omega | (simp; done) | (simp; omega)) [ltT, ltF, leT, leF, eqT', eqF, ltTn, leTn, ltFn, leFn, wrapI, mid, l0, l2, l4, l7]
  refine W_loopA (ι := Nat) (fun k => (k : Int) % r.step = 0 ∧ ∃ j : Nat, k ≤ j + 1000 ∧ pf r.unit s j ≤ 3652059)
    (fun k => ⟨[(0, .d (.int .i64 s)), (2, .d (.int .i64 (mostS r most : Nat))), (4, .ptr h.length 25 0 0), (7, .d (.int .i64 L)), (8, .bl (h.length + 1) 3 ((refS r s most k).map encI)), (9, .d (.int .i64 k))], h ++ [.cells 25 [.d (encRu r)], .tail 3 (refS r s most k).length]⟩)
    (fun k => 4000000 - k) 0 ⟨by simp, 0, by omega, by have := (pf_start (u := r.unit) hs1).1; simpa using Int.le_trans this hs2⟩
    ((Shift.nilbl (i := 8) 3 (by simp [l0, l2, l4, l7])).trans (Shift.slots' (by simp [refS, preS]) (by simp [refS, preS, l0, l2, l4, l7]))) ?_
  rintro k ⟨hk0, j, hkj, hj⟩ A hA
  have hrl := refS_len r s most k
  have hgk := pf_grow (u := r.unit) hs1 k
  have hlt := pf_lt r.unit s (a := (k : Int)) (b := (k : Int) + 1) (by omega)
  simp (disch := first | omega | (simp; done) | (simp; omega)) [ltT, ltF, leT, leF, eqT', eqF, ltTn, leTn, ltFn, leFn, wrapI, mid]
  refine (period42_V r s k hs1 hs2 hr.unit j hj hkj _).useV ?_
  simp (disch := first | omega | (simp; done) | (simp; omega)) [ltT, ltF, leT, leF, eqT', eqF, ltTn, leTn, ltFn, leFn, wrapI, mid]
  by_cases c1 : L < pf r.unit s k
  · simp (disch := first | omega | (simp; done) | (simp; omega)) [ltT, ltF, leT, leF, eqT', eqF, ltTn, leTn, ltFn, leFn, wrapI, mid, c1]
    rw [← ref_end (k := k) hs1 (.inl (by rw [hL]; exact c1)) (.inr (by rw [hL]; exact c1))]
    exact RShift.drop (.bl _ _ _) (by simp) hok (Nat.le_refl _)
  by_cases c2 : mostS r most ≤ (refS r s most k).length
  · simp (disch := first | omega | (simp; done) | (simp; omega)) [ltT, ltF, leT, leF, eqT', eqF, ltTn, leTn, ltFn, leFn, wrapI, mid, c1, c2]
    rw [← ref_end (k := k) hs1 (.inr c2) (.inl (by have := bigN_eq; omega))]
    exact RShift.drop (.bl _ _ _) (by simp) hok (Nat.le_refl _)
  simp (disch := first | omega | (simp; done) | (simp; omega)) [ltT, ltF, leT, leF, eqT', eqF, ltTn, leTn, ltFn, leFn, wrapI, mid, c1, c2]
  have hB : ∀ a b : Nat, HOk (h ++ [.cells 25 [.d (encRu r)], .tail 3 a, .tail 3 b]) := fun a b => by
    refine hok.append ?_
    intro z hz
    simp only [List.mem_cons, List.not_mem_nil, or_false] at hz
    rcases hz with rfl | rfl | rfl <;> simp [BlkBel, AV.cells]
  refine W_loopA (ι := Int) (fun n => pf r.unit s k ≤ n ∧ n ≤ pf r.unit s ((k : Int) + 1) ∧ n ≤ 3652060)
    (fun n => ⟨[(0, .d (.int .i64 s)), (2, .d (.int .i64 (mostS r most : Nat))), (4, .ptr h.length 25 0 0), (7, .d (.int .i64 L)), (8, .bl (h.length + 1) 3 ((refS r s most k).map encI)), (9, .d (.int .i64 k)), (11, .d (.int .i64 (pf r.unit s ((k : Int) + 1) - 1))), (12, .bl (h.length + 2) 3 ((fitL r s k n).map encI)), (13, .d (.int .i64 n))],
      h ++ [.cells 25 [.d (encRu r)], .tail 3 (refS r s most k).length, .tail 3 (fitL r s k n).length]⟩)
    (fun n => (4000000 - n).toNat) (pf r.unit s k) ⟨by omega, by omega, by omega⟩
    ((Shift.nilbl (i := 12) 3 (by simp)).trans (Shift.slots' (by simp [fitL, ints_nil]) (by simp [fitL, ints_nil]))) ?_
  rintro n ⟨hn1, hn2, hn3⟩ B hB
  have hfl := fitL_len r s k n (by omega) (by unfold maxD; omega)
  by_cases d1 : n ≤ pf r.unit s ((k : Int) + 1) - 1
  · by_cases d2 : n ≤ 3652059
    · have hsn := cand_snoc r s (a := pf r.unit s k) (b := n) hn1
      simp (disch := first | omega | (simp; done) | (simp; omega)) [ltT, ltF, leT, leF, eqT', eqF, ltTn, leTn, ltFn, leFn, wrapI, mid, d1, d2]
      refine (fitsR_V r hr s n hs1 hs2 (by omega) d2 _).useV ?_
      cases hf : fitD r (dyS s) (dyS n) with
      | true =>
        have hsn' : fitL r s k (n + 1) = fitL r s k n ++ [n] := by rw [hf, if_pos rfl] at hsn; exact hsn
        simp (disch := first | omega | (simp; done) | (simp; omega)) [ltT, ltF, leT, leF, eqT', eqF, ltTn, leTn, ltFn, leFn, wrapI, mid]
        exact hB (n + 1) _ ⟨by omega, by omega, by omega⟩ (by omega) (Shift.slots' (by simp [hsn']) (by simp [hsn', encI]))
      | false =>
        have hsn' : fitL r s k (n + 1) = fitL r s k n := by rw [hf, if_neg (by simp), List.append_nil] at hsn; exact hsn
        simp (disch := first | omega | (simp; done) | (simp; omega)) [ltT, ltF, leT, leF, eqT', eqF, ltTn, leTn, ltFn, leFn, wrapI, mid]
        exact hB (n + 1) _ ⟨by omega, by omega, by omega⟩ (by omega) (Shift.slots' (by simp [hsn']) (by simp [hsn', encI]))
    · have hfe : fitL r s k n = cand r s k := by
        unfold fitL cand maxD
        rw [show n = min (pf r.unit s ((k : Int) + 1)) (3652059 + 1) from by omega]
      rw [hfe] at hfl ⊢
      obtain ⟨fit, hfit⟩ : ∃ fit, cand r s k = fit := ⟨_, rfl⟩
      have hrange : ∀ i (hi : i < fit.length), 1 ≤ fit[i] ∧ fit[i] ≤ 3652059 := fun i hi => by
        have hx : fit[i] ∈ fitL r s k n := by rw [hfe, hfit]; exact List.getElem_mem hi
        have := fitL_mem hx
        omega
      have hot := ref_take r s ((preS r s k).filter (midB r s)) (mostS r most) r.picks fit
      have hou : ∀ i, outS r s most k i = ((preS r s k).filter (midB r s) ++ (pickG r.picks fit.length 0 (fit.take i)).filter (midB r s)).take (mostS r most) := fun i => by unfold outS; rw [hfit]
      simp only [← hou] at hot
      rw [hfit] at hfl ⊢
      simp (disch := first | omega | (simp; done) | (simp; omega)) [ltT, ltF, leT, leF, eqT', eqF, ltTn, leTn, ltFn, leFn, wrapI, mid, d1, d2]
      refine W_loopA (ι := Nat) (fun i => i ≤ fit.length)
        (fun i => ⟨[(0, .d (.int .i64 s)), (2, .d (.int .i64 (mostS r most : Nat))), (4, .ptr h.length 25 0 0), (7, .d (.int .i64 L)), (8, .bl (h.length + 1) 3 ((outS r s most k i).map encI)), (9, .d (.int .i64 k)), (12, .bl (h.length + 2) 3 (fit.map encI)), (14, .d (.int .i64 i))],
          h ++ [.cells 25 [.d (encRu r)], .tail 3 (outS r s most k i).length, .tail 3 fit.length]⟩)
        (fun i => fit.length - i) 0 (by omega) (Shift.slots' (by simp [outS_zero]) (by simp [outS_zero])) ?_
      rintro i hi C hC
      have hol := outS_len r s most k i
      by_cases hie : i = fit.length
      · subst hie
        have hnx := ref_next (s := s) (most := most) hst.1 hk0
        rw [hfit, ← hou] at hnx
        obtain ⟨k', hk'⟩ : ∃ k' : Nat, k + r.step.toNat = k' := ⟨_, rfl⟩
        rw [hk'] at hnx
        have hk'' : (k : Int) + r.step = (k' : Int) := by omega
        simp (disch := first | omega | (simp; done) | (simp; omega)) [ltT, ltF, leT, leF, eqT', eqF, ltTn, leTn, ltFn, leFn, wrapI, mid, hk'']
        refine hA k' _ ⟨?_, k, by omega, by omega⟩ (by omega) (Shift.weak' (g := [.tail 3 fit.length]) (by simp [hnx]) (hokB k') (by simp) (by simp [hnx]))
        rw [← hk'', Int.add_emod, hk0, Int.zero_add, Int.emod_emod, Int.emod_self]
      · have hi' : i < fit.length := by omega
        have hst1 := hot i hi'
        obtain ⟨x, hx⟩ : ∃ x, fit[i] = x := ⟨_, rfl⟩
        have hxr := hrange i hi'
        rw [hx] at hst1 hxr
        have hpc : pickC r.picks fit.length i = (decide (r.picks = []) || (r.picks.contains ((i : Int) + 1) || r.picks.contains ((i : Int) - fit.length))) := rfl
        rw [W_seq, W_seq]
        simp (disch := first | omega | (simp; done) | (simp; omega)) [ltT, ltF, leT, leF, eqT', eqF, ltTn, leTn, ltFn, leFn, wrapI, mid, -W_seq]
        rw [W_seq]
        simp (disch := first | omega | (simp; done) | (simp; omega)) [ltT, ltF, leT, leF, eqT', eqF, ltTn, leTn, ltFn, leFn, wrapI, mid, -W_seq]
        refine W_seqJ (fun e => ∃ S, e = ⟨S, h ++ [.cells 25 [.d (encRu r)], .tail 3 (outS r s most k i).length, .tail 3 fit.length]⟩ ∧ look S 0 = some (.d (.int .i64 s)) ∧ look S 2 = some (.d (.int .i64 (mostS r most : Nat))) ∧ look S 4 = some (.ptr h.length 25 0 0) ∧ look S 7 = some (.d (.int .i64 L)) ∧ look S 8 = some (.bl (h.length + 1) 3 ((outS r s most k i).map encI)) ∧ look S 9 = some (.d (.int .i64 k)) ∧ look S 12 = some (.bl (h.length + 2) 3 (fit.map encI)) ∧ look S 14 = some (.d (.int .i64 i)) ∧ look S 15 = some (.d (.bool (pickC r.picks fit.length i)))) ?_ ?_
        · by_cases p0 : r.picks = []
          · have hp : pickC r.picks fit.length i = true := by rw [hpc, p0]; rfl
            rw [hp]
            simp (disch := first | omega | (simp; done) | (simp; omega)) [ltT, ltF, leT, leF, eqT', eqF, ltTn, leTn, ltFn, leFn, wrapI, mid, p0]
          · have pl := List.length_pos_iff.mpr p0
            rw [decide_eq_false p0, Bool.false_or] at hpc
            simp (disch := first | omega | (simp; done) | (simp; omega)) [ltT, ltF, leT, leF, eqT', eqF, ltTn, leTn, ltFn, leFn, wrapI, mid]
            refine (has_V r.picks ((i : Int) + 1) _ (by omega)).useV ?_
            cases q1 : r.picks.contains ((i : Int) + 1) with
            | true =>
              rw [q1, Bool.true_or] at hpc
              rw [hpc]
              have q1' := q1
              simp only [List.contains_eq_mem, decide_eq_true_eq, decide_eq_false_iff_not] at q1'
              simp (disch := first | omega | (simp; done) | (simp; omega)) [ltT, ltF, leT, leF, eqT', eqF, ltTn, leTn, ltFn, leFn, wrapI, mid, q1']
            | false =>
              rw [q1, Bool.false_or] at hpc
              rw [hpc]
              have q1' := q1
              simp only [List.contains_eq_mem, decide_eq_true_eq, decide_eq_false_iff_not] at q1'
              simp (disch := first | omega | (simp; done) | (simp; omega)) [ltT, ltF, leT, leF, eqT', eqF, ltTn, leTn, ltFn, leFn, wrapI, mid, q1']
              refine (has_V r.picks ((i : Int) - fit.length) _ (by omega)).useV ?_
              simp (disch := first | omega | (simp; done) | (simp; omega)) [ltT, ltF, leT, leF, eqT', eqF, ltTn, leTn, ltFn, leFn, wrapI, mid]
        rintro _ ⟨S, rfl, l0, l2, l4, l7, l8, l9, l12, l14, l15⟩
        have hC' : ∀ env', Shift _ _ _ env' _ → C env' := fun env' hsh => hC (i + 1) env' (by omega) (by omega) hsh
        by_cases pc : pickC r.picks fit.length i = true
        · rw [pc] at l15
          simp (disch := first | omega | (simp; done) | (simp; omega)) [ltT, ltF, leT, leF, eqT', eqF, ltTn, leTn, ltFn, leFn, wrapI, mid, l0, l2, l4, l7, l8, l9, l12, l14, l15, hx, encI]
          refine (in_V x s L _).useV ?_
          by_cases pm : s ≤ x ∧ x ≤ L
          · by_cases pl : (outS r s most k i).length < mostS r most
            · rw [if_pos ⟨pc, by unfold midB; rw [hL]; simpa using pm, pl⟩] at hst1
              simp (disch := first | omega | (simp; done) | (simp; omega)) [ltT, ltF, leT, leF, eqT', eqF, ltTn, leTn, ltFn, leFn, wrapI, mid, pm, l0, l2, l4, l7, l8, l9, l12, l14, l15, hx, encI]
              exact hC' _ (Shift.slots' (by simp [hst1]) (by simp [hst1, encI, l0, l2, l4, l7, l8, l9, l12, l14, l15]))
            · rw [if_neg (fun q => pl q.2.2)] at hst1
              simp (disch := first | omega | (simp; done) | (simp; omega)) [ltT, ltF, leT, leF, eqT', eqF, ltTn, leTn, ltFn, leFn, wrapI, mid, pm, l0, l2, l4, l7, l8, l9, l12, l14, l15, hx, encI]
              exact hC' _ (Shift.slots' (by simp [hst1]) (by simp [hst1, encI, l0, l2, l4, l7, l8, l9, l12, l14, l15]))
          · rw [if_neg (fun q => pm (by have := q.2.1; unfold midB at this; rw [hL] at this; simpa using this))] at hst1
            simp (disch := first | omega | (simp; done) | (simp; omega)) [ltT, ltF, leT, leF, eqT', eqF, ltTn, leTn, ltFn, leFn, wrapI, mid, pm, l0, l2, l4, l7, l8, l9, l12, l14, l15, hx, encI]
            exact hC' _ (Shift.slots' (by simp [hst1]) (by simp [hst1, encI, l0, l2, l4, l7, l8, l9, l12, l14, l15]))
        · rw [Bool.not_eq_true] at pc
          rw [pc] at l15
          rw [if_neg (fun q => by rw [pc] at q; cases q.1)] at hst1
          simp (disch := first | omega | (simp; done) | (simp; omega)) [ltT, ltF, leT, leF, eqT', eqF, ltTn, leTn, ltFn, leFn, wrapI, mid, l0, l2, l4, l7, l8, l9, l12, l14, l15]
          exact hC' _ (Shift.slots' (by simp [hst1]) (by simp [hst1, encI, l0, l2, l4, l7, l8, l9, l12, l14, l15]))
  · have hfe : fitL r s k n = cand r s k := by
      unfold fitL cand maxD
      rw [show n = min (pf r.unit s ((k : Int) + 1)) (3652059 + 1) from by omega]
    rw [hfe] at hfl ⊢
    obtain ⟨fit, hfit⟩ : ∃ fit, cand r s k = fit := ⟨_, rfl⟩
    have hrange : ∀ i (hi : i < fit.length), 1 ≤ fit[i] ∧ fit[i] ≤ 3652059 := fun i hi => by
      have hx : fit[i] ∈ fitL r s k n := by rw [hfe, hfit]; exact List.getElem_mem hi
      have := fitL_mem hx
      omega
    have hot := ref_take r s ((preS r s k).filter (midB r s)) (mostS r most) r.picks fit
    have hou : ∀ i, outS r s most k i = ((preS r s k).filter (midB r s) ++ (pickG r.picks fit.length 0 (fit.take i)).filter (midB r s)).take (mostS r most) := fun i => by unfold outS; rw [hfit]
    simp only [← hou] at hot
    rw [hfit] at hfl ⊢
    simp (disch := first | omega | (simp; done) | (simp; omega)) [ltT, ltF, leT, leF, eqT', eqF, ltTn, leTn, ltFn, leFn, wrapI, mid, d1]
    refine W_loopA (ι := Nat) (fun i => i ≤ fit.length)
      (fun i => ⟨[(0, .d (.int .i64 s)), (2, .d (.int .i64 (mostS r most : Nat))), (4, .ptr h.length 25 0 0), (7, .d (.int .i64 L)), (8, .bl (h.length + 1) 3 ((outS r s most k i).map encI)), (9, .d (.int .i64 k)), (12, .bl (h.length + 2) 3 (fit.map encI)), (14, .d (.int .i64 i))],
        h ++ [.cells 25 [.d (encRu r)], .tail 3 (outS r s most k i).length, .tail 3 fit.length]⟩)
      (fun i => fit.length - i) 0 (by omega) (Shift.slots' (by simp [outS_zero]) (by simp [outS_zero])) ?_
    rintro i hi C hC
    have hol := outS_len r s most k i
    by_cases hie : i = fit.length
    · subst hie
      have hnx := ref_next (s := s) (most := most) hst.1 hk0
      rw [hfit, ← hou] at hnx
      obtain ⟨k', hk'⟩ : ∃ k' : Nat, k + r.step.toNat = k' := ⟨_, rfl⟩
      rw [hk'] at hnx
      have hk'' : (k : Int) + r.step = (k' : Int) := by omega
      simp (disch := first | omega | (simp; done) | (simp; omega)) [ltT, ltF, leT, leF, eqT', eqF, ltTn, leTn, ltFn, leFn, wrapI, mid, hk'']
      refine hA k' _ ⟨?_, k, by omega, by omega⟩ (by omega) (Shift.weak' (g := [.tail 3 fit.length]) (by simp [hnx]) (hokB k') (by simp) (by simp [hnx]))
      rw [← hk'', Int.add_emod, hk0, Int.zero_add, Int.emod_emod, Int.emod_self]
    · have hi' : i < fit.length := by omega
      have hst1 := hot i hi'
      obtain ⟨x, hx⟩ : ∃ x, fit[i] = x := ⟨_, rfl⟩
      have hxr := hrange i hi'
      rw [hx] at hst1 hxr
      have hpc : pickC r.picks fit.length i = (decide (r.picks = []) || (r.picks.contains ((i : Int) + 1) || r.picks.contains ((i : Int) - fit.length))) := rfl
      rw [W_seq, W_seq]
      simp (disch := first | omega | (simp; done) | (simp; omega)) [ltT, ltF, leT, leF, eqT', eqF, ltTn, leTn, ltFn, leFn, wrapI, mid, -W_seq]
      rw [W_seq]
      simp (disch := first | omega | (simp; done) | (simp; omega)) [ltT, ltF, leT, leF, eqT', eqF, ltTn, leTn, ltFn, leFn, wrapI, mid, -W_seq]
      refine W_seqJ (fun e => ∃ S, e = ⟨S, h ++ [.cells 25 [.d (encRu r)], .tail 3 (outS r s most k i).length, .tail 3 fit.length]⟩ ∧ look S 0 = some (.d (.int .i64 s)) ∧ look S 2 = some (.d (.int .i64 (mostS r most : Nat))) ∧ look S 4 = some (.ptr h.length 25 0 0) ∧ look S 7 = some (.d (.int .i64 L)) ∧ look S 8 = some (.bl (h.length + 1) 3 ((outS r s most k i).map encI)) ∧ look S 9 = some (.d (.int .i64 k)) ∧ look S 12 = some (.bl (h.length + 2) 3 (fit.map encI)) ∧ look S 14 = some (.d (.int .i64 i)) ∧ look S 15 = some (.d (.bool (pickC r.picks fit.length i)))) ?_ ?_
      · by_cases p0 : r.picks = []
        · have hp : pickC r.picks fit.length i = true := by rw [hpc, p0]; rfl
          rw [hp]
          simp (disch := first | omega | (simp; done) | (simp; omega)) [ltT, ltF, leT, leF, eqT', eqF, ltTn, leTn, ltFn, leFn, wrapI, mid, p0]
        · have pl := List.length_pos_iff.mpr p0
          rw [decide_eq_false p0, Bool.false_or] at hpc
          simp (disch := first | omega | (simp; done) | (simp; omega)) [ltT, ltF, leT, leF, eqT', eqF, ltTn, leTn, ltFn, leFn, wrapI, mid]
          refine (has_V r.picks ((i : Int) + 1) _ (by omega)).useV ?_
          cases q1 : r.picks.contains ((i : Int) + 1) with
          | true =>
            rw [q1, Bool.true_or] at hpc
            rw [hpc]
            have q1' := q1
            simp only [List.contains_eq_mem, decide_eq_true_eq, decide_eq_false_iff_not] at q1'
            simp (disch := first | omega | (simp; done) | (simp; omega)) [ltT, ltF, leT, leF, eqT', eqF, ltTn, leTn, ltFn, leFn, wrapI, mid, q1']
          | false =>
            rw [q1, Bool.false_or] at hpc
            rw [hpc]
            have q1' := q1
            simp only [List.contains_eq_mem, decide_eq_true_eq, decide_eq_false_iff_not] at q1'
            simp (disch := first | omega | (simp; done) | (simp; omega)) [ltT, ltF, leT, leF, eqT', eqF, ltTn, leTn, ltFn, leFn, wrapI, mid, q1']
            refine (has_V r.picks ((i : Int) - fit.length) _ (by omega)).useV ?_
            simp (disch := first | omega | (simp; done) | (simp; omega)) [ltT, ltF, leT, leF, eqT', eqF, ltTn, leTn, ltFn, leFn, wrapI, mid]
      rintro _ ⟨S, rfl, l0, l2, l4, l7, l8, l9, l12, l14, l15⟩
      have hC' : ∀ env', Shift _ _ _ env' _ → C env' := fun env' hsh => hC (i + 1) env' (by omega) (by omega) hsh
      by_cases pc : pickC r.picks fit.length i = true
      · rw [pc] at l15
        simp (disch := first | omega | (simp; done) | (simp; omega)) [ltT, ltF, leT, leF, eqT', eqF, ltTn, leTn, ltFn, leFn, wrapI, mid, l0, l2, l4, l7, l8, l9, l12, l14, l15, hx, encI]
        refine (in_V x s L _).useV ?_
        by_cases pm : s ≤ x ∧ x ≤ L
        · by_cases pl : (outS r s most k i).length < mostS r most
          · rw [if_pos ⟨pc, by unfold midB; rw [hL]; simpa using pm, pl⟩] at hst1
            simp (disch := first | omega | (simp; done) | (simp; omega)) [ltT, ltF, leT, leF, eqT', eqF, ltTn, leTn, ltFn, leFn, wrapI, mid, pm, l0, l2, l4, l7, l8, l9, l12, l14, l15, hx, encI]
            exact hC' _ (Shift.slots' (by simp [hst1]) (by simp [hst1, encI, l0, l2, l4, l7, l8, l9, l12, l14, l15]))
          · rw [if_neg (fun q => pl q.2.2)] at hst1
            simp (disch := first | omega | (simp; done) | (simp; omega)) [ltT, ltF, leT, leF, eqT', eqF, ltTn, leTn, ltFn, leFn, wrapI, mid, pm, l0, l2, l4, l7, l8, l9, l12, l14, l15, hx, encI]
            exact hC' _ (Shift.slots' (by simp [hst1]) (by simp [hst1, encI, l0, l2, l4, l7, l8, l9, l12, l14, l15]))
        · rw [if_neg (fun q => pm (by have := q.2.1; unfold midB at this; rw [hL] at this; simpa using this))] at hst1
          simp (disch := first | omega | (simp; done) | (simp; omega)) [ltT, ltF, leT, leF, eqT', eqF, ltTn, leTn, ltFn, leFn, wrapI, mid, pm, l0, l2, l4, l7, l8, l9, l12, l14, l15, hx, encI]
          exact hC' _ (Shift.slots' (by simp [hst1]) (by simp [hst1, encI, l0, l2, l4, l7, l8, l9, l12, l14, l15]))
      · rw [Bool.not_eq_true] at pc
        rw [pc] at l15
        rw [if_neg (fun q => by rw [pc] at q; cases q.1)] at hst1
        simp (disch := first | omega | (simp; done) | (simp; omega)) [ltT, ltF, leT, leF, eqT', eqF, ltTn, leTn, ltFn, leFn, wrapI, mid, l0, l2, l4, l7, l8, l9, l12, l14, l15]
        exact hC' _ (Shift.slots' (by simp [hst1]) (by simp [hst1, encI, l0, l2, l4, l7, l8, l9, l12, l14, l15]))

end Go.Vm
