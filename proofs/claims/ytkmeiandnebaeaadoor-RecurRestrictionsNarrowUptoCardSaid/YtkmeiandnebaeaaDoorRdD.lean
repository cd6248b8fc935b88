/- recur: restrictions narrow. -/
import Derived.Test.YtkmeiandnebaeaaDoorRdC
namespace Go.Vm
open Proofs
set_option maxRecDepth 20000
set_option maxHeartbeats 4000000
set_option linter.unusedSimpArgs false

theorem law6 (s : Int) (r : Ru) (hml : r.months.length ≤ 1048576) (hdl : r.mdays.length ≤ 1048576) (hwl : r.wds.length ≤ 1048576) (h : List Blk) : CallP Tryd.prog 6 [.d (.int .i64 s), .d (encRu r)] h (.d (.bool true)) := by
  refine callW tb_ok fn6 (by simp) (fun hok => ?_)
  obtain ⟨r0, hr0⟩ : ∃ r0 : Ru, r0 = { r with count := 0, picks := [] } := ⟨_, rfl⟩
  have hle0 : LeA (.d (.agg [.int .i64 r.unit, .int .i64 r.step, .sl 3 (r.months.map encI), .sl 3 (r.mdays.map encI), .sl 54 (r.wds.map encF), .nilsl, .int .i64 0, .int .i64 r.til])) (.d (encRu r0)) := by
    rw [hr0]
    exact NilL.le (.eq _ (.eq _ (.eq _ (.eq _ (.eq _ (.ns 3 (.eq _ (.eq _ .nil))))))))
  have hleM : LeA (.d (.agg [.int .i64 r.unit, .int .i64 r.step, .nilsl, .sl 3 (r.mdays.map encI), .sl 54 (r.wds.map encF), .nilsl, .int .i64 0, .int .i64 r.til])) (.d (encRu { r0 with months := [] })) := by
    rw [hr0]
    exact NilL.le (.eq _ (.eq _ (.ns 3 (.eq _ (.eq _ (.ns 3 (.eq _ (.eq _ .nil))))))))
  have hS := fun h => CallP.le (startFault_V s r0 h) (.cons (LeA.refl _) (.cons hle0 .nil))
  simp (disch := first | omega | (simp; done) | (simp; omega)) [ltT, ltF, leT, leF, eqT', eqF, ltTn, leTn, ltFn, leFn, wrapI, mid, c6]
  refine (hS _).useV ?_
  by_cases h1 : (chkF s r0).1 ≠ 0
  · simp (disch := first | omega | (simp; done) | (simp; omega)) [ltT, ltF, leT, leF, eqT', eqF, ltTn, leTn, ltFn, leFn, wrapI, mid, h1]
    refine (recurred_V _).useV ?_
    simp (disch := first | omega | (simp; done) | (simp; omega)) [ltT, ltF, leT, leF, eqT', eqF, ltTn, leTn, ltFn, leFn, wrapI, mid]
    exact rshift_d hok
  obtain ⟨hz, hrz, ho, hs1, hs2⟩ := chkF_ok h1
  rw [hz]
  by_cases h2 : r.months = []
  · simp (disch := first | omega | (simp; done) | (simp; omega)) [ltT, ltF, leT, leF, eqT', eqF, ltTn, leTn, ltFn, leFn, wrapI, mid, h2]
    refine (recurred_V _).useV ?_
    simp (disch := first | omega | (simp; done) | (simp; omega)) [ltT, ltF, leT, leF, eqT', eqF, ltTn, leTn, ltFn, leFn, wrapI, mid]
    exact rshift_d hok
  have h2l := List.length_pos_iff.mpr h2
  by_cases h3 : r.mdays.length + r.wds.length = 0
  · have h3' : (r.mdays.length : Int) + (r.wds.length : Int) = 0 := by omega
    simp (disch := first | omega | (simp; done) | (simp; omega)) [ltT, ltF, leT, leF, eqT', eqF, ltTn, leTn, ltFn, leFn, wrapI, mid, h2l, h3']
    refine (recurred_V _).useV ?_
    simp (disch := first | omega | (simp; done) | (simp; omega)) [ltT, ltF, leT, leF, eqT', eqF, ltTn, leTn, ltFn, leFn, wrapI, mid]
    exact rshift_d hok
  have h3' : ¬ (r.mdays.length : Int) + (r.wds.length : Int) = 0 := by omega
  have hdw : r.mdays ≠ [] ∨ r.wds ≠ [] := by
    by_cases e : r.mdays = []
    · right; intro e2; rw [e, e2] at h3; exact h3 rfl
    · exact .inl e
  have hL0 := fun h => CallP.le (list_V s r0 20001 h) (.cons (LeA.refl _) (.cons hle0 (.cons (LeA.refl _) .nil)))
  have hLM := fun h => CallP.le (list_V s { r0 with months := [] } 20001 h) (.cons (LeA.refl _) (.cons hleM (.cons (LeA.refl _) .nil)))
  rw [listP_ok hz (by omega) (by omega)] at hL0
  rw [listP_ok (chkF_with h1 (ruleF_months hrz)) (by omega) (by omega)] at hLM
  have hc0 : r0.count = 0 := by rw [hr0]
  have e2 : listS r0 s (20001 : Int).toNat = allS r0 s := by
    show listS r0 s 20001 = _
    rw [list_all]
    unfold daysS
    rw [if_neg (by omega)]
  have e1 : listS { r0 with months := [] } s (20001 : Int).toNat = allS { r0 with months := [] } s := by
    show listS { r0 with months := [] } s 20001 = _
    rw [list_all]
    unfold daysS
    rw [if_neg (show ¬ 0 < r0.count from by omega)]
  have hmo : r0.months = r.months := by rw [hr0]
  have hkey := all_months (r := r0) s (by rw [hr0]) (by rw [hmo]; exact h2) (by rw [hr0]; exact hdw)
  rw [e2, hkey, hmo] at hL0
  rw [e1] at hLM
  have hal := allS_len { r0 with months := [] } s
  have hrange : ∀ n ∈ allS { r0 with months := [] } s, 1 ≤ n ∧ n ≤ 3652059 := fun n hn => by
    have := (List.mem_filter.mp hn).2
    have hle := (lastS_le { r0 with months := [] } s).1
    unfold maxD at hle
    simp at this
    omega
  obtain ⟨all, hall⟩ : ∃ all, allS { r0 with months := [] } s = all := ⟨_, rfl⟩
  rw [hall] at hL0 hLM hal hrange
  obtain ⟨f, hf⟩ : ∃ f : Int → Bool, f = fun n => r.months.contains (dateRef n).2.1 := ⟨_, rfl⟩
  rw [← hf] at hL0
  clear hS hkey e1 e2 hall
  simp (disch := first | omega | (simp; done) | (simp; omega)) [ltT, ltF, leT, leF, eqT', eqF, ltTn, leTn, ltFn, leFn, wrapI, mid, h2l, h3']
  refine (hL0 _).useV ?_
  simp (disch := first | omega | (simp; done) | (simp; omega)) [ltT, ltF, leT, leF, eqT', eqF, ltTn, leTn, ltFn, leFn, wrapI, mid]
  refine (hLM _).useV ?_
  simp (disch := first | omega | (simp; done) | (simp; omega)) [ltT, ltF, leT, leF, eqT', eqF, ltTn, leTn, ltFn, leFn, wrapI, mid]
  obtain ⟨SM, hSM⟩ : ∃ SM, all.filter f = SM := ⟨_, rfl⟩
  rw [hSM]
  have hSMl : SM.length ≤ 20001 := by rw [← hSM]; exact Nat.le_trans (List.length_filter_le _ _) hal
  refine W_loopA (ι := List Int × List Int) (fun q => q.1 ++ q.2 = all) (fun q => ⟨[(5, .d (.sl 3 (SM.map encI))), (7, .d (.sl 3 (r.months.map encI))), (8, .d (.sl 3 (all.map encI))), (10, .bl h.length 3 ((q.1.filter f).map encI)), (11, .d (.int .i64 q.1.length))], h ++ [.tail 3 (q.1.filter f).length]⟩) (fun q => q.2.length) ([], all) rfl
    ((Shift.weak' (s' := [(5, .d (.sl 3 (SM.map encI))), (7, .d (.sl 3 (r.months.map encI))), (8, .d (.sl 3 (all.map encI))), (10, .d .nilsl), (11, .d (.int .i64 0))]) (h := h) rfl hok (Nat.le_refl _) (by simp)).trans ((Shift.nilbl (i := 10) 3 (by simp [look])).trans (Shift.slots' (by simp) (by simp)))) ?_
  rintro ⟨pre, rest⟩ hx A hA
  simp only at hx
  have hokT : ∀ k, HOk (h ++ [.tail 3 k]) := fun k => hok.append (fun z hz => by simp at hz; subst hz; simp [BlkBel])
  cases rest with
  | nil =>
    rw [List.append_nil] at hx
    subst hx
    simp (disch := first | omega | (simp; done) | (simp; omega)) [ltT, ltF, leT, leF, eqT', eqF, ltTn, leTn, ltFn, leFn, wrapI, mid]
    have hI := fun h => CallP.subs (args := [.d (.sl 3 (SM.map encI)), .bl h.length 3 ((pre.filter f).map encI)]) (ints_V SM (pre.filter f) (h ++ [.tail 3 (pre.filter f).length]) (by omega) (by rw [hSM]; omega)) (by exact ⟨.refl _, .bl _ _ _, trivial⟩)
    rw [show decide (SM = pre.filter f) = true from decide_eq_true hSM.symm] at hI
    refine (hI h).useV ?_
    simp (disch := first | omega | (simp; done) | (simp; omega)) [ltT, ltF, leT, leF, eqT', eqF, ltTn, leTn, ltFn, leFn, wrapI, mid]
    refine (recurred_V _).useV ?_
    simp (disch := first | omega | (simp; done) | (simp; omega)) [ltT, ltF, leT, leF, eqT', eqF, ltTn, leTn, ltFn, leFn, wrapI, mid]
    exact rshift_d hok
  | cons n rest =>
    have hn := hrange n (by rw [← hx]; simp)
    have hlen : all.length = pre.length + (rest.length + 1) := by rw [← hx]; simp
    have hat : all[pre.length]'(by omega) = n := by simp [← hx]
    have hpf : (pre.filter f).length ≤ pre.length := List.length_filter_le _ _
    have em : (frS ((n - 1) * 86400)).m = (dateRef n).2.1 := by
      show (dateRef ((n - 1) * 86400 / 86400 + 1)).2.1 = _
      rw [show (n - 1) * 86400 / 86400 + 1 = n from by omega]
    have hA31 := fun h => at31_V ((n - 1) * 86400) h
    rw [if_neg (by omega), if_neg (by omega)] at hA31
    simp (disch := first | omega | (simp; done) | (simp; omega)) [ltT, ltF, leT, leF, eqT', eqF, ltTn, leTn, ltFn, leFn, wrapI, mid, hat, encI]
    refine (hA31 _).useV ?_
    simp (disch := first | omega | (simp; done) | (simp; omega)) [ltT, ltF, leT, leF, eqT', eqF, ltTn, leTn, ltFn, leFn, wrapI, mid, em]
    refine (has_V r.months _ _ (by omega)).useV ?_
    have hfc : f n = r.months.contains (dateRef n).2.1 := by rw [hf]
    by_cases hm : (dateRef n).2.1 ∈ r.months
    · have hfn : f n = true := by rw [hfc]; simpa using hm
      have hfl : (pre ++ [n]).filter f = pre.filter f ++ [n] := by rw [List.filter_append, List.filter_cons_of_pos hfn, List.filter_nil]
      simp (disch := first | omega | (simp; done) | (simp; omega)) [ltT, ltF, leT, leF, eqT', eqF, ltTn, leTn, ltFn, leFn, wrapI, mid, hm, hat, encI]
      exact hA (pre ++ [n], rest) _ (by simpa using hx) (by simp) (Shift.weak' (g := [.cells 40 [.d (encMo (frS ((n - 1) * 86400)))], .cells 27 [.d (encF (0, 0))]]) (by simp [hfn]) (hokT _) (by simp) (by simp [hfn, encI]))
    · have hfn : ¬ f n = true := by rw [hfc]; simpa using hm
      have hfl : (pre ++ [n]).filter f = pre.filter f := by rw [List.filter_append, List.filter_cons_of_neg hfn, List.filter_nil, List.append_nil]
      simp (disch := first | omega | (simp; done) | (simp; omega)) [ltT, ltF, leT, leF, eqT', eqF, ltTn, leTn, ltFn, leFn, wrapI, mid, hm]
      exact hA (pre ++ [n], rest) _ (by simpa using hx) (by simp) (Shift.weak' (g := [.cells 40 [.d (encMo (frS ((n - 1) * 86400)))], .cells 27 [.d (encF (0, 0))]]) (by simp [hfl]) (hokT _) (by simp) (by simp [hfl, encI]))

end Go.Vm
