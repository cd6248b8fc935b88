/- recur: steps select. -/
import Derived.Test.YtkmeiandnebaeaaDoorRdB
namespace Go.Vm
open Proofs
set_option maxRecDepth 20000
set_option maxHeartbeats 4000000
set_option linter.unusedSimpArgs false

theorem law5 (s : Int) (r : Ru) (t : Int) (h : List Blk) : CallP Tryd.prog 5 [.d (.int .i64 s), .d (encRu r), .d (.int .i64 t)] h (.d (.bool true)) := by
  refine callW tb_ok fn5 (by simp) (fun hok => ?_)
  obtain ⟨r0, hr0⟩ : ∃ r0 : Ru, r0 = { r with count := 0 } := ⟨_, rfl⟩
  have hfold : encRu ⟨r.unit, r.step, r.months, r.mdays, r.wds, r.picks, 0, r.til⟩ = encRu r0 := by rw [hr0]
  simp (disch := first | omega | (simp; done) | (simp; omega)) [ltT, ltF, leT, leF, eqT', eqF, ltTn, leTn, ltFn, leFn, wrapI, mid, c5]
  rw [hfold]
  refine (startFault_V s r0 _).useV ?_
  by_cases h1 : (chkF s r0).1 ≠ 0
  · simp (disch := first | omega | (simp; done) | (simp; omega)) [ltT, ltF, leT, leF, eqT', eqF, ltTn, leTn, ltFn, leFn, wrapI, mid, h1]
    refine (recurred_V _).useV ?_
    simp (disch := first | omega | (simp; done) | (simp; omega)) [ltT, ltF, leT, leF, eqT', eqF, ltTn, leTn, ltFn, leFn, wrapI, mid]
    exact rshift_d hok
  obtain ⟨hz, hrz, ho, hs1, hs2⟩ := chkF_ok h1
  have hst := ho.step
  rw [hz]
  simp (disch := first | omega | (simp; done) | (simp; omega)) [ltT, ltF, leT, leF, eqT', eqF, ltTn, leTn, ltFn, leFn, wrapI, mid]
  refine (in_V t 1 12 _).useV ?_
  by_cases h2 : 1 ≤ t ∧ t ≤ 12
  · have hmul : 1 ≤ r0.step * t ∧ r0.step * t ≤ 12000 := by
      obtain ⟨k, hk⟩ : ∃ k : Nat, t = k := ⟨t.toNat, by omega⟩
      subst hk
      have : k = 1 ∨ k = 2 ∨ k = 3 ∨ k = 4 ∨ k = 5 ∨ k = 6 ∨ k = 7 ∨ k = 8 ∨ k = 9 ∨ k = 10 ∨ k = 11 ∨ k = 12 := by omega
      rcases this with rfl | rfl | rfl | rfl | rfl | rfl | rfl | rfl | rfl | rfl | rfl | rfl <;> simp <;> omega
    by_cases h3 : 1000 < r0.step * t
    · simp (disch := first | omega | (simp; done) | (simp; omega)) [ltT, ltF, leT, leF, eqT', eqF, ltTn, leTn, ltFn, leFn, wrapI, mid, h2, h3]
      refine (recurred_V _).useV ?_
      simp (disch := first | omega | (simp; done) | (simp; omega)) [ltT, ltF, leT, leF, eqT', eqF, ltTn, leTn, ltFn, leFn, wrapI, mid]
      exact rshift_d hok
    · simp (disch := first | omega | (simp; done) | (simp; omega)) [ltT, ltF, leT, leF, eqT', eqF, ltTn, leTn, ltFn, leFn, wrapI, mid, h2, h3]
      refine (list_V s r0 20001 _).useV ?_
      rw [listP_ok hz (by omega) (by omega)]
      obtain ⟨all, hall⟩ : ∃ all, listS r0 s (20001 : Int).toNat = all := ⟨_, rfl⟩
      obtain ⟨some', hsome⟩ : ∃ l, listS { r0 with step := r0.step * t } s (20001 : Int).toNat = l := ⟨_, rfl⟩
      have hl1 : all.length ≤ 20001 := by rw [← hall]; exact list_len r0 s 20001
      have hl2 : some'.length ≤ 20001 := by rw [← hsome]; exact list_len _ s 20001
      have hi1 : all.Pairwise (· < ·) := by rw [← hall]; exact list_inc r0 s _
      have hi2 : some'.Pairwise (· < ·) := by rw [← hsome]; exact list_inc _ s _
      have hc0 : r0.count = 0 := by rw [hr0]
      have hsub : ∀ x ∈ some', x ∈ all := by
        intro x hx
        rw [← hsome] at hx
        rw [← hall]
        have e1 : listS { r0 with step := r0.step * t } s (20001 : Int).toNat = allS { r0 with step := r0.step * t } s := by
          show listS { r0 with step := r0.step * t } s 20001 = _
          rw [list_all]
          unfold daysS
          rw [if_neg (show ¬ 0 < r0.count from by omega)]
        have e2 : listS r0 s (20001 : Int).toNat = allS r0 s := by
          show listS r0 s 20001 = _
          rw [list_all]
          unfold daysS
          rw [if_neg (by omega)]
        rw [e1] at hx
        rw [e2]
        exact all_step hx
      rw [hall]
      simp (disch := first | omega | (simp; done) | (simp; omega)) [ltT, ltF, leT, leF, eqT', eqF, ltTn, leTn, ltFn, leFn, wrapI, mid]
      refine (list_V s { r0 with step := r0.step * t } 20001 _).useV ?_
      rw [listP_ok (chkF_with h1 (ruleF_step hrz hmul.1 (by omega))) (by omega) (by omega), hsome]
      clear hall hsome hr0 hfold
      simp (disch := first | omega | (simp; done) | (simp; omega)) [ltT, ltF, leT, leF, eqT', eqF, ltTn, leTn, ltFn, leFn, wrapI, mid]
      refine W_loopA (ι := Nat × Nat) (fun q => q.1 ≤ some'.length ∧ q.2 ≤ all.length ∧ ∀ (hq : q.1 < some'.length) j (hj : j < all.length), j < q.2 → all[j] < some'[q.1])
        (fun q => ⟨[(7, .d (.sl 3 (all.map encI))), (9, .d (.sl 3 (some'.map encI))), (11, .d (.int .i64 q.2)), (12, .d (.int .i64 q.1))], h⟩) (fun q => some'.length - q.1) (0, 0) ⟨by omega, by omega, fun _ j _ h => by simp only at h; omega⟩
        (Shift.weak' (h := h) rfl hok (Nat.le_refl _) (by simp)) ?_
      rintro ⟨i, k⟩ ⟨hi, hk, hlt⟩ A hA
      simp only at hi hk hlt
      by_cases hin : i = some'.length
      · simp (disch := first | omega | (simp; done) | (simp; omega)) [ltT, ltF, leT, leF, eqT', eqF, ltTn, leTn, ltFn, leFn, wrapI, mid, hin]
        refine (recurred_V _).useV ?_
        simp (disch := first | omega | (simp; done) | (simp; omega)) [ltT, ltF, leT, leF, eqT', eqF, ltTn, leTn, ltFn, leFn, wrapI, mid]
      · have hi' : i < some'.length := by omega
        have hlt := hlt hi'
        obtain ⟨x, hx⟩ : ∃ x, some'[i] = x := ⟨_, rfl⟩
        obtain ⟨p, hp, hpx⟩ : ∃ p, ∃ hp : p < all.length, all[p] = x := List.getElem_of_mem (hsub x (by rw [← hx]; exact List.getElem_mem hi'))
        rw [hx] at hlt
        simp (disch := first | omega | (simp; done) | (simp; omega)) [ltT, ltF, leT, leF, eqT', eqF, ltTn, leTn, ltFn, leFn, wrapI, mid]
        refine W_loopA (ι := Nat) (fun k => k ≤ all.length ∧ ∀ j (hj : j < all.length), j < k → all[j] < x)
          (fun k => ⟨[(7, .d (.sl 3 (all.map encI))), (9, .d (.sl 3 (some'.map encI))), (11, .d (.int .i64 k)), (12, .d (.int .i64 i))], h⟩) (fun k => all.length - k) k ⟨hk, hlt⟩ (Shift.slots' rfl (by simp)) ?_
        rintro k ⟨hk, hlt⟩ B hB
        have hkp : k ≤ p := by
          rcases Nat.lt_or_ge p k with c | c
          · have := hlt p hp c; omega
          · exact c
        have hkl : k < all.length := by omega
        obtain ⟨y, hy⟩ : ∃ y, all[k] = y := ⟨_, rfl⟩
        by_cases hyx : y < x
        · simp (disch := first | omega | (simp; done) | (simp; omega)) [ltT, ltF, leT, leF, eqT', eqF, ltTn, leTn, ltFn, leFn, wrapI, mid, encI, hx, hy, hyx]
          exact hB (k + 1) _ ⟨by omega, fun j hj hjk => by
            by_cases e : j = k
            · subst e; rw [hy]; exact hyx
            · exact hlt j hj (by omega)⟩ (by omega) (Shift.slots' rfl (by simp [encI]))
        · have hkeq : k = p := by
            rcases Nat.lt_or_ge k p with c | c
            · have := inc_get hi1 c hp
              rw [hy, hpx] at this
              exact absurd this hyx
            · omega
          have hyx' : y = x := by subst hkeq; rw [← hy, hpx]
          simp (disch := first | omega | (simp; done) | (simp; omega)) [ltT, ltF, leT, leF, eqT', eqF, ltTn, leTn, ltFn, leFn, wrapI, mid, encI, hx, hy, hyx, hyx']
          exact hA (i + 1, k) _ ⟨by simp only; omega, hk, fun hq j hj hjk => by
            have h1 := hlt j hj hjk
            have h2 := inc_get hi2 (i := i) (j := i + 1) (by omega) hq
            rw [hx] at h2
            simp only
            omega⟩ (by simp only; omega) (Shift.slots' rfl (by simp [encI]))
  · simp (disch := first | omega | (simp; done) | (simp; omega)) [ltT, ltF, leT, leF, eqT', eqF, ltTn, leTn, ltFn, leFn, wrapI, mid, h2]
    refine (recurred_V _).useV ?_
    simp (disch := first | omega | (simp; done) | (simp; omega)) [ltT, ltF, leT, leF, eqT', eqF, ltTn, leTn, ltFn, leFn, wrapI, mid]
    exact rshift_d hok

end Go.Vm
