/- recur: Count and Until cut. -/
import Derived.Test.YtkmeiandnebaeaaDoorRdA
namespace Go.Vm
open Proofs
set_option maxRecDepth 20000
set_option maxHeartbeats 4000000
set_option linter.unusedSimpArgs false

theorem firstC_all : ∀ {i : Nat} {l : List Int}, (∀ c ∈ l, c = 0) → firstC i l = (0, 0)
  | _, [], _ => rfl
  | i, c :: l, h => by
    unfold firstC
    rw [if_neg (by have := h c (List.mem_cons_self ..); simpa using this)]
    exact firstC_all fun x hx => h x (List.mem_cons_of_mem _ hx)
theorem codes_zero {r : Ru} (h : ruleF r = (0, 0)) : ∀ c ∈ codesR r, c = 0 := (firstC_zero (i := 0) (l := codesR r) (by show (ruleF r).1 = 0; rw [h])).2
theorem inC_in {n a b : Int} (h1 : a ≤ n) (h2 : n ≤ b) : inC n a b = 0 := by unfold inC; rw [if_neg (by omega)]
theorem codes_with {r r' : Ru} (h : ruleF r = (0, 0)) (h' : ∀ c ∈ codesR r', c ∈ codesR r ∨ c = 0) : ruleF r' = (0, 0) :=
  firstC_all fun c hc => (h' c hc).elim (codes_zero h c) id
theorem ruleF_count {r : Ru} (h : ruleF r = (0, 0)) {c : Int} (h1 : 0 ≤ c) (h2 : c ≤ 20001) : ruleF { r with count := c } = (0, 0) := by
  refine codes_with h fun x hx => ?_
  simp only [codesR, List.mem_cons, List.not_mem_nil, or_false] at hx ⊢
  rcases hx with rfl | rfl | rfl | rfl | rfl | rfl | rfl | rfl <;> first | (rw [inC_in h1 h2]; simp) | simp
theorem ruleF_til {r : Ru} (h : ruleF r = (0, 0)) {c : Int} (h1 : 0 ≤ c) (h2 : c ≤ 3652059) : ruleF { r with til := c } = (0, 0) := by
  refine codes_with h fun x hx => ?_
  simp only [codesR, List.mem_cons, List.not_mem_nil, or_false] at hx ⊢
  rcases hx with rfl | rfl | rfl | rfl | rfl | rfl | rfl | rfl <;> first | (rw [inC_in h1 h2]; simp) | simp
theorem ruleF_step {r : Ru} (h : ruleF r = (0, 0)) {c : Int} (h1 : 1 ≤ c) (h2 : c ≤ 1000) : ruleF { r with step := c } = (0, 0) := by
  refine codes_with h fun x hx => ?_
  simp only [codesR, List.mem_cons, List.not_mem_nil, or_false] at hx ⊢
  rcases hx with rfl | rfl | rfl | rfl | rfl | rfl | rfl | rfl <;> first | (rw [inC_in h1 h2]; simp) | simp
theorem ruleF_months {r : Ru} (h : ruleF r = (0, 0)) : ruleF { r with months := [] } = (0, 0) := by
  refine codes_with h fun x hx => ?_
  simp only [codesR, List.mem_cons, List.not_mem_nil, or_false] at hx ⊢
  rcases hx with rfl | rfl | rfl | rfl | rfl | rfl | rfl | rfl <;> first | simp | (right; rfl)
theorem chkF_with {s : Int} {r r' : Ru} (h : ¬ (chkF s r).1 ≠ 0) (h' : ruleF r' = (0, 0)) : chkF s r' = (0, 0) := by
  obtain ⟨_, _, _, h1, h2⟩ := chkF_ok h
  unfold chkF
  rw [h', if_neg (by simp), if_neg (by omega)]
theorem listP_ok {s : Int} {r : Ru} (h : chkF s r = (0, 0)) {most : Int} (h1 : 0 ≤ most) (h2 : most ≤ 20001) : listP s r most = (listS r s most.toNat, (0, 0)) := by
  unfold listP
  rw [h, if_neg (by simp), if_neg (by omega)]

theorem tw_take {u : Int} : ∀ (l : List Int) (n : Nat), n ≤ l.length → (∀ j (hj : j < l.length), j < n → l[j] ≤ u) → (∀ hn : n < l.length, u < l[n]) → (l.takeWhile fun n => decide (n ≤ u)) = l.take n
  | [], n, _, _, _ => by simp
  | x :: l, 0, _, _, h => by
    have := h (by simp)
    rw [List.takeWhile_cons_of_neg (by simp at this ⊢; omega), List.take_zero]
  | x :: l, n + 1, h1, h2, h3 => by
    have h0 := h2 0 (by simp) (by omega)
    simp only [List.getElem_cons_zero] at h0
    rw [List.takeWhile_cons_of_pos (by simpa using h0), List.take_succ_cons]
    rw [tw_take l n (by simpa using h1) (fun j hj hjn => h2 (j + 1) (by simp; omega) (by omega)) (fun hn => h3 (by simp; omega))]

theorem law4 (s : Int) (r : Ru) (c u : Int) (h : List Blk) : CallP Tryd.prog 4 [.d (.int .i64 s), .d (encRu r), .d (.int .i64 c), .d (.int .i64 u)] h (.d (.bool true)) := by
  refine callW tb_ok fn4 (by simp) (fun hok => ?_)
  obtain ⟨r0, hr0⟩ : ∃ r0 : Ru, r0 = { r with count := 0, til := 0 } := ⟨_, rfl⟩
  have hfold : encRu ⟨r.unit, r.step, r.months, r.mdays, r.wds, r.picks, 0, 0⟩ = encRu r0 := by rw [hr0]
  simp (disch := first | omega | (simp; done) | (simp; omega)) [ltT, ltF, leT, leF, eqT', eqF, ltTn, leTn, ltFn, leFn, wrapI, mid, c4]
  rw [hfold]
  refine (startFault_V s r0 _).useV ?_
  by_cases h1 : (chkF s r0).1 ≠ 0
  · simp (disch := first | omega | (simp; done) | (simp; omega)) [ltT, ltF, leT, leF, eqT', eqF, ltTn, leTn, ltFn, leFn, wrapI, mid, h1]
    refine (recurred_V _).useV ?_
    simp (disch := first | omega | (simp; done) | (simp; omega)) [ltT, ltF, leT, leF, eqT', eqF, ltTn, leTn, ltFn, leFn, wrapI, mid]
    exact rshift_d hok
  obtain ⟨hz, hrz, ho, hs1, hs2⟩ := chkF_ok h1
  rw [hz]
  simp (disch := first | omega | (simp; done) | (simp; omega)) [ltT, ltF, leT, leF, eqT', eqF, ltTn, leTn, ltFn, leFn, wrapI, mid]
  refine (in_V c 1 300 _).useV ?_
  by_cases h2 : 1 ≤ c ∧ c ≤ 300
  · simp (disch := first | omega | (simp; done) | (simp; omega)) [ltT, ltF, leT, leF, eqT', eqF, ltTn, leTn, ltFn, leFn, wrapI, mid, h2]
    refine (in_V u 1 3652059 _).useV ?_
    by_cases h3 : 1 ≤ u ∧ u ≤ 3652059
    · simp (disch := first | omega | (simp; done) | (simp; omega)) [ltT, ltF, leT, leF, eqT', eqF, ltTn, leTn, ltFn, leFn, wrapI, mid, h3]
      refine (list_V s r0 300 _).useV ?_
      rw [listP_ok hz (by omega) (by omega)]
      obtain ⟨all, hall⟩ : ∃ all, listS r0 s (300 : Int).toNat = all := ⟨_, rfl⟩
      have hlen : all.length ≤ 300 := by rw [← hall]; exact list_len r0 s 300
      have hc0 : r0.count = 0 := by rw [hr0]
      have ht0 : r0.til = 0 := by rw [hr0]
      have hcc := cut_count r0 s (c := c) (by omega) hc0 (300 : Int).toNat
      have hcu := cut_until r0 s (u := u) (by omega) ht0 (300 : Int).toNat hc0
      rw [hall] at hcc hcu ⊢
      simp (disch := first | omega | (simp; done) | (simp; omega)) [ltT, ltF, leT, leF, eqT', eqF, ltTn, leTn, ltFn, leFn, wrapI, mid]
      refine (list_V s { r0 with count := c } 300 _).useV ?_
      rw [listP_ok (chkF_with h1 (ruleF_count hrz (by omega) (by omega))) (by omega) (by omega), hcc]
      simp (disch := first | omega | (simp; done) | (simp; omega)) [ltT, ltF, leT, leF, eqT', eqF, ltTn, leTn, ltFn, leFn, wrapI, mid]
      have eU : ({ r0 with til := u } : Ru) = ⟨r0.unit, r0.step, r0.months, r0.mdays, r0.wds, r0.picks, 0, u⟩ := by rw [← hc0]
      have hL := fun h => list_V s { r0 with til := u } 300 h
      rw [listP_ok (chkF_with h1 (ruleF_til hrz (by omega) (by omega))) (by omega) (by omega), hcu, eU] at hL
      refine (hL _).useV ?_
      obtain ⟨T, hT⟩ : ∃ T, (all.takeWhile fun n => decide (n ≤ u)) = T := ⟨_, rfl⟩
      rw [hT]
      have hTl : T.length ≤ 300 := by rw [← hT]; exact Nat.le_trans (List.takeWhile_sublist _).length_le hlen
      have htk : (all.take c.toNat).length ≤ 300 := by simp; omega
      simp (disch := first | omega | (simp; done) | (simp; omega)) [ltT, ltF, leT, leF, eqT', eqF, ltTn, leTn, ltFn, leFn, wrapI, mid]
      refine W_loopA (ι := Nat) (fun n => n ≤ all.length ∧ ∀ j (hj : j < all.length), j < n → all[j] ≤ u)
        (fun n => ⟨[(2, .d (.int .i64 c)), (3, .d (.int .i64 u)), (9, .d (.sl 3 (all.map encI))), (11, .d (.sl 3 ((all.take c.toNat).map encI))), (13, .d (.sl 3 (T.map encI))), (15, .d (.int .i64 n))], h⟩) (fun n => all.length - n) 0 ⟨by omega, fun j _ h => by omega⟩
        (Shift.weak' (h := h) rfl hok (Nat.le_refl _) (by simp)) ?_
      rintro n ⟨hn, hle⟩ A hA
      have hend : (∀ hn : n < all.length, u < all[n]) → T = all.take n := fun hx => by rw [← hT]; exact tw_take all n hn hle hx
      have I1 : ∀ (k : Nat), all.take c.toNat = all.take k → ∀ h, CallP Tryd.prog 11 [.d (.sl 3 (List.take c.toNat (all.map encI))), .d (.sl 3 (List.take k (all.map encI)))] h (.d (.bool true)) := fun k hk h => by
        have := ints_V (all.take c.toNat) (all.take k) h (by simp; omega) (by simp; omega)
        rw [show decide (all.take c.toNat = all.take k) = true from decide_eq_true hk, List.map_take, List.map_take] at this
        exact this
      have I2 : ∀ (k : Nat), T = all.take k → ∀ h, CallP Tryd.prog 11 [.d (.sl 3 (T.map encI)), .d (.sl 3 (List.take k (all.map encI)))] h (.d (.bool true)) := fun k hk h => by
        have := ints_V T (all.take k) h (by omega) (by simp; omega)
        rw [show decide (T = all.take k) = true from decide_eq_true hk, List.map_take] at this
        exact this
      by_cases hnl : n = all.length
      · have hT' := hend (fun h => by omega)
        by_cases hcl : (all.length : Int) < c
        · have e : all.take c.toNat = all := List.take_of_length_le (by omega)
          simp (disch := first | omega | (simp; done) | (simp; omega)) [ltT, ltF, leT, leF, eqT', eqF, ltTn, leTn, ltFn, leFn, wrapI, mid, hnl, hcl]
          refine (I1 all.length (by rw [e, List.take_length]) _).useV ?_
          simp (disch := first | omega | (simp; done) | (simp; omega)) [ltT, ltF, leT, leF, eqT', eqF, ltTn, leTn, ltFn, leFn, wrapI, mid]
          refine (I2 _ (by rw [hT', hnl]) _).useV ?_
          simp (disch := first | omega | (simp; done) | (simp; omega)) [ltT, ltF, leT, leF, eqT', eqF, ltTn, leTn, ltFn, leFn, wrapI, mid]
          refine (recurred_V _).useV ?_
          simp (disch := first | omega | (simp; done) | (simp; omega)) [ltT, ltF, leT, leF, eqT', eqF, ltTn, leTn, ltFn, leFn, wrapI, mid]
        · simp (disch := first | omega | (simp; done) | (simp; omega)) [ltT, ltF, leT, leF, eqT', eqF, ltTn, leTn, ltFn, leFn, wrapI, mid, hnl, hcl]
          refine (I1 c.toNat rfl _).useV ?_
          simp (disch := first | omega | (simp; done) | (simp; omega)) [ltT, ltF, leT, leF, eqT', eqF, ltTn, leTn, ltFn, leFn, wrapI, mid]
          refine (I2 _ (by rw [hT', hnl]) _).useV ?_
          simp (disch := first | omega | (simp; done) | (simp; omega)) [ltT, ltF, leT, leF, eqT', eqF, ltTn, leTn, ltFn, leFn, wrapI, mid]
          refine (recurred_V _).useV ?_
          simp (disch := first | omega | (simp; done) | (simp; omega)) [ltT, ltF, leT, leF, eqT', eqF, ltTn, leTn, ltFn, leFn, wrapI, mid]
      · have hnl' : n < all.length := by omega
        obtain ⟨x, hx⟩ : ∃ x, all[n] = x := ⟨_, rfl⟩
        by_cases hxu : x ≤ u
        · simp (disch := first | omega | (simp; done) | (simp; omega)) [ltT, ltF, leT, leF, eqT', eqF, ltTn, leTn, ltFn, leFn, wrapI, mid, encI, hx, hxu]
          exact hA (n + 1) _ ⟨by omega, fun j hj hjn => by
            by_cases e : j = n
            · subst e; rw [hx]; exact hxu
            · exact hle j hj (by omega)⟩ (by omega) (Shift.slots' rfl (by simp [encI]))
        · have hT' := hend (fun h => by rw [hx]; omega)
          by_cases hcl : (all.length : Int) < c
          · have e : all.take c.toNat = all := List.take_of_length_le (by omega)
            simp (disch := first | omega | (simp; done) | (simp; omega)) [ltT, ltF, leT, leF, eqT', eqF, ltTn, leTn, ltFn, leFn, wrapI, mid, encI, hx, hxu, hcl]
            refine (I1 all.length (by rw [e, List.take_length]) _).useV ?_
            simp (disch := first | omega | (simp; done) | (simp; omega)) [ltT, ltF, leT, leF, eqT', eqF, ltTn, leTn, ltFn, leFn, wrapI, mid]
            refine (I2 _ hT' _).useV ?_
            simp (disch := first | omega | (simp; done) | (simp; omega)) [ltT, ltF, leT, leF, eqT', eqF, ltTn, leTn, ltFn, leFn, wrapI, mid]
            refine (recurred_V _).useV ?_
            simp (disch := first | omega | (simp; done) | (simp; omega)) [ltT, ltF, leT, leF, eqT', eqF, ltTn, leTn, ltFn, leFn, wrapI, mid]
          · simp (disch := first | omega | (simp; done) | (simp; omega)) [ltT, ltF, leT, leF, eqT', eqF, ltTn, leTn, ltFn, leFn, wrapI, mid, encI, hx, hxu, hcl]
            refine (I1 c.toNat rfl _).useV ?_
            simp (disch := first | omega | (simp; done) | (simp; omega)) [ltT, ltF, leT, leF, eqT', eqF, ltTn, leTn, ltFn, leFn, wrapI, mid]
            refine (I2 _ hT' _).useV ?_
            simp (disch := first | omega | (simp; done) | (simp; omega)) [ltT, ltF, leT, leF, eqT', eqF, ltTn, leTn, ltFn, leFn, wrapI, mid]
            refine (recurred_V _).useV ?_
            simp (disch := first | omega | (simp; done) | (simp; omega)) [ltT, ltF, leT, leF, eqT', eqF, ltTn, leTn, ltFn, leFn, wrapI, mid]
    · simp (disch := first | omega | (simp; done) | (simp; omega)) [ltT, ltF, leT, leF, eqT', eqF, ltTn, leTn, ltFn, leFn, wrapI, mid, h3]
      refine (recurred_V _).useV ?_
      simp (disch := first | omega | (simp; done) | (simp; omega)) [ltT, ltF, leT, leF, eqT', eqF, ltTn, leTn, ltFn, leFn, wrapI, mid]
      exact rshift_d hok
  · simp (disch := first | omega | (simp; done) | (simp; omega)) [ltT, ltF, leT, leF, eqT', eqF, ltTn, leTn, ltFn, leFn, wrapI, mid, h2]
    refine (recurred_V _).useV ?_
    simp (disch := first | omega | (simp; done) | (simp; omega)) [ltT, ltF, leT, leF, eqT', eqF, ltTn, leTn, ltFn, leFn, wrapI, mid]
    exact rshift_d hok

end Go.Vm
