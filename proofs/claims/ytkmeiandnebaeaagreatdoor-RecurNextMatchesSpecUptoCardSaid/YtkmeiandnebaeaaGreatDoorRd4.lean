/- recur: each: the walk. -/
import Derived.Test.YtkmeiandnebaeaaGreatDoorRd3
namespace Go.Vm
open Proofs
set_option maxRecDepth 20000
set_option maxHeartbeats 2000000
set_option linter.unusedSimpArgs false

theorem runG_count {σ : Type} (y : σ → Int → σ × Bool) (s last count : Int) : ∀ (l : List Int) (x : Int × σ), x.1 ≤ (runG y s last count l x).2.1 ∧ (runG y s last count l x).2.1 ≤ x.1 + l.length
  | [], x => by simp [runG]
  | n :: l, x => by
    unfold runG
    simp only [List.length_cons]
    split
    · have := runG_count y s last count l x; omega
    · split
      · simp only; omega
      · split
        · have := runG_count y s last count l (x.1 + 1, (y x.2 n).1); simp only at this ⊢; omega
        · simp only; omega
theorem preS_len (r : Ru) {s : Int} (hs : 1 ≤ s) (k : Nat) : ((preS r s k).length : Int) ≤ 3652059 := by
  have := inc_len (a := 1) (b := maxD) (preS_inc r s k) (fun n hn => by have h1 := mem_preS hn; have h2 := pf_pos (u := r.unit) hs; omega)
  unfold maxD at this
  omega

def wkD (n : Int) : Dy := if n ≤ 3652059 then dyS n else { dyS 3652059 with n := n }
theorem wkS_eq (n : Int) : wkS n = (wkD n).mo := by unfold wkS wkD; split <;> rfl
theorem wkD_n (n : Int) : (wkD n).n = n := by unfold wkD; split <;> rfl
theorem wkD_y (n : Int) : (wkD n).mo.y = n := wkD_n n
theorem wkD_bnd {n : Int} (h1 : 1 ≤ n) : (1 ≤ (wkD n).y ∧ (wkD n).y ≤ 9999) ∧ (1 ≤ (wkD n).m ∧ (wkD n).m ≤ 12) ∧ (1 ≤ (wkD n).d ∧ (wkD n).d ≤ 31) ∧ (1 ≤ (wkD n).l ∧ (wkD n).l ≤ 31) := by
  unfold wkD
  split
  · have := dy_bnd h1 (by assumption); omega
  · have := dy_bnd (n := 3652059) (by omega) (by omega); simp only; omega

/-- What the blocks of each hold. -/
def eachF (r : Ru) (s : Int) (g : FuncId) (cs : List AV) (v n : Int) (X : List Blk) : List Blk :=
  [.cells 3 [.d (.int .i64 s)], .cells 25 [.d (encRu r)], .cells 49 [.clo g cs], .cells 85 [.d (encMo (dyS s).mo)], .cells 3 [.d (.int .i64 (lastS r s))], .cells 3 [.d (.int .i64 v)], .cells 94 [.d (encMo (wkD n).mo)]] ++ X
theorem eachF_app (r : Ru) (s : Int) (g : FuncId) (cs : List AV) (v n : Int) (X Y : List Blk) : eachF r s g cs v n X ++ Y = eachF r s g cs v n (X ++ Y) := by simp [eachF]
theorem eachF_len (r : Ru) (s : Int) (g : FuncId) (cs : List AV) (v n : Int) (X : List Blk) : (eachF r s g cs v n X).length = 7 + X.length := by simp [eachF]; omega

theorem step_V' {n : Int} {b : Nat} {h : List Blk} (hb : h[b]? = some (.cells 94 [.d (encMo (wkD n).mo)])) (h1 : 1 ≤ n) (h2 : n ≤ 3652059) :
    CallW Tryz.prog 70 [.ptr b 94 0 0] h fun x h' => x = .tup [] ∧ h' = h.set b (.cells 94 [.d (encMo (wkD (n + 1)).mo)]) := by
  rw [← wkS_eq] at hb
  have := step_V hb h1 h2
  rw [wkS_eq] at this
  exact this

theorem each_V {r : Ru} (hr : r.ok) {s : Int} (hs : 1 ≤ s) (hs2 : s ≤ 3652059) {σ : Type} (y : σ → Int → σ × Bool) (H : σ → List Blk) (g : FuncId) (cs : List AV) {m : Nat} (hm : ∀ st, (H st).length = m) (hokH : ∀ st, HOk (H st))
    (hy : ∀ st n ext, s ≤ n → n ≤ 3652059 → CallW Tryz.prog g (.d (.int .i64 n) :: cs) (H st ++ ext) fun x h' => x = .d (.bool (y st n).2) ∧ h' = H (y st n).1 ++ ext) (st : σ) :
    CallW Tryz.prog 23 [.d (.int .i64 s), .d (encRu r), .clo g cs] (H st) fun x h' => x = .tup [] ∧ h' = H (eachS y r s st) := by
  refine callW tb_ok fn23 (by simp) (fun hok => ?_)
  have hu := hr.unit
  have ht := hr.til
  have hstp := hr.step
  have hbs := dy_bnd hs hs2
  have hlastm := lastS_le r s
  unfold maxD at hlastm
  have a0 : ∀ (st : σ) (l : List Blk), (H st ++ l)[m]? = l[0]? := fun st l => by rw [List.getElem?_append_right (by rw [hm]; exact Nat.le_refl _), hm, Nat.sub_self]
  have ak : ∀ (st : σ) (l : List Blk) (k : Nat), (H st ++ l)[m + k]? = l[k]? := fun st l k => by rw [List.getElem?_append_right (by rw [hm]; omega), hm, Nat.add_sub_cancel_left]
  have s0 : ∀ (st : σ) (l : List Blk) (x : Blk), (H st ++ l).set m x = H st ++ l.set 0 x := fun st l x => by rw [List.set_append_right _ _ (by rw [hm]; exact Nat.le_refl _), hm, Nat.sub_self]
  have sk : ∀ (st : σ) (l : List Blk) (k : Nat) (x : Blk), (H st ++ l).set (m + k) x = H st ++ l.set k x := fun st l k x => by rw [List.set_append_right _ _ (by rw [hm]; omega), hm, Nat.add_sub_cancel_left]
  have f0 : ∀ (st : σ) (v n : Int) (X : List Blk), (H st ++ eachF r s g cs v n X)[m]? = some (.cells 3 [.d (.int .i64 s)]) := fun st v n X => by rw [a0]; rfl
  have f1 : ∀ (st : σ) (v n : Int) (X : List Blk), (H st ++ eachF r s g cs v n X)[m + 1]? = some (.cells 25 [.d (encRu r)]) := fun st v n X => by rw [ak]; rfl
  have f2 : ∀ (st : σ) (v n : Int) (X : List Blk), (H st ++ eachF r s g cs v n X)[m + 2]? = some (.cells 49 [.clo g cs]) := fun st v n X => by rw [ak]; rfl
  have f3 : ∀ (st : σ) (v n : Int) (X : List Blk), (H st ++ eachF r s g cs v n X)[m + 3]? = some (.cells 85 [.d (encMo (dyS s).mo)]) := fun st v n X => by rw [ak]; rfl
  have f4 : ∀ (st : σ) (v n : Int) (X : List Blk), (H st ++ eachF r s g cs v n X)[m + 4]? = some (.cells 3 [.d (.int .i64 (lastS r s))]) := fun st v n X => by rw [ak]; rfl
  have f5 : ∀ (st : σ) (v n : Int) (X : List Blk), (H st ++ eachF r s g cs v n X)[m + 5]? = some (.cells 3 [.d (.int .i64 v)]) := fun st v n X => by rw [ak]; rfl
  have f6 : ∀ (st : σ) (v n : Int) (X : List Blk), (H st ++ eachF r s g cs v n X)[m + 6]? = some (.cells 94 [.d (encMo (wkD n).mo)]) := fun st v n X => by rw [ak]; rfl
  have g5 : ∀ (st : σ) (v n : Int) (X : List Blk) (v' : Int), (H st ++ eachF r s g cs v n X).set (m + 5) (.cells 3 [.d (.int .i64 v')]) = H st ++ eachF r s g cs v' n X := fun st v n X v' => by rw [sk]; rfl
  have g6 : ∀ (st : σ) (v n : Int) (X : List Blk) (n' : Int), (H st ++ eachF r s g cs v n X).set (m + 6) (.cells 94 [.d (encMo (wkD n').mo)]) = H st ++ eachF r s g cs v n' X := fun st v n X n' => by rw [sk]; rfl
  have ft : ∀ (st : σ) (v n : Int) (J : List Blk) (t : Blk), (H st ++ eachF r s g cs v n (J ++ [t]))[m + 7 + J.length]? = some t := fun st v n J t => by
    rw [Nat.add_assoc, ak]
    show ([_, _, _, _, _, _, _] ++ (J ++ [t]))[7 + J.length]? = _
    rw [List.getElem?_append_right (by simp), List.getElem?_append_right (by simp)]
    simp
  have gt : ∀ (st : σ) (v n : Int) (J : List Blk) (t x : Blk), (H st ++ eachF r s g cs v n (J ++ [t])).set (m + 7 + J.length) x = H st ++ eachF r s g cs v n (J ++ [x]) := fun st v n J t x => by
    rw [Nat.add_assoc, sk]
    congr 1
    show ([_, _, _, _, _, _, _] ++ (J ++ [t])).set (7 + J.length) x = _
    rw [List.set_append_right _ _ (by simp), List.set_append_right _ _ (by simp)]
    simp [eachF]
  have hG : ∀ (n : Int) (X : List Blk), GivH r s (lastS r s) σ y g cs (fun v st => H st ++ eachF r s g cs v n X) (m + 1) m (m + 4) (m + 5) (m + 2) := fun n X =>
    ⟨fun v st => f1 st v n X, fun v st => f0 st v n X, fun v st => f4 st v n X, fun v st => f5 st v n X, fun v st => f2 st v n X, fun v st v' st' => by simp [hm, eachF_len], fun v v' st => g5 st v n X v', fun v st k h1 h2 => hy st k _ h1 h2⟩
  simp (disch := first | omega | (simp; done) | (simp; omega)) [ltT, ltF, leT, leF, eqT', eqF, ltTn, leTn, ltFn, leFn, wrapI, mid, c23, hm, a0, ak, s0, sk]
  refine (dayOf_V s hs hs2 _).useV ?_
  simp (disch := first | omega | (simp; done) | (simp; omega)) [ltT, ltF, leT, leF, eqT', eqF, ltTn, leTn, ltFn, leFn, wrapI, mid, hm, a0, ak, s0, sk]
  have hpos := pf_pos (u := r.unit) hs
  have hpst := (pf_start (u := r.unit) hs).1
  have hpf0 : pf r.unit s 0 ≤ 3652059 := by omega
  have hc0 : curS r s 0 (pf r.unit s 0) = [] := curS_start r s 0
  have hpb : -10000000 ≤ perD r.unit (dyS s) ∧ perD r.unit (dyS s) ≤ 10000000 := by
    have en : (dyS s).n = s := rfl
    unfold perD
    split
    · omega
    · split
      · omega
      · split <;> omega
  by_cases ht0 : 0 < r.til
  · have hls : lastS r s = min (min (s + 20000) 3652059) r.til := by unfold lastS; rw [if_pos ht0]; rfl
    simp (disch := first | omega | (simp; done) | (simp; omega)) [ltT, ltF, leT, leF, eqT', eqF, ltTn, leTn, ltFn, leFn, wrapI, mid, hm, a0, ak, s0, sk, ht0]
    refine (period_V (dyS s) r.unit (by show 1 ≤ s; omega) (by show s ≤ 10000000; omega) (by omega) (by omega) (by omega) (by omega) _).useV ?_
    simp (disch := first | omega | (simp; done) | (simp; omega)) [ltT, ltF, leT, leF, eqT', eqF, ltTn, leTn, ltFn, leFn, wrapI, mid, hm, a0, ak, s0, sk, ht0]
    refine (first_V s r.unit hs hs2 _).useV ?_
    simp (disch := first | omega | (simp; done) | (simp; omega)) [ltT, ltF, leT, leF, eqT', eqF, ltTn, leTn, ltFn, leFn, wrapI, mid, hm, a0, ak, s0, sk]
    refine callV_of (walk_V (pf r.unit s 0) (by omega) (by omega) _) ?_
    rintro _ _ ⟨rfl, rfl⟩
    simp (disch := first | omega | (simp; done) | (simp; omega)) [ltT, ltF, leT, leF, eqT', eqF, ltTn, leTn, ltFn, leFn, wrapI, mid, hm, a0, ak, s0, sk]
    refine W_loopA (ι := Nat × Int × Int × σ × List Blk) (fun q => pf r.unit s q.1 ≤ q.2.1 ∧ q.2.1 ≤ pf r.unit s (q.1 + 1) ∧ q.2.1 ≤ 3652060 ∧ runG y s (lastS r s) r.count (preS r s q.1) (0, st) = (true, (q.2.2.1, q.2.2.2.1)))
      (fun q => ⟨[(3, .ptr m 3 0 0), (4, .ptr (m + 1) 25 0 0), (6, .ptr (m + 3) 85 0 0), (7, .ptr (m + 4) 3 0 0), (9, .clo 65 [.ptr (m + 1) 25 0 0, .ptr m 3 0 0, .ptr (m + 4) 3 0 0, .ptr (m + 5) 3 0 0, .ptr (m + 2) 49 0 0]), (10, .bl (m + 7 + q.2.2.2.2.length) 3 ((curS r s q.1 q.2.1).map encI)), (11, .d (.int .i64 (perD r.unit (dyS s)))), (12, .d (.int .i64 (perD r.unit (dyS s) + q.1))), (13, .ptr (m + 6) 94 0 0)], H q.2.2.2.1 ++ eachF r s g cs q.2.2.1 q.2.1 (q.2.2.2.2 ++ [.tail 3 (curS r s q.1 q.2.1).length])⟩)
      (fun q => (3652061 - q.2.1).toNat) (0, pf r.unit s 0, 0, st, []) ⟨Int.le_refl _, by have := pf_lt r.unit s (a := 0) (b := 1) (by omega); simpa using Int.le_of_lt this, by show pf r.unit s 0 ≤ 3652060; omega, rfl⟩
      ((Shift.nilbl (i := 10) 3 (by simp)).trans (Shift.slots' (by simp [eachF, hls, hc0, wkD, hpf0]) (by simp [hc0, hm]))) ?_
    rintro ⟨k, n, v, st', junk⟩ ⟨hn1, hn2, hn3, hrun⟩ A hA
    simp only at hn1 hn2 hn3 hrun
    have hgr := pf_grow (u := r.unit) hs k
    have hbN := bigN_eq
    have hk1 : k + 1 ≤ bigN := by omega
    have hwb := wkD_bnd (n := n) (by omega)
    have hcnt := runG_count y s (lastS r s) r.count (preS r s k) (0, st)
    rw [hrun] at hcnt
    simp only at hcnt
    have hpl := preS_len r hs k
    have hv0 : 0 ≤ v := by omega
    have hv1 : v ≤ 10000000 := by omega
    have hcr : ∀ x ∈ curS r s k n, 1 ≤ x ∧ x ≤ 3652059 := fun x hx => by
      unfold curS at hx
      split at hx
      · have := mem_ints.mp (List.mem_filter.mp hx).1; omega
      · exact (List.not_mem_nil hx).elim
    have hcl : (curS r s k n).length ≤ 10000000 := by
      have hinc : (curS r s k n).Pairwise (· < ·) := by
        unfold curS
        split
        · exact (ints_inc _ _).sublist List.filter_sublist
        · exact .nil
      have := inc_len (a := 1) (b := 3652059) hinc hcr
      omega
    simp (disch := first | omega | (simp; done) | (simp; omega)) [ltT, ltF, leT, leF, eqT', eqF, ltTn, leTn, ltFn, leFn, wrapI, mid, hm, f0, f1, f2, f3, f4, f5, f6, g6, ft, gt, eachF_app]
    refine (period_V (wkD n) r.unit (by rw [wkD_n]; omega) (by rw [wkD_n]; omega) (by omega) (by omega) (by omega) (by omega) _).useV ?_
    by_cases hp : perD r.unit (wkD n) = perD r.unit (dyS s) + k
    · by_cases hn9 : n ≤ 3652059
      · have hwd : wkD n = dyS n := by unfold wkD; rw [if_pos hn9]
        have hdb := dy_bnd (n := n) (by omega) hn9
        rw [hwd] at hp
        have hn4 := ((per_iff (n := n) (by omega)).mp hp).2
        have hkw : Int.tmod (perD r.unit (dyS s) + (k : Int) - perD r.unit (dyS s)) r.step = (k : Int) % r.step := by
          rw [show perD r.unit (dyS s) + (k : Int) - perD r.unit (dyS s) = (k : Int) from by omega]; exact Int.tmod_eq_emod_of_nonneg (by omega)
        rw [hwd, hp]
        simp (disch := first | omega | (simp; done) | (simp; omega)) [ltT, ltF, leT, leF, eqT', eqF, ltTn, leTn, ltFn, leFn, wrapI, mid, hm, f0, f1, f2, f3, f4, f5, f6, g6, ft, gt, eachF_app, wkD_n, Dy.mo]
        have hfv : ∀ h, CallP Tryz.prog 71 [.d (encMo (wkD n).mo), .d (encRu r), .d (encMo (dyS s).mo)] h (.d (.bool (fitD r (dyS s) (dyS n)))) := fun h => by
          have := fits_V r hr (dyS s) (wkD n) (by omega) (by omega) (by omega) (by omega) h
          rwa [show fitD r (dyS s) (wkD n) = fitD r (dyS s) (dyS n) from by rw [hwd]] at this
        have hi1 : pf r.unit s (k : Int) ≤ n + 1 := by omega
        have hi2 : n + 1 ≤ pf r.unit s ((k : Int) + 1) := by omega
        have hi3 : n + 1 ≤ 3652060 := by omega
        have hi0 : pf r.unit s (k : Int) ≤ n := by omega
        by_cases hk0 : (k : Int) % r.step = 0
        · simp (disch := first | omega | (simp; done) | (simp; omega)) [ltT, ltF, leT, leF, eqT', eqF, ltTn, leTn, ltFn, leFn, wrapI, mid, hm, f0, f1, f2, f3, f4, f5, f6, g6, ft, gt, eachF_app, hk0, hkw]
          refine (hfv _).useV ?_
          cases hf : fitD r (dyS s) (dyS n) with
          | true =>
            have hcs := curS_next r s k (n := n) hi0
            rw [if_pos ⟨hk0, hf⟩] at hcs
            simp (disch := first | omega | (simp; done) | (simp; omega)) [ltT, ltF, leT, leF, eqT', eqF, ltTn, leTn, ltFn, leFn, wrapI, mid, hm, f0, f1, f2, f3, f4, f5, f6, g6, ft, gt, eachF_app, encI]
            refine callV_of (step_V' (n := n) (b := m + 6) ?_ (by omega) (by omega)) ?_
            · simp [hm, f0, f1, f2, f3, f4, f5, f6, g6, ft, gt, eachF_app]
            rintro _ _ ⟨rfl, rfl⟩
            simp (disch := first | omega | (simp; done) | (simp; omega)) [ltT, ltF, leT, leF, eqT', eqF, ltTn, leTn, ltFn, leFn, wrapI, mid, hm, f0, f1, f2, f3, f4, f5, f6, g6, ft, gt, eachF_app]
            exact hA (k, n + 1, v, st', junk) _ ⟨hi1, hi2, hi3, hrun⟩ (by simp only; omega) (Shift.slots' (by simp [hm, f0, f1, f2, f3, f4, f5, f6, g6, ft, gt, eachF_app, hcs]) (by simp [hm, f0, f1, f2, f3, f4, f5, f6, g6, ft, gt, eachF_app, hcs, encI, wkD_y, eachF_len, Nat.add_assoc]))
          | false =>
            have hcs := curS_next r s k (n := n) hi0
            rw [if_neg (fun q => by rw [hf] at q; cases q.2), List.append_nil] at hcs
            simp (disch := first | omega | (simp; done) | (simp; omega)) [ltT, ltF, leT, leF, eqT', eqF, ltTn, leTn, ltFn, leFn, wrapI, mid, hm, f0, f1, f2, f3, f4, f5, f6, g6, ft, gt, eachF_app]
            refine callV_of (step_V' (n := n) (b := m + 6) ?_ (by omega) (by omega)) ?_
            · simp [hm, f0, f1, f2, f3, f4, f5, f6, g6, ft, gt, eachF_app]
            rintro _ _ ⟨rfl, rfl⟩
            simp (disch := first | omega | (simp; done) | (simp; omega)) [ltT, ltF, leT, leF, eqT', eqF, ltTn, leTn, ltFn, leFn, wrapI, mid, hm, f0, f1, f2, f3, f4, f5, f6, g6, ft, gt, eachF_app]
            exact hA (k, n + 1, v, st', junk) _ ⟨hi1, hi2, hi3, hrun⟩ (by simp only; omega) (Shift.slots' (by simp [hm, f0, f1, f2, f3, f4, f5, f6, g6, ft, gt, eachF_app, hcs]) (by simp [hm, f0, f1, f2, f3, f4, f5, f6, g6, ft, gt, eachF_app, hcs]))
        · have hcs := curS_next r s k (n := n) hi0
          rw [if_neg (fun q => hk0 q.1), List.append_nil] at hcs
          simp (disch := first | omega | (simp; done) | (simp; omega)) [ltT, ltF, leT, leF, eqT', eqF, ltTn, leTn, ltFn, leFn, wrapI, mid, hm, f0, f1, f2, f3, f4, f5, f6, g6, ft, gt, eachF_app, hk0, hkw]
          refine callV_of (step_V' (n := n) (b := m + 6) ?_ (by omega) (by omega)) ?_
          · simp [hm, f0, f1, f2, f3, f4, f5, f6, g6, ft, gt, eachF_app]
          rintro _ _ ⟨rfl, rfl⟩
          simp (disch := first | omega | (simp; done) | (simp; omega)) [ltT, ltF, leT, leF, eqT', eqF, ltTn, leTn, ltFn, leFn, wrapI, mid, hm, f0, f1, f2, f3, f4, f5, f6, g6, ft, gt, eachF_app]
          exact hA (k, n + 1, v, st', junk) _ ⟨hi1, hi2, hi3, hrun⟩ (by simp only; omega) (Shift.slots' (by simp [hm, f0, f1, f2, f3, f4, f5, f6, g6, ft, gt, eachF_app, hcs]) (by simp [hm, f0, f1, f2, f3, f4, f5, f6, g6, ft, gt, eachF_app, hcs]))
      · rw [hp]
        simp (disch := first | omega | (simp; done) | (simp; omega)) [ltT, ltF, leT, leF, eqT', eqF, ltTn, leTn, ltFn, leFn, wrapI, mid, hm, f0, f1, f2, f3, f4, f5, f6, g6, ft, gt, eachF_app, wkD_n, Dy.mo]
        have hend := curS_end r s k (n := n) (by unfold maxD; omega) (by unfold maxD; omega)
        refine callV_of (CallW.sub (give_V hr (hG n (junk ++ [.tail 3 (curS r s k n).length])) (by omega) (curS r s k n) hcr hcl v st' hv0 hv1) (args := [.bl (m + 7 + junk.length) 3 ((curS r s k n).map encI), .ptr (m + 1) 25 0 0, .ptr m 3 0 0, .ptr (m + 4) 3 0 0, .ptr (m + 5) 3 0 0, .ptr (m + 2) 49 0 0]) (by exact ⟨.bl _ _ _, .refl _, .refl _, .refl _, .refl _, .refl _, trivial⟩)) ?_
        rintro _ _ ⟨rfl, rfl⟩
        rw [hend]
        obtain ⟨⟨b, v2, st2⟩, hq⟩ : ∃ q, runG y s (lastS r s) r.count (gS r s k) (v, st') = q := ⟨_, rfl⟩
        have hrun2 : runG y s (lastS r s) r.count (preS r s (k + 1)) (0, st) = (b, (v2, st2)) := by rw [preS, runG_app, hrun]; simp only [if_true]; exact hq
        rw [hq]
        cases b with
        | false =>
          simp (disch := first | omega | (simp; done) | (simp; omega)) [ltT, ltF, leT, leF, eqT', eqF, ltTn, leTn, ltFn, leFn, wrapI, mid, hm, f0, f1, f2, f3, f4, f5, f6, g6, ft, gt, eachF_app]
          rw [each_stop hs hk1 hrun2 (.inl rfl)]
          exact RShift.drop (.refl _) (by simp) (hokH _) (by rw [hm]; exact Nat.le_refl _)
        | true =>
          by_cases hnl : lastS r s < n
          · simp (disch := first | omega | (simp; done) | (simp; omega)) [ltT, ltF, leT, leF, eqT', eqF, ltTn, leTn, ltFn, leFn, wrapI, mid, hm, f0, f1, f2, f3, f4, f5, f6, g6, ft, gt, eachF_app, wkD_n, Dy.mo, hnl]
            rw [each_stop hs hk1 hrun2 (.inr (by omega))]
            exact RShift.drop (.refl _) (by simp) (hokH _) (by rw [hm]; exact Nat.le_refl _)
          · exfalso; omega
    · have hB : n = pf r.unit s (k + 1) ∨ n = 3652060 := by
        by_cases hn9 : n ≤ 3652059
        · left
          have hpp : ¬ n < pf r.unit s (k + 1) := fun q => hp (by
            rw [show wkD n = dyS n from by unfold wkD; rw [if_pos hn9]]
            exact (per_iff (by omega)).mpr ⟨hn1, q⟩)
          omega
        · right; omega
      simp (disch := first | omega | (simp; done) | (simp; omega)) [ltT, ltF, leT, leF, eqT', eqF, ltTn, leTn, ltFn, leFn, wrapI, mid, hm, f0, f1, f2, f3, f4, f5, f6, g6, ft, gt, eachF_app, hp]
      have hend := curS_end r s k (n := n) (by unfold maxD; omega) (by unfold maxD; omega)
      refine callV_of (CallW.sub (give_V hr (hG n (junk ++ [.tail 3 (curS r s k n).length])) (by omega) (curS r s k n) hcr hcl v st' hv0 hv1) (args := [.bl (m + 7 + junk.length) 3 ((curS r s k n).map encI), .ptr (m + 1) 25 0 0, .ptr m 3 0 0, .ptr (m + 4) 3 0 0, .ptr (m + 5) 3 0 0, .ptr (m + 2) 49 0 0]) (by exact ⟨.bl _ _ _, .refl _, .refl _, .refl _, .refl _, .refl _, trivial⟩)) ?_
      rintro _ _ ⟨rfl, rfl⟩
      rw [hend]
      obtain ⟨⟨b, v2, st2⟩, hq⟩ : ∃ q, runG y s (lastS r s) r.count (gS r s k) (v, st') = q := ⟨_, rfl⟩
      have hrun2 : runG y s (lastS r s) r.count (preS r s (k + 1)) (0, st) = (b, (v2, st2)) := by rw [preS, runG_app, hrun]; simp only [if_true]; exact hq
      rw [hq]
      cases b with
      | false =>
        simp (disch := first | omega | (simp; done) | (simp; omega)) [ltT, ltF, leT, leF, eqT', eqF, ltTn, leTn, ltFn, leFn, wrapI, mid, hm, f0, f1, f2, f3, f4, f5, f6, g6, ft, gt, eachF_app]
        rw [each_stop hs hk1 hrun2 (.inl rfl)]
        exact RShift.drop (.refl _) (by simp) (hokH _) (by rw [hm]; exact Nat.le_refl _)
      | true =>
        by_cases hnl : lastS r s < n
        · simp (disch := first | omega | (simp; done) | (simp; omega)) [ltT, ltF, leT, leF, eqT', eqF, ltTn, leTn, ltFn, leFn, wrapI, mid, hm, f0, f1, f2, f3, f4, f5, f6, g6, ft, gt, eachF_app, wkD_n, Dy.mo, hnl]
          rw [each_stop hs hk1 hrun2 (.inr (by omega))]
          exact RShift.drop (.refl _) (by simp) (hokH _) (by rw [hm]; exact Nat.le_refl _)
        · have hn9 : n ≤ 3652059 := by omega
          have hnk : n = pf r.unit s (k + 1) := by omega
          have hn2' := pf_lt r.unit s (a := (k : Int) + 1) (b := (k : Int) + 1 + 1) (by omega)
          have hwd : wkD n = dyS n := by unfold wkD; rw [if_pos hn9]
          have hdb := dy_bnd (n := n) (by omega) hn9
          have hkp : perD r.unit (dyS n) = perD r.unit (dyS s) + ((k : Int) + 1) := (per_iff (by omega)).mpr (by omega)
          have hcn : curS r s (k + 1) n = [] := by
            have := curS_start r s (k + 1)
            rw [show ((k + 1 : Nat) : Int) = (k : Int) + 1 from by omega, ← hnk] at this
            exact this
          have hkw : Int.tmod (perD r.unit (dyS s) + ((k : Int) + 1) - perD r.unit (dyS s)) r.step = ((k : Int) + 1) % r.step := by
            rw [show perD r.unit (dyS s) + ((k : Int) + 1) - perD r.unit (dyS s) = (k : Int) + 1 from by omega]; exact Int.tmod_eq_emod_of_nonneg (by omega)
          rw [hwd, hkp]
          simp (disch := first | omega | (simp; done) | (simp; omega)) [ltT, ltF, leT, leF, eqT', eqF, ltTn, leTn, ltFn, leFn, wrapI, mid, hm, f0, f1, f2, f3, f4, f5, f6, g6, ft, gt, eachF_app, wkD_n, Dy.mo, hnl]
          have hfv : ∀ h, CallP Tryz.prog 71 [.d (encMo (wkD n).mo), .d (encRu r), .d (encMo (dyS s).mo)] h (.d (.bool (fitD r (dyS s) (dyS n)))) := fun h => by
            have := fits_V r hr (dyS s) (wkD n) (by omega) (by omega) (by omega) (by omega) h
            rwa [show fitD r (dyS s) (wkD n) = fitD r (dyS s) (dyS n) from by rw [hwd]] at this
          have hi1 : pf r.unit s ((k + 1 : Nat) : Int) ≤ n + 1 := by rw [show ((k + 1 : Nat) : Int) = (k : Int) + 1 from by omega]; omega
          have hi2 : n + 1 ≤ pf r.unit s (((k + 1 : Nat) : Int) + 1) := by rw [show ((k + 1 : Nat) : Int) = (k : Int) + 1 from by omega]; omega
          have hi3 : n + 1 ≤ 3652060 := by omega
          have hi0 : pf r.unit s ((k + 1 : Nat) : Int) ≤ n := by rw [show ((k + 1 : Nat) : Int) = (k : Int) + 1 from by omega]; omega
          by_cases hk0 : ((k : Int) + 1) % r.step = 0
          · simp (disch := first | omega | (simp; done) | (simp; omega)) [ltT, ltF, leT, leF, eqT', eqF, ltTn, leTn, ltFn, leFn, wrapI, mid, hm, f0, f1, f2, f3, f4, f5, f6, g6, ft, gt, eachF_app, hk0, hkw]
            refine (hfv _).useV ?_
            cases hf : fitD r (dyS s) (dyS n) with
            | true =>
              have hcs := curS_next r s (k + 1) (n := n) hi0
              rw [if_pos ⟨(by rw [show ((k + 1 : Nat) : Int) = (k : Int) + 1 from by omega]; exact hk0), hf⟩] at hcs
              simp (disch := first | omega | (simp; done) | (simp; omega)) [ltT, ltF, leT, leF, eqT', eqF, ltTn, leTn, ltFn, leFn, wrapI, mid, hm, f0, f1, f2, f3, f4, f5, f6, g6, ft, gt, eachF_app, encI]
              refine callV_of (step_V' (n := n) (b := m + 6) ?_ (by omega) (by omega)) ?_
              · simp [hm, f0, f1, f2, f3, f4, f5, f6, g6, ft, gt, eachF_app]
              rintro _ _ ⟨rfl, rfl⟩
              simp (disch := first | omega | (simp; done) | (simp; omega)) [ltT, ltF, leT, leF, eqT', eqF, ltTn, leTn, ltFn, leFn, wrapI, mid, hm, f0, f1, f2, f3, f4, f5, f6, g6, ft, gt, eachF_app]
              exact hA ((k + 1), n + 1, v2, st2, (junk ++ [.tail 3 (curS r s k n).length])) _ ⟨hi1, hi2, hi3, hrun2⟩ (by simp only; omega) (Shift.slots' (by simp [hm, f0, f1, f2, f3, f4, f5, f6, g6, ft, gt, eachF_app, hcn, hcs]) (by simp [hm, f0, f1, f2, f3, f4, f5, f6, g6, ft, gt, eachF_app, hcn, hcs, encI, wkD_y, eachF_len, Nat.add_assoc]))
            | false =>
              have hcs := curS_next r s (k + 1) (n := n) hi0
              rw [if_neg (fun q => by rw [hf] at q; cases q.2), List.append_nil] at hcs
              simp (disch := first | omega | (simp; done) | (simp; omega)) [ltT, ltF, leT, leF, eqT', eqF, ltTn, leTn, ltFn, leFn, wrapI, mid, hm, f0, f1, f2, f3, f4, f5, f6, g6, ft, gt, eachF_app]
              refine callV_of (step_V' (n := n) (b := m + 6) ?_ (by omega) (by omega)) ?_
              · simp [hm, f0, f1, f2, f3, f4, f5, f6, g6, ft, gt, eachF_app]
              rintro _ _ ⟨rfl, rfl⟩
              simp (disch := first | omega | (simp; done) | (simp; omega)) [ltT, ltF, leT, leF, eqT', eqF, ltTn, leTn, ltFn, leFn, wrapI, mid, hm, f0, f1, f2, f3, f4, f5, f6, g6, ft, gt, eachF_app]
              exact hA ((k + 1), n + 1, v2, st2, (junk ++ [.tail 3 (curS r s k n).length])) _ ⟨hi1, hi2, hi3, hrun2⟩ (by simp only; omega) ((Shift.nilbl (i := 10) 3 (by simp)).trans (Shift.slots' (by simp [hm, f0, f1, f2, f3, f4, f5, f6, g6, ft, gt, eachF_app, hcn, hcs]) (by simp [hm, f0, f1, f2, f3, f4, f5, f6, g6, ft, gt, eachF_app, hcn, hcs, eachF_len, Nat.add_assoc])))
          · have hcs := curS_next r s (k + 1) (n := n) hi0
            rw [if_neg (fun q => hk0 (by have := q.1; rw [show ((k + 1 : Nat) : Int) = (k : Int) + 1 from by omega] at this; exact this)), List.append_nil] at hcs
            simp (disch := first | omega | (simp; done) | (simp; omega)) [ltT, ltF, leT, leF, eqT', eqF, ltTn, leTn, ltFn, leFn, wrapI, mid, hm, f0, f1, f2, f3, f4, f5, f6, g6, ft, gt, eachF_app, hk0, hkw]
            refine callV_of (step_V' (n := n) (b := m + 6) ?_ (by omega) (by omega)) ?_
            · simp [hm, f0, f1, f2, f3, f4, f5, f6, g6, ft, gt, eachF_app]
            rintro _ _ ⟨rfl, rfl⟩
            simp (disch := first | omega | (simp; done) | (simp; omega)) [ltT, ltF, leT, leF, eqT', eqF, ltTn, leTn, ltFn, leFn, wrapI, mid, hm, f0, f1, f2, f3, f4, f5, f6, g6, ft, gt, eachF_app]
            exact hA ((k + 1), n + 1, v2, st2, (junk ++ [.tail 3 (curS r s k n).length])) _ ⟨hi1, hi2, hi3, hrun2⟩ (by simp only; omega) ((Shift.nilbl (i := 10) 3 (by simp)).trans (Shift.slots' (by simp [hm, f0, f1, f2, f3, f4, f5, f6, g6, ft, gt, eachF_app, hcn, hcs]) (by simp [hm, f0, f1, f2, f3, f4, f5, f6, g6, ft, gt, eachF_app, hcn, hcs, eachF_len, Nat.add_assoc])))
  · have hls : lastS r s = min (s + 20000) 3652059 := by unfold lastS; rw [if_neg ht0]; rfl
    simp (disch := first | omega | (simp; done) | (simp; omega)) [ltT, ltF, leT, leF, eqT', eqF, ltTn, leTn, ltFn, leFn, wrapI, mid, hm, a0, ak, s0, sk, ht0]
    refine (period_V (dyS s) r.unit (by show 1 ≤ s; omega) (by show s ≤ 10000000; omega) (by omega) (by omega) (by omega) (by omega) _).useV ?_
    simp (disch := first | omega | (simp; done) | (simp; omega)) [ltT, ltF, leT, leF, eqT', eqF, ltTn, leTn, ltFn, leFn, wrapI, mid, hm, a0, ak, s0, sk, ht0]
    refine (first_V s r.unit hs hs2 _).useV ?_
    simp (disch := first | omega | (simp; done) | (simp; omega)) [ltT, ltF, leT, leF, eqT', eqF, ltTn, leTn, ltFn, leFn, wrapI, mid, hm, a0, ak, s0, sk]
    refine callV_of (walk_V (pf r.unit s 0) (by omega) (by omega) _) ?_
    rintro _ _ ⟨rfl, rfl⟩
    simp (disch := first | omega | (simp; done) | (simp; omega)) [ltT, ltF, leT, leF, eqT', eqF, ltTn, leTn, ltFn, leFn, wrapI, mid, hm, a0, ak, s0, sk]
    refine W_loopA (ι := Nat × Int × Int × σ × List Blk) (fun q => pf r.unit s q.1 ≤ q.2.1 ∧ q.2.1 ≤ pf r.unit s (q.1 + 1) ∧ q.2.1 ≤ 3652060 ∧ runG y s (lastS r s) r.count (preS r s q.1) (0, st) = (true, (q.2.2.1, q.2.2.2.1)))
      (fun q => ⟨[(3, .ptr m 3 0 0), (4, .ptr (m + 1) 25 0 0), (6, .ptr (m + 3) 85 0 0), (7, .ptr (m + 4) 3 0 0), (9, .clo 65 [.ptr (m + 1) 25 0 0, .ptr m 3 0 0, .ptr (m + 4) 3 0 0, .ptr (m + 5) 3 0 0, .ptr (m + 2) 49 0 0]), (10, .bl (m + 7 + q.2.2.2.2.length) 3 ((curS r s q.1 q.2.1).map encI)), (11, .d (.int .i64 (perD r.unit (dyS s)))), (12, .d (.int .i64 (perD r.unit (dyS s) + q.1))), (13, .ptr (m + 6) 94 0 0)], H q.2.2.2.1 ++ eachF r s g cs q.2.2.1 q.2.1 (q.2.2.2.2 ++ [.tail 3 (curS r s q.1 q.2.1).length])⟩)
      (fun q => (3652061 - q.2.1).toNat) (0, pf r.unit s 0, 0, st, []) ⟨Int.le_refl _, by have := pf_lt r.unit s (a := 0) (b := 1) (by omega); simpa using Int.le_of_lt this, by show pf r.unit s 0 ≤ 3652060; omega, rfl⟩
      ((Shift.nilbl (i := 10) 3 (by simp)).trans (Shift.slots' (by simp [eachF, hls, hc0, wkD, hpf0]) (by simp [hc0, hm]))) ?_
    rintro ⟨k, n, v, st', junk⟩ ⟨hn1, hn2, hn3, hrun⟩ A hA
    simp only at hn1 hn2 hn3 hrun
    have hgr := pf_grow (u := r.unit) hs k
    have hbN := bigN_eq
    have hk1 : k + 1 ≤ bigN := by omega
    have hwb := wkD_bnd (n := n) (by omega)
    have hcnt := runG_count y s (lastS r s) r.count (preS r s k) (0, st)
    rw [hrun] at hcnt
    simp only at hcnt
    have hpl := preS_len r hs k
    have hv0 : 0 ≤ v := by omega
    have hv1 : v ≤ 10000000 := by omega
    have hcr : ∀ x ∈ curS r s k n, 1 ≤ x ∧ x ≤ 3652059 := fun x hx => by
      unfold curS at hx
      split at hx
      · have := mem_ints.mp (List.mem_filter.mp hx).1; omega
      · exact (List.not_mem_nil hx).elim
    have hcl : (curS r s k n).length ≤ 10000000 := by
      have hinc : (curS r s k n).Pairwise (· < ·) := by
        unfold curS
        split
        · exact (ints_inc _ _).sublist List.filter_sublist
        · exact .nil
      have := inc_len (a := 1) (b := 3652059) hinc hcr
      omega
    simp (disch := first | omega | (simp; done) | (simp; omega)) [ltT, ltF, leT, leF, eqT', eqF, ltTn, leTn, ltFn, leFn, wrapI, mid, hm, f0, f1, f2, f3, f4, f5, f6, g6, ft, gt, eachF_app]
    refine (period_V (wkD n) r.unit (by rw [wkD_n]; omega) (by rw [wkD_n]; omega) (by omega) (by omega) (by omega) (by omega) _).useV ?_
    by_cases hp : perD r.unit (wkD n) = perD r.unit (dyS s) + k
    · by_cases hn9 : n ≤ 3652059
      · have hwd : wkD n = dyS n := by unfold wkD; rw [if_pos hn9]
        have hdb := dy_bnd (n := n) (by omega) hn9
        rw [hwd] at hp
        have hn4 := ((per_iff (n := n) (by omega)).mp hp).2
        have hkw : Int.tmod (perD r.unit (dyS s) + (k : Int) - perD r.unit (dyS s)) r.step = (k : Int) % r.step := by
          rw [show perD r.unit (dyS s) + (k : Int) - perD r.unit (dyS s) = (k : Int) from by omega]; exact Int.tmod_eq_emod_of_nonneg (by omega)
        rw [hwd, hp]
        simp (disch := first | omega | (simp; done) | (simp; omega)) [ltT, ltF, leT, leF, eqT', eqF, ltTn, leTn, ltFn, leFn, wrapI, mid, hm, f0, f1, f2, f3, f4, f5, f6, g6, ft, gt, eachF_app, wkD_n, Dy.mo]
        have hfv : ∀ h, CallP Tryz.prog 71 [.d (encMo (wkD n).mo), .d (encRu r), .d (encMo (dyS s).mo)] h (.d (.bool (fitD r (dyS s) (dyS n)))) := fun h => by
          have := fits_V r hr (dyS s) (wkD n) (by omega) (by omega) (by omega) (by omega) h
          rwa [show fitD r (dyS s) (wkD n) = fitD r (dyS s) (dyS n) from by rw [hwd]] at this
        have hi1 : pf r.unit s (k : Int) ≤ n + 1 := by omega
        have hi2 : n + 1 ≤ pf r.unit s ((k : Int) + 1) := by omega
        have hi3 : n + 1 ≤ 3652060 := by omega
        have hi0 : pf r.unit s (k : Int) ≤ n := by omega
        by_cases hk0 : (k : Int) % r.step = 0
        · simp (disch := first | omega | (simp; done) | (simp; omega)) [ltT, ltF, leT, leF, eqT', eqF, ltTn, leTn, ltFn, leFn, wrapI, mid, hm, f0, f1, f2, f3, f4, f5, f6, g6, ft, gt, eachF_app, hk0, hkw]
          refine (hfv _).useV ?_
          cases hf : fitD r (dyS s) (dyS n) with
          | true =>
            have hcs := curS_next r s k (n := n) hi0
            rw [if_pos ⟨hk0, hf⟩] at hcs
            simp (disch := first | omega | (simp; done) | (simp; omega)) [ltT, ltF, leT, leF, eqT', eqF, ltTn, leTn, ltFn, leFn, wrapI, mid, hm, f0, f1, f2, f3, f4, f5, f6, g6, ft, gt, eachF_app, encI]
            refine callV_of (step_V' (n := n) (b := m + 6) ?_ (by omega) (by omega)) ?_
            · simp [hm, f0, f1, f2, f3, f4, f5, f6, g6, ft, gt, eachF_app]
            rintro _ _ ⟨rfl, rfl⟩
            simp (disch := first | omega | (simp; done) | (simp; omega)) [ltT, ltF, leT, leF, eqT', eqF, ltTn, leTn, ltFn, leFn, wrapI, mid, hm, f0, f1, f2, f3, f4, f5, f6, g6, ft, gt, eachF_app]
            exact hA (k, n + 1, v, st', junk) _ ⟨hi1, hi2, hi3, hrun⟩ (by simp only; omega) (Shift.slots' (by simp [hm, f0, f1, f2, f3, f4, f5, f6, g6, ft, gt, eachF_app, hcs]) (by simp [hm, f0, f1, f2, f3, f4, f5, f6, g6, ft, gt, eachF_app, hcs, encI, wkD_y, eachF_len, Nat.add_assoc]))
          | false =>
            have hcs := curS_next r s k (n := n) hi0
            rw [if_neg (fun q => by rw [hf] at q; cases q.2), List.append_nil] at hcs
            simp (disch := first | omega | (simp; done) | (simp; omega)) [ltT, ltF, leT, leF, eqT', eqF, ltTn, leTn, ltFn, leFn, wrapI, mid, hm, f0, f1, f2, f3, f4, f5, f6, g6, ft, gt, eachF_app]
            refine callV_of (step_V' (n := n) (b := m + 6) ?_ (by omega) (by omega)) ?_
            · simp [hm, f0, f1, f2, f3, f4, f5, f6, g6, ft, gt, eachF_app]
            rintro _ _ ⟨rfl, rfl⟩
            simp (disch := first | omega | (simp; done) | (simp; omega)) [ltT, ltF, leT, leF, eqT', eqF, ltTn, leTn, ltFn, leFn, wrapI, mid, hm, f0, f1, f2, f3, f4, f5, f6, g6, ft, gt, eachF_app]
            exact hA (k, n + 1, v, st', junk) _ ⟨hi1, hi2, hi3, hrun⟩ (by simp only; omega) (Shift.slots' (by simp [hm, f0, f1, f2, f3, f4, f5, f6, g6, ft, gt, eachF_app, hcs]) (by simp [hm, f0, f1, f2, f3, f4, f5, f6, g6, ft, gt, eachF_app, hcs]))
        · have hcs := curS_next r s k (n := n) hi0
          rw [if_neg (fun q => hk0 q.1), List.append_nil] at hcs
          simp (disch := first | omega | (simp; done) | (simp; omega)) [ltT, ltF, leT, leF, eqT', eqF, ltTn, leTn, ltFn, leFn, wrapI, mid, hm, f0, f1, f2, f3, f4, f5, f6, g6, ft, gt, eachF_app, hk0, hkw]
          refine callV_of (step_V' (n := n) (b := m + 6) ?_ (by omega) (by omega)) ?_
          · simp [hm, f0, f1, f2, f3, f4, f5, f6, g6, ft, gt, eachF_app]
          rintro _ _ ⟨rfl, rfl⟩
          simp (disch := first | omega | (simp; done) | (simp; omega)) [ltT, ltF, leT, leF, eqT', eqF, ltTn, leTn, ltFn, leFn, wrapI, mid, hm, f0, f1, f2, f3, f4, f5, f6, g6, ft, gt, eachF_app]
          exact hA (k, n + 1, v, st', junk) _ ⟨hi1, hi2, hi3, hrun⟩ (by simp only; omega) (Shift.slots' (by simp [hm, f0, f1, f2, f3, f4, f5, f6, g6, ft, gt, eachF_app, hcs]) (by simp [hm, f0, f1, f2, f3, f4, f5, f6, g6, ft, gt, eachF_app, hcs]))
      · rw [hp]
        simp (disch := first | omega | (simp; done) | (simp; omega)) [ltT, ltF, leT, leF, eqT', eqF, ltTn, leTn, ltFn, leFn, wrapI, mid, hm, f0, f1, f2, f3, f4, f5, f6, g6, ft, gt, eachF_app, wkD_n, Dy.mo]
        have hend := curS_end r s k (n := n) (by unfold maxD; omega) (by unfold maxD; omega)
        refine callV_of (CallW.sub (give_V hr (hG n (junk ++ [.tail 3 (curS r s k n).length])) (by omega) (curS r s k n) hcr hcl v st' hv0 hv1) (args := [.bl (m + 7 + junk.length) 3 ((curS r s k n).map encI), .ptr (m + 1) 25 0 0, .ptr m 3 0 0, .ptr (m + 4) 3 0 0, .ptr (m + 5) 3 0 0, .ptr (m + 2) 49 0 0]) (by exact ⟨.bl _ _ _, .refl _, .refl _, .refl _, .refl _, .refl _, trivial⟩)) ?_
        rintro _ _ ⟨rfl, rfl⟩
        rw [hend]
        obtain ⟨⟨b, v2, st2⟩, hq⟩ : ∃ q, runG y s (lastS r s) r.count (gS r s k) (v, st') = q := ⟨_, rfl⟩
        have hrun2 : runG y s (lastS r s) r.count (preS r s (k + 1)) (0, st) = (b, (v2, st2)) := by rw [preS, runG_app, hrun]; simp only [if_true]; exact hq
        rw [hq]
        cases b with
        | false =>
          simp (disch := first | omega | (simp; done) | (simp; omega)) [ltT, ltF, leT, leF, eqT', eqF, ltTn, leTn, ltFn, leFn, wrapI, mid, hm, f0, f1, f2, f3, f4, f5, f6, g6, ft, gt, eachF_app]
          rw [each_stop hs hk1 hrun2 (.inl rfl)]
          exact RShift.drop (.refl _) (by simp) (hokH _) (by rw [hm]; exact Nat.le_refl _)
        | true =>
          by_cases hnl : lastS r s < n
          · simp (disch := first | omega | (simp; done) | (simp; omega)) [ltT, ltF, leT, leF, eqT', eqF, ltTn, leTn, ltFn, leFn, wrapI, mid, hm, f0, f1, f2, f3, f4, f5, f6, g6, ft, gt, eachF_app, wkD_n, Dy.mo, hnl]
            rw [each_stop hs hk1 hrun2 (.inr (by omega))]
            exact RShift.drop (.refl _) (by simp) (hokH _) (by rw [hm]; exact Nat.le_refl _)
          · exfalso; omega
    · have hB : n = pf r.unit s (k + 1) ∨ n = 3652060 := by
        by_cases hn9 : n ≤ 3652059
        · left
          have hpp : ¬ n < pf r.unit s (k + 1) := fun q => hp (by
            rw [show wkD n = dyS n from by unfold wkD; rw [if_pos hn9]]
            exact (per_iff (by omega)).mpr ⟨hn1, q⟩)
          omega
        · right; omega
      simp (disch := first | omega | (simp; done) | (simp; omega)) [ltT, ltF, leT, leF, eqT', eqF, ltTn, leTn, ltFn, leFn, wrapI, mid, hm, f0, f1, f2, f3, f4, f5, f6, g6, ft, gt, eachF_app, hp]
      have hend := curS_end r s k (n := n) (by unfold maxD; omega) (by unfold maxD; omega)
      refine callV_of (CallW.sub (give_V hr (hG n (junk ++ [.tail 3 (curS r s k n).length])) (by omega) (curS r s k n) hcr hcl v st' hv0 hv1) (args := [.bl (m + 7 + junk.length) 3 ((curS r s k n).map encI), .ptr (m + 1) 25 0 0, .ptr m 3 0 0, .ptr (m + 4) 3 0 0, .ptr (m + 5) 3 0 0, .ptr (m + 2) 49 0 0]) (by exact ⟨.bl _ _ _, .refl _, .refl _, .refl _, .refl _, .refl _, trivial⟩)) ?_
      rintro _ _ ⟨rfl, rfl⟩
      rw [hend]
      obtain ⟨⟨b, v2, st2⟩, hq⟩ : ∃ q, runG y s (lastS r s) r.count (gS r s k) (v, st') = q := ⟨_, rfl⟩
      have hrun2 : runG y s (lastS r s) r.count (preS r s (k + 1)) (0, st) = (b, (v2, st2)) := by rw [preS, runG_app, hrun]; simp only [if_true]; exact hq
      rw [hq]
      cases b with
      | false =>
        simp (disch := first | omega | (simp; done) | (simp; omega)) [ltT, ltF, leT, leF, eqT', eqF, ltTn, leTn, ltFn, leFn, wrapI, mid, hm, f0, f1, f2, f3, f4, f5, f6, g6, ft, gt, eachF_app]
        rw [each_stop hs hk1 hrun2 (.inl rfl)]
        exact RShift.drop (.refl _) (by simp) (hokH _) (by rw [hm]; exact Nat.le_refl _)
      | true =>
        by_cases hnl : lastS r s < n
        · simp (disch := first | omega | (simp; done) | (simp; omega)) [ltT, ltF, leT, leF, eqT', eqF, ltTn, leTn, ltFn, leFn, wrapI, mid, hm, f0, f1, f2, f3, f4, f5, f6, g6, ft, gt, eachF_app, wkD_n, Dy.mo, hnl]
          rw [each_stop hs hk1 hrun2 (.inr (by omega))]
          exact RShift.drop (.refl _) (by simp) (hokH _) (by rw [hm]; exact Nat.le_refl _)
        · have hn9 : n ≤ 3652059 := by omega
          have hnk : n = pf r.unit s (k + 1) := by omega
          have hn2' := pf_lt r.unit s (a := (k : Int) + 1) (b := (k : Int) + 1 + 1) (by omega)
          have hwd : wkD n = dyS n := by unfold wkD; rw [if_pos hn9]
          have hdb := dy_bnd (n := n) (by omega) hn9
          have hkp : perD r.unit (dyS n) = perD r.unit (dyS s) + ((k : Int) + 1) := (per_iff (by omega)).mpr (by omega)
          have hcn : curS r s (k + 1) n = [] := by
            have := curS_start r s (k + 1)
            rw [show ((k + 1 : Nat) : Int) = (k : Int) + 1 from by omega, ← hnk] at this
            exact this
          have hkw : Int.tmod (perD r.unit (dyS s) + ((k : Int) + 1) - perD r.unit (dyS s)) r.step = ((k : Int) + 1) % r.step := by
            rw [show perD r.unit (dyS s) + ((k : Int) + 1) - perD r.unit (dyS s) = (k : Int) + 1 from by omega]; exact Int.tmod_eq_emod_of_nonneg (by omega)
          rw [hwd, hkp]
          simp (disch := first | omega | (simp; done) | (simp; omega)) [ltT, ltF, leT, leF, eqT', eqF, ltTn, leTn, ltFn, leFn, wrapI, mid, hm, f0, f1, f2, f3, f4, f5, f6, g6, ft, gt, eachF_app, wkD_n, Dy.mo, hnl]
          have hfv : ∀ h, CallP Tryz.prog 71 [.d (encMo (wkD n).mo), .d (encRu r), .d (encMo (dyS s).mo)] h (.d (.bool (fitD r (dyS s) (dyS n)))) := fun h => by
            have := fits_V r hr (dyS s) (wkD n) (by omega) (by omega) (by omega) (by omega) h
            rwa [show fitD r (dyS s) (wkD n) = fitD r (dyS s) (dyS n) from by rw [hwd]] at this
          have hi1 : pf r.unit s ((k + 1 : Nat) : Int) ≤ n + 1 := by rw [show ((k + 1 : Nat) : Int) = (k : Int) + 1 from by omega]; omega
          have hi2 : n + 1 ≤ pf r.unit s (((k + 1 : Nat) : Int) + 1) := by rw [show ((k + 1 : Nat) : Int) = (k : Int) + 1 from by omega]; omega
          have hi3 : n + 1 ≤ 3652060 := by omega
          have hi0 : pf r.unit s ((k + 1 : Nat) : Int) ≤ n := by rw [show ((k + 1 : Nat) : Int) = (k : Int) + 1 from by omega]; omega
          by_cases hk0 : ((k : Int) + 1) % r.step = 0
          · simp (disch := first | omega | (simp; done) | (simp; omega)) [ltT, ltF, leT, leF, eqT', eqF, ltTn, leTn, ltFn, leFn, wrapI, mid, hm, f0, f1, f2, f3, f4, f5, f6, g6, ft, gt, eachF_app, hk0, hkw]
            refine (hfv _).useV ?_
            cases hf : fitD r (dyS s) (dyS n) with
            | true =>
              have hcs := curS_next r s (k + 1) (n := n) hi0
              rw [if_pos ⟨(by rw [show ((k + 1 : Nat) : Int) = (k : Int) + 1 from by omega]; exact hk0), hf⟩] at hcs
              simp (disch := first | omega | (simp; done) | (simp; omega)) [ltT, ltF, leT, leF, eqT', eqF, ltTn, leTn, ltFn, leFn, wrapI, mid, hm, f0, f1, f2, f3, f4, f5, f6, g6, ft, gt, eachF_app, encI]
              refine callV_of (step_V' (n := n) (b := m + 6) ?_ (by omega) (by omega)) ?_
              · simp [hm, f0, f1, f2, f3, f4, f5, f6, g6, ft, gt, eachF_app]
              rintro _ _ ⟨rfl, rfl⟩
              simp (disch := first | omega | (simp; done) | (simp; omega)) [ltT, ltF, leT, leF, eqT', eqF, ltTn, leTn, ltFn, leFn, wrapI, mid, hm, f0, f1, f2, f3, f4, f5, f6, g6, ft, gt, eachF_app]
              exact hA ((k + 1), n + 1, v2, st2, (junk ++ [.tail 3 (curS r s k n).length])) _ ⟨hi1, hi2, hi3, hrun2⟩ (by simp only; omega) (Shift.slots' (by simp [hm, f0, f1, f2, f3, f4, f5, f6, g6, ft, gt, eachF_app, hcn, hcs]) (by simp [hm, f0, f1, f2, f3, f4, f5, f6, g6, ft, gt, eachF_app, hcn, hcs, encI, wkD_y, eachF_len, Nat.add_assoc]))
            | false =>
              have hcs := curS_next r s (k + 1) (n := n) hi0
              rw [if_neg (fun q => by rw [hf] at q; cases q.2), List.append_nil] at hcs
              simp (disch := first | omega | (simp; done) | (simp; omega)) [ltT, ltF, leT, leF, eqT', eqF, ltTn, leTn, ltFn, leFn, wrapI, mid, hm, f0, f1, f2, f3, f4, f5, f6, g6, ft, gt, eachF_app]
              refine callV_of (step_V' (n := n) (b := m + 6) ?_ (by omega) (by omega)) ?_
              · simp [hm, f0, f1, f2, f3, f4, f5, f6, g6, ft, gt, eachF_app]
              rintro _ _ ⟨rfl, rfl⟩
              simp (disch := first | omega | (simp; done) | (simp; omega)) [ltT, ltF, leT, leF, eqT', eqF, ltTn, leTn, ltFn, leFn, wrapI, mid, hm, f0, f1, f2, f3, f4, f5, f6, g6, ft, gt, eachF_app]
              exact hA ((k + 1), n + 1, v2, st2, (junk ++ [.tail 3 (curS r s k n).length])) _ ⟨hi1, hi2, hi3, hrun2⟩ (by simp only; omega) ((Shift.nilbl (i := 10) 3 (by simp)).trans (Shift.slots' (by simp [hm, f0, f1, f2, f3, f4, f5, f6, g6, ft, gt, eachF_app, hcn, hcs]) (by simp [hm, f0, f1, f2, f3, f4, f5, f6, g6, ft, gt, eachF_app, hcn, hcs, eachF_len, Nat.add_assoc])))
          · have hcs := curS_next r s (k + 1) (n := n) hi0
            rw [if_neg (fun q => hk0 (by have := q.1; rw [show ((k + 1 : Nat) : Int) = (k : Int) + 1 from by omega] at this; exact this)), List.append_nil] at hcs
            simp (disch := first | omega | (simp; done) | (simp; omega)) [ltT, ltF, leT, leF, eqT', eqF, ltTn, leTn, ltFn, leFn, wrapI, mid, hm, f0, f1, f2, f3, f4, f5, f6, g6, ft, gt, eachF_app, hk0, hkw]
            refine callV_of (step_V' (n := n) (b := m + 6) ?_ (by omega) (by omega)) ?_
            · simp [hm, f0, f1, f2, f3, f4, f5, f6, g6, ft, gt, eachF_app]
            rintro _ _ ⟨rfl, rfl⟩
            simp (disch := first | omega | (simp; done) | (simp; omega)) [ltT, ltF, leT, leF, eqT', eqF, ltTn, leTn, ltFn, leFn, wrapI, mid, hm, f0, f1, f2, f3, f4, f5, f6, g6, ft, gt, eachF_app]
            exact hA ((k + 1), n + 1, v2, st2, (junk ++ [.tail 3 (curS r s k n).length])) _ ⟨hi1, hi2, hi3, hrun2⟩ (by simp only; omega) ((Shift.nilbl (i := 10) 3 (by simp)).trans (Shift.slots' (by simp [hm, f0, f1, f2, f3, f4, f5, f6, g6, ft, gt, eachF_app, hcn, hcs]) (by simp [hm, f0, f1, f2, f3, f4, f5, f6, g6, ft, gt, eachF_app, hcn, hcs, eachF_len, Nat.add_assoc])))

end Go.Vm
