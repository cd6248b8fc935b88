/- recur: faults of rules: the walks. -/
import Derived.Test.YtkmeiandnebaeaaGreatDoorRd4
namespace Go.Vm
open Proofs
set_option maxRecDepth 20000
set_option maxHeartbeats 2000000
set_option linter.unusedSimpArgs false

@[simp high] theorem neq_F (a b : Int × Int) : binAV tb 27 .neq (.d (encF a)) (.d (encF b)) = some (True, .d (.bool (!decide (a = b)))) := by
  have : (a = b) ↔ (a.1 = b.1 ∧ a.2 = b.2) := by cases a; cases b; simp
  simp only [this]
  by_cases h1 : a.1 = b.1 <;> by_cases h2 : a.2 = b.2 <;> simp [-fold_F, encF, eqT, eqFs, h1, h2]
@[simp high] theorem eql_F (a b : Int × Int) : binAV tb 27 .eql (.d (encF a)) (.d (encF b)) = some (True, .d (.bool (decide (a = b)))) := by
  have : (a = b) ↔ (a.1 = b.1 ∧ a.2 = b.2) := by cases a; cases b; simp
  simp only [this]
  by_cases h1 : a.1 = b.1 <;> by_cases h2 : a.2 = b.2 <;> simp [-fold_F, encF, eqT, eqFs, h1, h2]
@[simp high] theorem eql_W (a b : Int × Int) : binAV tb 56 .eql (.d (encF a)) (.d (encF b)) = some (True, .d (.bool (decide (a = b)))) := by
  have : (a = b) ↔ (a.1 = b.1 ∧ a.2 = b.2) := by cases a; cases b; simp
  simp only [this]
  by_cases h1 : a.1 = b.1 <;> by_cases h2 : a.2 = b.2 <;> simp [-fold_F, encF, eqT, eqFs, h1, h2]

theorem within_V (n a b : Int) (h : List Blk) : CallP Tryz.prog 27 [.d (.int .i64 n), .d (.int .i64 a), .d (.int .i64 b)] h (.d (.int .i64 (inC n a b))) := by
  refine callW tb_ok fn27 (by simp) (fun hok => ?_)
  unfold inC
  by_cases h1 : n < a
  · simp (disch := first | omega | (simp; done) | (simp; omega)) [ltT, ltF, leT, leF, eqT', eqF, ltTn, leTn, ltFn, leFn, wrapI, mid, c27, h1]
  · by_cases h2 : b < n
    · simp (disch := first | omega | (simp; done) | (simp; omega)) [ltT, ltF, leT, leF, eqT', eqF, ltTn, leTn, ltFn, leFn, wrapI, mid, c27, h1, h2]
    · simp (disch := first | omega | (simp; done) | (simp; omega)) [ltT, ltF, leT, leF, eqT', eqF, ltTn, leTn, ltFn, leFn, wrapI, mid, c27, h1, h2]
theorem okM_V (n : Int) (h : List Blk) : CallP Tryz.prog 30 [.d (.int .i64 n)] h (.d (.bool (okM n))) := by
  refine callW tb_ok fn30 (by simp) (fun hok => ?_)
  unfold okM
  by_cases h1 : 1 ≤ n
  · by_cases h2 : n ≤ 12
    · simp (disch := first | omega | (simp; done) | (simp; omega)) [ltT, ltF, leT, leF, eqT', eqF, ltTn, leTn, ltFn, leFn, wrapI, mid, c30, h1, h2]
    · simp (disch := first | omega | (simp; done) | (simp; omega)) [ltT, ltF, leT, leF, eqT', eqF, ltTn, leTn, ltFn, leFn, wrapI, mid, c30, h1, h2]
  · simp (disch := first | omega | (simp; done) | (simp; omega)) [ltT, ltF, leT, leF, eqT', eqF, ltTn, leTn, ltFn, leFn, wrapI, mid, c30, h1]
theorem signed_V (n m : Int) (hm : 0 ≤ m) (hm2 : m ≤ 1000000) (h : List Blk) : CallP Tryz.prog 33 [.d (.int .i64 n), .d (.int .i64 m)] h (.d (.bool (okS m n))) := by
  refine callW tb_ok fn33 (by simp) (fun hok => ?_)
  unfold okS
  by_cases h1 : n = 0
  · simp (disch := first | omega | (simp; done) | (simp; omega)) [ltT, ltF, leT, leF, eqT', eqF, ltTn, leTn, ltFn, leFn, wrapI, mid, c33, h1]
  · by_cases h2 : -m ≤ n
    · by_cases h3 : n ≤ m
      · simp (disch := first | omega | (simp; done) | (simp; omega)) [ltT, ltF, leT, leF, eqT', eqF, ltTn, leTn, ltFn, leFn, wrapI, mid, c33, h1, h2, h3]
      · simp (disch := first | omega | (simp; done) | (simp; omega)) [ltT, ltF, leT, leF, eqT', eqF, ltTn, leTn, ltFn, leFn, wrapI, mid, c33, h1, h2, h3]
    · simp (disch := first | omega | (simp; done) | (simp; omega)) [ltT, ltF, leT, leF, eqT', eqF, ltTn, leTn, ltFn, leFn, wrapI, mid, c33, h1, h2]
theorem okS31_V (n : Int) (h : List Blk) : CallP Tryz.prog 32 [.d (.int .i64 n)] h (.d (.bool (okS 31 n))) := by
  refine callW tb_ok fn32 (by simp) (fun hok => ?_)
  simp (disch := first | omega | (simp; done) | (simp; omega)) [ltT, ltF, leT, leF, eqT', eqF, ltTn, leTn, ltFn, leFn, wrapI, mid, c32]
  refine (signed_V n 31 (by omega) (by omega) _).useV ?_
  simp (disch := first | omega | (simp; done) | (simp; omega)) [ltT, ltF, leT, leF, eqT', eqF, ltTn, leTn, ltFn, leFn, wrapI, mid]
theorem okS366_V (n : Int) (h : List Blk) : CallP Tryz.prog 38 [.d (.int .i64 n)] h (.d (.bool (okS 366 n))) := by
  refine callW tb_ok fn38 (by simp) (fun hok => ?_)
  simp (disch := first | omega | (simp; done) | (simp; omega)) [ltT, ltF, leT, leF, eqT', eqF, ltTn, leTn, ltFn, leFn, wrapI, mid, c38]
  refine (signed_V n 366 (by omega) (by omega) _).useV ?_
  simp (disch := first | omega | (simp; done) | (simp; omega)) [ltT, ltF, leT, leF, eqT', eqF, ltTn, leTn, ltFn, leFn, wrapI, mid]
theorem okW_V (w : Int × Int) (h : List Blk) : CallP Tryz.prog 36 [.d (encF w)] h (.d (.bool (okW w))) := by
  refine callW tb_ok fn36 (by simp) (fun hok => ?_)
  unfold okW
  by_cases h1 : 0 ≤ w.1
  · by_cases h2 : w.1 ≤ 6
    · by_cases h3 : -5 ≤ w.2
      · by_cases h4 : w.2 ≤ 5
        · simp (disch := first | omega | (simp; done) | (simp; omega)) [ltT, ltF, leT, leF, eqT', eqF, ltTn, leTn, ltFn, leFn, wrapI, mid, c36, h1, h2, h3, h4]
          exact rshift_d hok
        · simp (disch := first | omega | (simp; done) | (simp; omega)) [ltT, ltF, leT, leF, eqT', eqF, ltTn, leTn, ltFn, leFn, wrapI, mid, c36, h1, h2, h3, h4]
          exact rshift_d hok
      · simp (disch := first | omega | (simp; done) | (simp; omega)) [ltT, ltF, leT, leF, eqT', eqF, ltTn, leTn, ltFn, leFn, wrapI, mid, c36, h1, h2, h3]
        exact rshift_d hok
    · simp (disch := first | omega | (simp; done) | (simp; omega)) [ltT, ltF, leT, leF, eqT', eqF, ltTn, leTn, ltFn, leFn, wrapI, mid, c36, h1, h2]
      exact rshift_d hok
  · simp (disch := first | omega | (simp; done) | (simp; omega)) [ltT, ltF, leT, leF, eqT', eqF, ltTn, leTn, ltFn, leFn, wrapI, mid, c36, h1]
    exact rshift_d hok

theorem check48_V (l : List Int) (f : FuncId) (ok : Int → Bool) (hf : ∀ n h, CallP Tryz.prog f [.d (.int .i64 n)] h (.d (.bool (ok n)))) (h : List Blk) : CallP Tryz.prog 29 [.d (.sl 3 (l.map encI)), .d (.fn f)] h (.d (.int .i64 (checkS ok l))) := by
  refine callW tb_ok fn29 (by simp) (fun hok => ?_)
  unfold checkS
  by_cases h12 : 12 < l.length
  · rw [if_pos h12]
    simp (disch := first | omega | (simp; done) | (simp; omega)) [ltT, ltF, leT, leF, eqT', eqF, ltTn, leTn, ltFn, leFn, wrapI, mid, c29]
  · rw [if_neg h12]
    simp (disch := first | omega | (simp; done) | (simp; omega)) [ltT, ltF, leT, leF, eqT', eqF, ltTn, leTn, ltFn, leFn, wrapI, mid, c29]
    refine W_loopA (ι := List Int × List Int) (fun q => q.1 ++ q.2 = l ∧ chkS ok q.1 q.2 = chkS ok [] l) (fun q => ⟨[(0, .d (.sl 3 (l.map encI))), (1, .d (.fn f)), (10, .d (.sl 3 (l.map encI))), (11, .d (.int .i64 l.length)), (12, .d (.int .i64 q.1.length))], h⟩) (fun q => q.2.length) ([], l) ⟨rfl, rfl⟩ (Shift.slots' rfl (by simp)) ?_
    rintro ⟨pre, rest⟩ ⟨hx, hc⟩ A hA
    simp only at hx hc
    subst hx
    cases rest with
    | nil =>
      simp only [chkS, List.append_nil] at hc
      simp (disch := first | omega | (simp; done) | (simp; omega)) [ltT, ltF, leT, leF, eqT', eqF, ltTn, leTn, ltFn, leFn, wrapI, mid, ← hc]
    | cons x rest =>
      simp only [List.length_append, List.length_cons] at h12
      simp only [chkS] at hc
      simp (disch := first | omega | (simp; done) | (simp; omega)) [ltT, ltF, leT, leF, eqT', eqF, ltTn, leTn, ltFn, leFn, wrapI, mid, encI]
      refine (hf x _).useV ?_
      cases hk : ok x with
      | false =>
        rw [hk, if_pos rfl] at hc
        simp (disch := first | omega | (simp; done) | (simp; omega)) [ltT, ltF, leT, leF, eqT', eqF, ltTn, leTn, ltFn, leFn, wrapI, mid, ← hc]
      | true =>
        rw [hk, if_neg (by simp)] at hc
        simp (disch := first | omega | (simp; done) | (simp; omega)) [ltT, ltF, leT, leF, eqT', eqF, ltTn, leTn, ltFn, leFn, wrapI, mid]
        refine (contains66_V pre x _ (by omega)).useV ?_
        by_cases hm : x ∈ pre
        · rw [if_pos hm] at hc
          simp (disch := first | omega | (simp; done) | (simp; omega)) [ltT, ltF, leT, leF, eqT', eqF, ltTn, leTn, ltFn, leFn, wrapI, mid, hm, ← hc]
        · rw [if_neg hm] at hc
          simp (disch := first | omega | (simp; done) | (simp; omega)) [ltT, ltF, leT, leF, eqT', eqF, ltTn, leTn, ltFn, leFn, wrapI, mid, hm]
          exact hA (pre ++ [x], rest) _ ⟨by simp, hc⟩ (by simp) (Shift.slots' rfl (by simp [encI]))

theorem index83_V (l : List (Int × Int)) (x : Int × Int) (h : List Blk) (hl : l.length < 1000000000) : CallP Tryz.prog 104 [.d (.sl 56 (l.map encF)), .d (encF x)] h (.d (.int .i64 (idxFrom (fun y => decide (x = y)) 0 l))) := by
  refine callW tb_ok fn104 (by simp) (fun hok => ?_)
  simp (disch := first | omega | (simp; done) | (simp; omega)) [ltT, ltF, leT, leF, eqT', eqF, ltTn, leTn, ltFn, leFn, wrapI, mid, c104]
  refine W_loopA (ι := List (Int × Int) × List (Int × Int)) (fun q => q.1 ++ q.2 = l ∧ idxFrom (fun y => decide (x = y)) q.1.length q.2 = idxFrom (fun y => decide (x = y)) 0 l) (fun q => ⟨[(0, .d (.sl 56 (l.map encF))), (3, .ptr h.length 56 0 0), (7, .d (.int .i64 l.length)), (8, .d (.int .i64 q.1.length))], h ++ [.cells 56 [.d (encF x)]]⟩) (fun q => q.2.length) ([], l) (by simp) (Shift.slots' rfl (by simp [look])) ?_
  rintro ⟨pre, rest⟩ ⟨hx, hc⟩ A hA
  simp only at hx hc
  subst hx
  cases rest with
  | nil =>
    simp only [idxFrom, List.append_nil] at hc
    simp (disch := first | omega | (simp; done) | (simp; omega)) [ltT, ltF, leT, leF, eqT', eqF, ltTn, leTn, ltFn, leFn, wrapI, mid, ← hc]
    exact rshift_d hok
  | cons y rest =>
    simp only [List.length_append, List.length_cons] at hl
    by_cases hp : x = y
    · have hr : idxFrom (fun y => decide (x = y)) 0 (pre ++ y :: rest) = pre.length := by rw [← hc, idxFrom, if_pos (by simpa using hp)]
      have hp' : (x.1, x.2) = (y.1, y.2) := hp
      simp (disch := first | omega | (simp; done) | (simp; omega)) [ltT, ltF, leT, leF, eqT', eqF, ltTn, leTn, ltFn, leFn, wrapI, mid, hr, hp']
      exact rshift_d hok
    · have hp' : ¬ (x.1, x.2) = (y.1, y.2) := hp
      simp (disch := first | omega | (simp; done) | (simp; omega)) [ltT, ltF, leT, leF, eqT', eqF, ltTn, leTn, ltFn, leFn, wrapI, mid, eq_false hp']
      refine hA (pre ++ [y], rest) _ ⟨by simp, ?_⟩ (by simp) (Shift.slots' rfl (by simp))
      rw [← hc, idxFrom, if_neg (by simpa using hp)]
      simp
theorem any_containsW (l : List (Int × Int)) (x : Int × Int) : l.any (fun y => decide (x = y)) = decide (x ∈ l) := by
  rw [Bool.eq_iff_iff, List.any_eq_true, decide_eq_true_eq]
  constructor
  · rintro ⟨y, h1, h2⟩; rw [of_decide_eq_true h2]; exact h1
  · intro h; exact ⟨x, h, by simp⟩
theorem contains72_V (l : List (Int × Int)) (x : Int × Int) (h : List Blk) (hl : l.length < 1000000000) : CallP Tryz.prog 73 [.d (.sl 56 (l.map encF)), .d (encF x)] h (.d (.bool (decide (x ∈ l)))) := by
  refine callW tb_ok fn73 (by simp) (fun hok => ?_)
  simp (disch := first | omega | (simp; done) | (simp; omega)) [ltT, ltF, leT, leF, eqT', eqF, ltTn, leTn, ltFn, leFn, wrapI, mid, c73]
  refine (index83_V l x _ hl).useV ?_
  simp (disch := first | omega | (simp; done) | (simp; omega)) [ltT, ltF, leT, leF, eqT', eqF, ltTn, leTn, ltFn, leFn, wrapI, mid, idxFrom_any, any_containsW]
  exact rshift_d hok

theorem check54_V (l : List (Int × Int)) (h : List Blk) : CallP Tryz.prog 35 [.d (.sl 56 (l.map encF)), .d (.fn 36)] h (.d (.int .i64 (checkS okW l))) := by
  refine callW tb_ok fn35 (by simp) (fun hok => ?_)
  unfold checkS
  by_cases h12 : 12 < l.length
  · rw [if_pos h12]
    simp (disch := first | omega | (simp; done) | (simp; omega)) [ltT, ltF, leT, leF, eqT', eqF, ltTn, leTn, ltFn, leFn, wrapI, mid, c35]
  · rw [if_neg h12]
    simp (disch := first | omega | (simp; done) | (simp; omega)) [ltT, ltF, leT, leF, eqT', eqF, ltTn, leTn, ltFn, leFn, wrapI, mid, c35]
    refine W_loopA (ι := List (Int × Int) × List (Int × Int)) (fun q => q.1 ++ q.2 = l ∧ chkS okW q.1 q.2 = chkS okW [] l) (fun q => ⟨[(0, .d (.sl 56 (l.map encF))), (1, .d (.fn 36)), (10, .d (.sl 56 (l.map encF))), (11, .d (.int .i64 l.length)), (12, .d (.int .i64 q.1.length))], h⟩) (fun q => q.2.length) ([], l) ⟨rfl, rfl⟩ (Shift.slots' rfl (by simp)) ?_
    rintro ⟨pre, rest⟩ ⟨hx, hc⟩ A hA
    simp only at hx hc
    subst hx
    cases rest with
    | nil =>
      simp only [chkS, List.append_nil] at hc
      simp (disch := first | omega | (simp; done) | (simp; omega)) [ltT, ltF, leT, leF, eqT', eqF, ltTn, leTn, ltFn, leFn, wrapI, mid, ← hc]
    | cons x rest =>
      simp only [List.length_append, List.length_cons] at h12
      simp only [chkS] at hc
      simp (disch := first | omega | (simp; done) | (simp; omega)) [ltT, ltF, leT, leF, eqT', eqF, ltTn, leTn, ltFn, leFn, wrapI, mid]
      refine (okW_V x _).useV ?_
      cases hk : okW x with
      | false =>
        rw [hk, if_pos rfl] at hc
        simp (disch := first | omega | (simp; done) | (simp; omega)) [ltT, ltF, leT, leF, eqT', eqF, ltTn, leTn, ltFn, leFn, wrapI, mid, ← hc]
        exact rshift_d hok
      | true =>
        rw [hk, if_neg (by simp)] at hc
        simp (disch := first | omega | (simp; done) | (simp; omega)) [ltT, ltF, leT, leF, eqT', eqF, ltTn, leTn, ltFn, leFn, wrapI, mid]
        refine (contains72_V pre x _ (by omega)).useV ?_
        by_cases hm : x ∈ pre
        · rw [if_pos hm] at hc
          simp (disch := first | omega | (simp; done) | (simp; omega)) [ltT, ltF, leT, leF, eqT', eqF, ltTn, leTn, ltFn, leFn, wrapI, mid, hm, ← hc]
          exact rshift_d hok
        · rw [if_neg hm] at hc
          simp (disch := first | omega | (simp; done) | (simp; omega)) [ltT, ltF, leT, leF, eqT', eqF, ltTn, leTn, ltFn, leFn, wrapI, mid, hm]
          exact hA (pre ++ [x], rest) _ ⟨by simp, hc⟩ (by simp) (Shift.weak' (g := [.cells 56 [.d (encF x)]]) (by simp) hok (Nat.le_refl _) (by simp))

theorem val1_V {r : Ru} {b : Nat} {h : List Blk} (hb : h[b]? = some (.cells 25 [.d (encRu r)])) : CallP Tryz.prog 25 [.ptr b 25 0 0] h (.d (.int .i64 (if r.unit < 1 ∨ 4 < r.unit then 5 else 0))) := by
  refine callW tb_ok fn25 (by simp) (fun hok => ?_)
  have hbl := (List.getElem?_eq_some_iff.mp hb).1
  have hb' := (List.getElem?_eq_some_iff.mp hb).2
  by_cases h1 : r.unit < 1
  · rw [if_pos (.inl h1)]
    simp (disch := first | omega | (simp; done) | (simp; omega)) [ltT, ltF, leT, leF, eqT', eqF, ltTn, leTn, ltFn, leFn, wrapI, mid, c25, hb, hb', hbl, h1]
  · by_cases h2 : 4 < r.unit
    · rw [if_pos (.inr h2)]
      simp (disch := first | omega | (simp; done) | (simp; omega)) [ltT, ltF, leT, leF, eqT', eqF, ltTn, leTn, ltFn, leFn, wrapI, mid, c25, hb, hb', hbl, h1, h2]
    · rw [if_neg (by omega)]
      simp (disch := first | omega | (simp; done) | (simp; omega)) [ltT, ltF, leT, leF, eqT', eqF, ltTn, leTn, ltFn, leFn, wrapI, mid, c25, hb, hb', hbl, h1, h2]
theorem val2_V {r : Ru} {b : Nat} {h : List Blk} (hb : h[b]? = some (.cells 25 [.d (encRu r)])) : CallP Tryz.prog 26 [.ptr b 25 0 0] h (.d (.int .i64 (inC r.step 1 1000))) := by
  refine callW tb_ok fn26 (by simp) (fun hok => ?_)
  have hbl := (List.getElem?_eq_some_iff.mp hb).1
  have hb' := (List.getElem?_eq_some_iff.mp hb).2
  simp (disch := first | omega | (simp; done) | (simp; omega)) [ltT, ltF, leT, leF, eqT', eqF, ltTn, leTn, ltFn, leFn, wrapI, mid, c26, hb, hb', hbl]
  refine (within_V r.step 1 1000 _).useV ?_
  simp (disch := first | omega | (simp; done) | (simp; omega)) [ltT, ltF, leT, leF, eqT', eqF, ltTn, leTn, ltFn, leFn, wrapI, mid]
theorem val3_V {r : Ru} {b : Nat} {h : List Blk} (hb : h[b]? = some (.cells 25 [.d (encRu r)])) : CallP Tryz.prog 28 [.ptr b 25 0 0] h (.d (.int .i64 (checkS okM r.months))) := by
  refine callW tb_ok fn28 (by simp) (fun hok => ?_)
  have hbl := (List.getElem?_eq_some_iff.mp hb).1
  have hb' := (List.getElem?_eq_some_iff.mp hb).2
  simp (disch := first | omega | (simp; done) | (simp; omega)) [ltT, ltF, leT, leF, eqT', eqF, ltTn, leTn, ltFn, leFn, wrapI, mid, c28, hb, hb', hbl]
  refine (check48_V r.months 30 okM okM_V _).useV ?_
  simp (disch := first | omega | (simp; done) | (simp; omega)) [ltT, ltF, leT, leF, eqT', eqF, ltTn, leTn, ltFn, leFn, wrapI, mid]
theorem val4_V {r : Ru} {b : Nat} {h : List Blk} (hb : h[b]? = some (.cells 25 [.d (encRu r)])) : CallP Tryz.prog 31 [.ptr b 25 0 0] h (.d (.int .i64 (checkS (okS 31) r.mdays))) := by
  refine callW tb_ok fn31 (by simp) (fun hok => ?_)
  have hbl := (List.getElem?_eq_some_iff.mp hb).1
  have hb' := (List.getElem?_eq_some_iff.mp hb).2
  simp (disch := first | omega | (simp; done) | (simp; omega)) [ltT, ltF, leT, leF, eqT', eqF, ltTn, leTn, ltFn, leFn, wrapI, mid, c31, hb, hb', hbl]
  refine (check48_V r.mdays 32 (okS 31) okS31_V _).useV ?_
  simp (disch := first | omega | (simp; done) | (simp; omega)) [ltT, ltF, leT, leF, eqT', eqF, ltTn, leTn, ltFn, leFn, wrapI, mid]
theorem val5_V {r : Ru} {b : Nat} {h : List Blk} (hb : h[b]? = some (.cells 25 [.d (encRu r)])) : CallP Tryz.prog 34 [.ptr b 25 0 0] h (.d (.int .i64 (checkS okW r.wds))) := by
  refine callW tb_ok fn34 (by simp) (fun hok => ?_)
  have hbl := (List.getElem?_eq_some_iff.mp hb).1
  have hb' := (List.getElem?_eq_some_iff.mp hb).2
  simp (disch := first | omega | (simp; done) | (simp; omega)) [ltT, ltF, leT, leF, eqT', eqF, ltTn, leTn, ltFn, leFn, wrapI, mid, c34, hb, hb', hbl]
  refine (check54_V r.wds _).useV ?_
  simp (disch := first | omega | (simp; done) | (simp; omega)) [ltT, ltF, leT, leF, eqT', eqF, ltTn, leTn, ltFn, leFn, wrapI, mid]
theorem val6_V {r : Ru} {b : Nat} {h : List Blk} (hb : h[b]? = some (.cells 25 [.d (encRu r)])) : CallP Tryz.prog 37 [.ptr b 25 0 0] h (.d (.int .i64 (checkS (okS 366) r.picks))) := by
  refine callW tb_ok fn37 (by simp) (fun hok => ?_)
  have hbl := (List.getElem?_eq_some_iff.mp hb).1
  have hb' := (List.getElem?_eq_some_iff.mp hb).2
  simp (disch := first | omega | (simp; done) | (simp; omega)) [ltT, ltF, leT, leF, eqT', eqF, ltTn, leTn, ltFn, leFn, wrapI, mid, c37, hb, hb', hbl]
  refine (check48_V r.picks 38 (okS 366) okS366_V _).useV ?_
  simp (disch := first | omega | (simp; done) | (simp; omega)) [ltT, ltF, leT, leF, eqT', eqF, ltTn, leTn, ltFn, leFn, wrapI, mid]
theorem val7_V {r : Ru} {b : Nat} {h : List Blk} (hb : h[b]? = some (.cells 25 [.d (encRu r)])) : CallP Tryz.prog 39 [.ptr b 25 0 0] h (.d (.int .i64 (inC r.count 0 20001))) := by
  refine callW tb_ok fn39 (by simp) (fun hok => ?_)
  have hbl := (List.getElem?_eq_some_iff.mp hb).1
  have hb' := (List.getElem?_eq_some_iff.mp hb).2
  simp (disch := first | omega | (simp; done) | (simp; omega)) [ltT, ltF, leT, leF, eqT', eqF, ltTn, leTn, ltFn, leFn, wrapI, mid, c39, hb, hb', hbl]
  refine (within_V r.count 0 20001 _).useV ?_
  simp (disch := first | omega | (simp; done) | (simp; omega)) [ltT, ltF, leT, leF, eqT', eqF, ltTn, leTn, ltFn, leFn, wrapI, mid]
theorem val8_V {r : Ru} {b : Nat} {h : List Blk} (hb : h[b]? = some (.cells 25 [.d (encRu r)])) : CallP Tryz.prog 40 [.ptr b 25 0 0] h (.d (.int .i64 (inC r.til 0 3652059))) := by
  refine callW tb_ok fn40 (by simp) (fun hok => ?_)
  have hbl := (List.getElem?_eq_some_iff.mp hb).1
  have hb' := (List.getElem?_eq_some_iff.mp hb).2
  simp (disch := first | omega | (simp; done) | (simp; omega)) [ltT, ltF, leT, leF, eqT', eqF, ltTn, leTn, ltFn, leFn, wrapI, mid, c40, hb, hb', hbl]
  refine (within_V r.til 0 3652059 _).useV ?_
  simp (disch := first | omega | (simp; done) | (simp; omega)) [ltT, ltF, leT, leF, eqT', eqF, ltTn, leTn, ltFn, leFn, wrapI, mid]

theorem validate_V (r : Ru) (h : List Blk) : CallP Tryz.prog 8 [.d (encRu r)] h (.d (encF (ruleF r))) := by
  refine callW tb_ok fn8 (by simp) (fun hok => ?_)
  simp (disch := first | omega | (simp; done) | (simp; omega)) [ltT, ltF, leT, leF, eqT', eqF, ltTn, leTn, ltFn, leFn, wrapI, mid, c8]
  refine W_loopA (ι := Nat) (fun i => i ≤ 8 ∧ firstC i ((codesR r).drop i) = ruleF r) (fun i => ⟨[(2, .ptr (h.length + 1) 27 0 0), (16, .agg [.clo 25 [.ptr h.length 25 0 0], .clo 26 [.ptr h.length 25 0 0], .clo 28 [.ptr h.length 25 0 0], .clo 31 [.ptr h.length 25 0 0], .clo 34 [.ptr h.length 25 0 0], .clo 37 [.ptr h.length 25 0 0], .clo 39 [.ptr h.length 25 0 0], .clo 40 [.ptr h.length 25 0 0]]), (17, .d (.int .i64 i))],
    h ++ [.cells 25 [.d (encRu r)], .cells 27 [.d (encF (0, 0))], .cells 58 [.agg [.clo 25 [.ptr h.length 25 0 0], .clo 26 [.ptr h.length 25 0 0], .clo 28 [.ptr h.length 25 0 0], .clo 31 [.ptr h.length 25 0 0], .clo 34 [.ptr h.length 25 0 0], .clo 37 [.ptr h.length 25 0 0], .clo 39 [.ptr h.length 25 0 0], .clo 40 [.ptr h.length 25 0 0]]]]⟩) (fun i => 8 - i) 0 ⟨by omega, rfl⟩ (Shift.slots' (by simp) (by simp)) ?_
  rintro i ⟨hi, hc⟩ A hA
  by_cases h8 : i = 8
  · subst h8
    have hc' : ((0 : Int), (0 : Int)) = ruleF r := hc
    simp (disch := first | omega | (simp; done) | (simp; omega)) [ltT, ltF, leT, leF, eqT', eqF, ltTn, leTn, ltFn, leFn, wrapI, mid, ← hc']
    exact rshift_d hok
  have h7 : i = 0 ∨ i = 1 ∨ i = 2 ∨ i = 3 ∨ i = 4 ∨ i = 5 ∨ i = 6 ∨ i = 7 := by omega
  rcases h7 with rfl | rfl | rfl | rfl | rfl | rfl | rfl | rfl
  · have hc' : firstC 0 ((if r.unit < 1 ∨ 4 < r.unit then 5 else 0) :: (codesR r).drop 1) = ruleF r := hc
    generalize hq : (if r.unit < 1 ∨ 4 < r.unit then 5 else 0 : Int) = q at hc'
    simp only [firstC] at hc'
    simp (disch := first | omega | (simp; done) | (simp; omega)) [ltT, ltF, leT, leF, eqT', eqF, ltTn, leTn, ltFn, leFn, wrapI, mid]
    refine (val1_V (r := r) (by simp)).useV ?_
    rw [hq]
    by_cases h0 : q = 0
    · rw [if_neg (by simpa using h0)] at hc'
      simp (disch := first | omega | (simp; done) | (simp; omega)) [ltT, ltF, leT, leF, eqT', eqF, ltTn, leTn, ltFn, leFn, wrapI, mid, h0]
      exact hA 1 _ ⟨by omega, hc'⟩ (by omega) (Shift.slots' (by simp) (by simp))
    · rw [if_pos h0] at hc'
      simp (disch := first | omega | (simp; done) | (simp; omega)) [ltT, ltF, leT, leF, eqT', eqF, ltTn, leTn, ltFn, leFn, wrapI, mid, h0, ← hc']
      exact rshift_d hok
  · have hc' : firstC 1 ((inC r.step 1 1000) :: (codesR r).drop 2) = ruleF r := hc
    generalize hq : (inC r.step 1 1000 : Int) = q at hc'
    simp only [firstC] at hc'
    simp (disch := first | omega | (simp; done) | (simp; omega)) [ltT, ltF, leT, leF, eqT', eqF, ltTn, leTn, ltFn, leFn, wrapI, mid]
    refine (val2_V (r := r) (by simp)).useV ?_
    rw [hq]
    by_cases h0 : q = 0
    · rw [if_neg (by simpa using h0)] at hc'
      simp (disch := first | omega | (simp; done) | (simp; omega)) [ltT, ltF, leT, leF, eqT', eqF, ltTn, leTn, ltFn, leFn, wrapI, mid, h0]
      exact hA 2 _ ⟨by omega, hc'⟩ (by omega) (Shift.slots' (by simp) (by simp))
    · rw [if_pos h0] at hc'
      simp (disch := first | omega | (simp; done) | (simp; omega)) [ltT, ltF, leT, leF, eqT', eqF, ltTn, leTn, ltFn, leFn, wrapI, mid, h0, ← hc']
      exact rshift_d hok
  · have hc' : firstC 2 ((checkS okM r.months) :: (codesR r).drop 3) = ruleF r := hc
    generalize hq : (checkS okM r.months : Int) = q at hc'
    simp only [firstC] at hc'
    simp (disch := first | omega | (simp; done) | (simp; omega)) [ltT, ltF, leT, leF, eqT', eqF, ltTn, leTn, ltFn, leFn, wrapI, mid]
    refine (val3_V (r := r) (by simp)).useV ?_
    rw [hq]
    by_cases h0 : q = 0
    · rw [if_neg (by simpa using h0)] at hc'
      simp (disch := first | omega | (simp; done) | (simp; omega)) [ltT, ltF, leT, leF, eqT', eqF, ltTn, leTn, ltFn, leFn, wrapI, mid, h0]
      exact hA 3 _ ⟨by omega, hc'⟩ (by omega) (Shift.slots' (by simp) (by simp))
    · rw [if_pos h0] at hc'
      simp (disch := first | omega | (simp; done) | (simp; omega)) [ltT, ltF, leT, leF, eqT', eqF, ltTn, leTn, ltFn, leFn, wrapI, mid, h0, ← hc']
      exact rshift_d hok
  · have hc' : firstC 3 ((checkS (okS 31) r.mdays) :: (codesR r).drop 4) = ruleF r := hc
    generalize hq : (checkS (okS 31) r.mdays : Int) = q at hc'
    simp only [firstC] at hc'
    simp (disch := first | omega | (simp; done) | (simp; omega)) [ltT, ltF, leT, leF, eqT', eqF, ltTn, leTn, ltFn, leFn, wrapI, mid]
    refine (val4_V (r := r) (by simp)).useV ?_
    rw [hq]
    by_cases h0 : q = 0
    · rw [if_neg (by simpa using h0)] at hc'
      simp (disch := first | omega | (simp; done) | (simp; omega)) [ltT, ltF, leT, leF, eqT', eqF, ltTn, leTn, ltFn, leFn, wrapI, mid, h0]
      exact hA 4 _ ⟨by omega, hc'⟩ (by omega) (Shift.slots' (by simp) (by simp))
    · rw [if_pos h0] at hc'
      simp (disch := first | omega | (simp; done) | (simp; omega)) [ltT, ltF, leT, leF, eqT', eqF, ltTn, leTn, ltFn, leFn, wrapI, mid, h0, ← hc']
      exact rshift_d hok
  · have hc' : firstC 4 ((checkS okW r.wds) :: (codesR r).drop 5) = ruleF r := hc
    generalize hq : (checkS okW r.wds : Int) = q at hc'
    simp only [firstC] at hc'
    simp (disch := first | omega | (simp; done) | (simp; omega)) [ltT, ltF, leT, leF, eqT', eqF, ltTn, leTn, ltFn, leFn, wrapI, mid]
    refine (val5_V (r := r) (by simp)).useV ?_
    rw [hq]
    by_cases h0 : q = 0
    · rw [if_neg (by simpa using h0)] at hc'
      simp (disch := first | omega | (simp; done) | (simp; omega)) [ltT, ltF, leT, leF, eqT', eqF, ltTn, leTn, ltFn, leFn, wrapI, mid, h0]
      exact hA 5 _ ⟨by omega, hc'⟩ (by omega) (Shift.slots' (by simp) (by simp))
    · rw [if_pos h0] at hc'
      simp (disch := first | omega | (simp; done) | (simp; omega)) [ltT, ltF, leT, leF, eqT', eqF, ltTn, leTn, ltFn, leFn, wrapI, mid, h0, ← hc']
      exact rshift_d hok
  · have hc' : firstC 5 ((checkS (okS 366) r.picks) :: (codesR r).drop 6) = ruleF r := hc
    generalize hq : (checkS (okS 366) r.picks : Int) = q at hc'
    simp only [firstC] at hc'
    simp (disch := first | omega | (simp; done) | (simp; omega)) [ltT, ltF, leT, leF, eqT', eqF, ltTn, leTn, ltFn, leFn, wrapI, mid]
    refine (val6_V (r := r) (by simp)).useV ?_
    rw [hq]
    by_cases h0 : q = 0
    · rw [if_neg (by simpa using h0)] at hc'
      simp (disch := first | omega | (simp; done) | (simp; omega)) [ltT, ltF, leT, leF, eqT', eqF, ltTn, leTn, ltFn, leFn, wrapI, mid, h0]
      exact hA 6 _ ⟨by omega, hc'⟩ (by omega) (Shift.slots' (by simp) (by simp))
    · rw [if_pos h0] at hc'
      simp (disch := first | omega | (simp; done) | (simp; omega)) [ltT, ltF, leT, leF, eqT', eqF, ltTn, leTn, ltFn, leFn, wrapI, mid, h0, ← hc']
      exact rshift_d hok
  · have hc' : firstC 6 ((inC r.count 0 20001) :: (codesR r).drop 7) = ruleF r := hc
    generalize hq : (inC r.count 0 20001 : Int) = q at hc'
    simp only [firstC] at hc'
    simp (disch := first | omega | (simp; done) | (simp; omega)) [ltT, ltF, leT, leF, eqT', eqF, ltTn, leTn, ltFn, leFn, wrapI, mid]
    refine (val7_V (r := r) (by simp)).useV ?_
    rw [hq]
    by_cases h0 : q = 0
    · rw [if_neg (by simpa using h0)] at hc'
      simp (disch := first | omega | (simp; done) | (simp; omega)) [ltT, ltF, leT, leF, eqT', eqF, ltTn, leTn, ltFn, leFn, wrapI, mid, h0]
      exact hA 7 _ ⟨by omega, hc'⟩ (by omega) (Shift.slots' (by simp) (by simp))
    · rw [if_pos h0] at hc'
      simp (disch := first | omega | (simp; done) | (simp; omega)) [ltT, ltF, leT, leF, eqT', eqF, ltTn, leTn, ltFn, leFn, wrapI, mid, h0, ← hc']
      exact rshift_d hok
  · have hc' : firstC 7 ((inC r.til 0 3652059) :: (codesR r).drop 8) = ruleF r := hc
    generalize hq : (inC r.til 0 3652059 : Int) = q at hc'
    simp only [firstC] at hc'
    simp (disch := first | omega | (simp; done) | (simp; omega)) [ltT, ltF, leT, leF, eqT', eqF, ltTn, leTn, ltFn, leFn, wrapI, mid]
    refine (val8_V (r := r) (by simp)).useV ?_
    rw [hq]
    by_cases h0 : q = 0
    · rw [if_neg (by simpa using h0)] at hc'
      simp (disch := first | omega | (simp; done) | (simp; omega)) [ltT, ltF, leT, leF, eqT', eqF, ltTn, leTn, ltFn, leFn, wrapI, mid, h0]
      exact hA 8 _ ⟨by omega, hc'⟩ (by omega) (Shift.slots' (by simp) (by simp))
    · rw [if_pos h0] at hc'
      simp (disch := first | omega | (simp; done) | (simp; omega)) [ltT, ltF, leT, leF, eqT', eqF, ltTn, leTn, ltFn, leFn, wrapI, mid, h0, ← hc']
      exact rshift_d hok

end Go.Vm
