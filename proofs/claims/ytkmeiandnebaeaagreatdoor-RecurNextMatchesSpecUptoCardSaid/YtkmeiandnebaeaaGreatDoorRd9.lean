/- recur: the reference's small functions; the example. -/
import Derived.Test.YtkmeiandnebaeaaGreatDoorRd8
namespace Go.Vm
open Proofs
set_option maxRecDepth 20000
set_option maxHeartbeats 2000000
set_option linter.unusedSimpArgs false

theorem ints_V (a b : List Int) (h : List Blk) (hl : a.length < 1000000000) (hl2 : b.length < 1000000000) : CallP Tryz.prog 14 [.d (.sl 3 (a.map encI)), .d (.sl 3 (b.map encI))] h (.d (.bool (decide (a = b)))) := by
  refine callW tb_ok fn14 (by simp) (fun hok => ?_)
  by_cases hab : a.length = b.length
  · simp (disch := first | omega | (simp; done) | (simp; omega)) [ltT, ltF, leT, leF, eqT', eqF, ltTn, leTn, ltFn, leFn, wrapI, mid, c14]
    refine W_loopA (ι := List Int × List Int × List Int) (fun q => q.1 ++ q.2.1 = a ∧ q.1 ++ q.2.2 = b) (fun q => ⟨[(0, .d (.sl 3 (a.map encI))), (1, .d (.sl 3 (b.map encI))), (5, .d (.int .i64 q.1.length))], h⟩) (fun q => q.2.1.length) ([], a, b) ⟨rfl, rfl⟩ (Shift.slots' rfl (by simp)) ?_
    rintro ⟨pre, ra, rb⟩ ⟨hx, hy⟩ A hA
    simp only at hx hy
    subst hx
    subst hy
    cases ra with
    | nil =>
      have : rb = [] := by simpa using hab
      subst this
      simp (disch := first | omega | (simp; done) | (simp; omega)) [ltT, ltF, leT, leF, eqT', eqF, ltTn, leTn, ltFn, leFn, wrapI, mid]
    | cons x ra =>
      cases rb with
      | nil => simp at hab
      | cons y rb =>
        simp only [List.length_append, List.length_cons] at hl hl2 hab
        by_cases hp : x = y
        · simp (disch := first | omega | (simp; done) | (simp; omega)) [ltT, ltF, leT, leF, eqT', eqF, ltTn, leTn, ltFn, leFn, wrapI, mid, encI, hp]
          exact hA (pre ++ [x], ra, rb) _ ⟨by simp, by simp [hp]⟩ (by simp) (Shift.slots' rfl (by simp [encI, hp]))
        · simp (disch := first | omega | (simp; done) | (simp; omega)) [ltT, ltF, leT, leF, eqT', eqF, ltTn, leTn, ltFn, leFn, wrapI, mid, encI, hp]
  · have : ¬ a = b := fun e => hab (by rw [e])
    have h2 : ¬ ((a.length : Int) = (b.length : Int)) := by omega
    simp (disch := first | omega | (simp; done) | (simp; omega)) [ltT, ltF, leT, leF, eqT', eqF, ltTn, leTn, ltFn, leFn, wrapI, mid, c14, this, h2]

theorem has_V (l : List Int) (x : Int) (h : List Blk) (hl : l.length < 1000000000) : CallP Tryz.prog 44 [.d (.sl 3 (l.map encI)), .d (.int .i64 x)] h (.d (.bool (l.contains x))) := by
  refine callW tb_ok fn44 (by simp) (fun hok => ?_)
  simp (disch := first | omega | (simp; done) | (simp; omega)) [ltT, ltF, leT, leF, eqT', eqF, ltTn, leTn, ltFn, leFn, wrapI, mid, c44]
  refine W_loopA (ι := List Int × List Int) (fun q => q.1 ++ q.2 = l ∧ x ∉ q.1) (fun q => ⟨[(0, .d (.sl 3 (l.map encI))), (1, .d (.int .i64 x)), (5, .d (.int .i64 q.1.length))], h⟩) (fun q => q.2.length) ([], l) (by simp) (Shift.slots' rfl (by simp)) ?_
  rintro ⟨pre, rest⟩ ⟨hx, hn⟩ A hA
  simp only at hx hn
  subst hx
  cases rest with
  | nil =>
    have : ¬ x ∈ pre ++ [] := by simpa using hn
    simp (disch := first | omega | (simp; done) | (simp; omega)) [ltT, ltF, leT, leF, eqT', eqF, ltTn, leTn, ltFn, leFn, wrapI, mid, hn]
  | cons y rest =>
    simp only [List.length_append, List.length_cons] at hl
    by_cases hp : y = x
    · simp (disch := first | omega | (simp; done) | (simp; omega)) [ltT, ltF, leT, leF, eqT', eqF, ltTn, leTn, ltFn, leFn, wrapI, mid, encI, hp]
    · simp (disch := first | omega | (simp; done) | (simp; omega)) [ltT, ltF, leT, leF, eqT', eqF, ltTn, leTn, ltFn, leFn, wrapI, mid, encI, hp]
      exact hA (pre ++ [y], rest) _ ⟨by simp, by simp [hn]; exact fun e => hp e.symm⟩ (by simp) (Shift.slots' rfl (by simp [encI]))

theorem ref1 : refS r1 1 3 3 = [31, 59, 90] := by decide +kernel
theorem list1_eq : listS r1 1 3 = [31, 59, 90] := by
  have hb := bigN_eq
  have h := ref_end (r := r1) (s := 1) (most := 3) (k := 3) (by omega) (.inr (by rw [ref1]; decide)) (.inl (by omega))
  rw [← h, ref1]
theorem chk1 : chkF 1 r1 = (0, 0) := by decide
theorem listP1 : listP 1 r1 3 = ([31, 59, 90], (0, 0)) := by
  unfold listP
  rw [chk1, if_neg (by simp), if_neg (by omega)]
  show (listS r1 1 3, _) = _
  rw [list1_eq]
theorem nextP1 : nextP 1 r1 31 = (59, (0, 0)) := by
  unfold nextP
  rw [chk1, if_neg (by simp), if_neg (by omega)]
  have h := list_take r1 1 3
  rw [list1_eq] at h
  have hd : daysS r1 1 = 31 :: 59 :: 90 :: (daysS r1 1).drop 3 := by
    have := List.take_append_drop 3 (daysS r1 1)
    rw [← h] at this
    simpa using this.symm
  unfold nextOf
  rw [hd]
  rfl

theorem nil_r1 : NilL [.int .i64 3, .int .i64 1, .nilsl, .sl 3 [.int .i64 (-1)], .nilsl, .nilsl, .int .i64 0, .int .i64 0] [.int .i64 3, .int .i64 1, .sl 3 [], .sl 3 [.int .i64 (-1)], .sl 56 [], .sl 3 [], .int .i64 0, .int .i64 0] :=
  .eq _ (.eq _ (.ns 3 (.eq _ (.ns 56 (.ns 3 (.eq _ (.eq _ .nil)))))))

theorem recurred_V (h : List Blk) : CallP Tryz.prog 13 [] h (.d (.bool true)) := by
  refine callW tb_ok fn13 (by simp) (fun hok => ?_)
  have hle : LeA (.d (.agg [.int .i64 3, .int .i64 1, .nilsl, .sl 3 [.int .i64 (-1)], .nilsl, .nilsl, .int .i64 0, .int .i64 0])) (.d (encRu r1)) := nil_r1.le
  have hL := fun h => CallP.le (list_V 1 r1 3 h) (.cons (LeA.refl _) (.cons hle (.cons (LeA.refl _) .nil)))
  have hN := fun h => CallP.le (next_V 1 r1 31 h) (.cons (LeA.refl _) (.cons hle (.cons (LeA.refl _) .nil)))
  have hP := fun h => CallP.le (print1_V h) (.cons hle .nil)
  rw [listP1] at hL
  rw [nextP1] at hN
  simp (disch := first | omega | (simp; done) | (simp; omega)) [ltT, ltF, leT, leF, eqT', eqF, ltTn, leTn, ltFn, leFn, wrapI, mid, c13]
  refine (hL _).useV ?_
  simp (disch := first | omega | (simp; done) | (simp; omega)) [ltT, ltF, leT, leF, eqT', eqF, ltTn, leTn, ltFn, leFn, wrapI, mid]
  refine (hN _).useV ?_
  simp (disch := first | omega | (simp; done) | (simp; omega)) [ltT, ltF, leT, leF, eqT', eqF, ltTn, leTn, ltFn, leFn, wrapI, mid]
  refine (hP _).useV ?_
  simp (disch := first | omega | (simp; done) | (simp; omega)) [ltT, ltF, leT, leF, eqT', eqF, ltTn, leTn, ltFn, leFn, wrapI, mid]
  refine (ints_V [31, 59, 90] [31, 59, 90] _ (by decide) (by decide)).useV ?_
  simp (disch := first | omega | (simp; done) | (simp; omega)) [ltT, ltF, leT, leF, eqT', eqF, ltTn, leTn, ltFn, leFn, wrapI, mid, txt1]
  exact rshift_d hok

theorem bad_V {lo hi : Int} (L : List Int) (n : Nat) (hn : n < L.length) (ok : Int → Bool) (hok' : ∀ n, ok n = decide (n ≠ 0 ∧ lo ≤ n ∧ n ≤ hi)) (h : List Blk) (hl : L.length < 1000000) :
    CallP Tryz.prog 74 [.d (.sl 3 (L.map encI)), .d (.int .i64 n), .d (.int .i64 lo), .d (.int .i64 hi)] h (.d (.int .i64 (if ok L[n] = false then 4 else if L[n] ∈ L.take n then 8 else 0))) := by
  refine callW tb_ok fn74 (by simp) (fun hok => ?_)
  obtain ⟨res, hres⟩ : ∃ res : Int, (if ok L[n] = false then 4 else if L[n] ∈ L.take n then 8 else 0) = res := ⟨_, rfl⟩
  rw [hres]
  rw [hok'] at hres
  obtain ⟨x, hx⟩ : ∃ x, L[n] = x := ⟨_, rfl⟩
  rw [hx] at hres
  simp (disch := first | omega | (simp; done) | (simp; omega)) [ltT, ltF, leT, leF, eqT', eqF, ltTn, leTn, ltFn, leFn, wrapI, mid, c74, encI, hx]
  refine (in_V x lo hi _).useV ?_
  by_cases h1 : lo ≤ x ∧ x ≤ hi
  · by_cases h0 : x = 0
    · rw [if_pos (by simp [h0])] at hres
      simp (disch := first | omega | (simp; done) | (simp; omega)) [ltT, ltF, leT, leF, eqT', eqF, ltTn, leTn, ltFn, leFn, wrapI, mid, h1, hx, encI, eq_true h0, ← hres]
    · rw [if_neg (by simp [h0, h1])] at hres
      simp (disch := first | omega | (simp; done) | (simp; omega)) [ltT, ltF, leT, leF, eqT', eqF, ltTn, leTn, ltFn, leFn, wrapI, mid, h1, hx, encI, eq_false h0]
      refine W_loopA (ι := Nat) (fun k => k ≤ n ∧ ∀ j (hj : j < L.length), j < k → L[j] ≠ x) (fun k => ⟨[(0, .d (.sl 3 (L.map encI))), (1, .d (.int .i64 n)), (9, .d (.int .i64 k))], h⟩) (fun k => n - k) 0 ⟨by omega, fun j _ h => by omega⟩ (Shift.slots' rfl (by simp [encI])) ?_
      rintro k ⟨hk, hne⟩ A hA
      by_cases hkn : k = n
      · subst hkn
        rw [if_neg (by
          rw [List.mem_take_iff_getElem]
          rintro ⟨j, hj, e⟩
          exact hne j (by omega) (by omega) e)] at hres
        simp (disch := first | omega | (simp; done) | (simp; omega)) [ltT, ltF, leT, leF, eqT', eqF, ltTn, leTn, ltFn, leFn, wrapI, mid, ← hres]
      · have hkl : k < L.length := by omega
        obtain ⟨y, hy⟩ : ∃ y, L[k] = y := ⟨_, rfl⟩
        by_cases hp : y = x
        · rw [if_pos (by rw [List.mem_take_iff_getElem]; exact ⟨k, by omega, by rw [hy, hp]⟩)] at hres
          simp (disch := first | omega | (simp; done) | (simp; omega)) [ltT, ltF, leT, leF, eqT', eqF, ltTn, leTn, ltFn, leFn, wrapI, mid, encI, hx, hy, eq_true hp, ← hres]
        · simp (disch := first | omega | (simp; done) | (simp; omega)) [ltT, ltF, leT, leF, eqT', eqF, ltTn, leTn, ltFn, leFn, wrapI, mid, encI, hx, hy, eq_false hp]
          exact hA (k + 1) _ ⟨by omega, fun j hj hjk => by
            by_cases e : j = k
            · subst e; rw [hy]; exact hp
            · exact hne j hj (by omega)⟩ (by omega) (Shift.slots' rfl (by simp [encI]))
  · rw [if_pos (by simp; omega)] at hres
    simp (disch := first | omega | (simp; done) | (simp; omega)) [ltT, ltF, leT, leF, eqT', eqF, ltTn, leTn, ltFn, leFn, wrapI, mid, h1, ← hres]

theorem listFault_V {lo hi : Int} (l : List Int) (ok : Int → Bool) (hok' : ∀ n, ok n = decide (n ≠ 0 ∧ lo ≤ n ∧ n ≤ hi)) (h : List Blk) : CallP Tryz.prog 41 [.d (.sl 3 (l.map encI)), .d (.int .i64 lo), .d (.int .i64 hi)] h (.d (.int .i64 (checkS ok l))) := by
  refine callW tb_ok fn41 (by simp) (fun hok => ?_)
  unfold checkS
  by_cases h12 : 12 < l.length
  · rw [if_pos h12]
    simp (disch := first | omega | (simp; done) | (simp; omega)) [ltT, ltF, leT, leF, eqT', eqF, ltTn, leTn, ltFn, leFn, wrapI, mid, c41]
  · rw [if_neg h12]
    simp (disch := first | omega | (simp; done) | (simp; omega)) [ltT, ltF, leT, leF, eqT', eqF, ltTn, leTn, ltFn, leFn, wrapI, mid, c41]
    refine W_loopA (ι := Nat) (fun k => k ≤ l.length ∧ chkS ok (l.take k) (l.drop k) = chkS ok [] l) (fun k => ⟨[(0, .d (.sl 3 (l.map encI))), (1, .d (.int .i64 lo)), (2, .d (.int .i64 hi)), (7, .d (.int .i64 k))], h⟩) (fun k => l.length - k) 0 ⟨by omega, by simp⟩ (Shift.slots' rfl (by simp)) ?_
    rintro k ⟨hk, hc⟩ A hA
    by_cases hkn : k = l.length
    · subst hkn
      rw [List.drop_length] at hc
      simp only [chkS] at hc
      simp (disch := first | omega | (simp; done) | (simp; omega)) [ltT, ltF, leT, leF, eqT', eqF, ltTn, leTn, ltFn, leFn, wrapI, mid, ← hc]
    · have hkl : k < l.length := by omega
      rw [List.drop_eq_getElem_cons hkl] at hc
      simp only [chkS] at hc
      simp (disch := first | omega | (simp; done) | (simp; omega)) [ltT, ltF, leT, leF, eqT', eqF, ltTn, leTn, ltFn, leFn, wrapI, mid]
      refine (bad_V l k hkl ok hok' _ (by omega)).useV ?_
      by_cases h1 : ok l[k] = false
      · rw [if_pos h1] at hc ⊢
        simp (disch := first | omega | (simp; done) | (simp; omega)) [ltT, ltF, leT, leF, eqT', eqF, ltTn, leTn, ltFn, leFn, wrapI, mid, ← hc]
      · rw [if_neg h1] at hc ⊢
        by_cases h2 : l[k] ∈ l.take k
        · rw [if_pos h2] at hc ⊢
          simp (disch := first | omega | (simp; done) | (simp; omega)) [ltT, ltF, leT, leF, eqT', eqF, ltTn, leTn, ltFn, leFn, wrapI, mid, ← hc]
        · rw [if_neg h2] at hc ⊢
          simp (disch := first | omega | (simp; done) | (simp; omega)) [ltT, ltF, leT, leF, eqT', eqF, ltTn, leTn, ltFn, leFn, wrapI, mid]
          exact hA (k + 1) _ ⟨by omega, by rw [← hc, List.take_succ_eq_append_getElem hkl]⟩ (by omega) (Shift.slots' rfl (by simp))

end Go.Vm
