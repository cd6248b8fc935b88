/- Merge, for one type of elements (by program, out of HqM.tmpl). -/
import Derived.Test.YtfoigidddlboaaaHq7
namespace Go.Vm
open Proofs
set_option maxRecDepth 10000
set_option maxHeartbeats 1000000
set_option linter.unusedSimpArgs false

def encLF (l : List (Int × Int)) : D := .sl 35 (l.map encF)
@[simp] theorem cells_LF (l : List (Int × Int)) : D.cells (encLF l) = [encLF l] := rfl

theorem indexFuncF_V (xs : List (List (Int × Int))) (g : FuncId) (caps : List AV) (p : List (Int × Int) → Bool) (h : List Blk) (hl : xs.length < 1000000000)
    (hg : ∀ x ∈ xs, CallP Try.prog g ([.d (encLF x)] ++ caps) h (.d (.bool (p x)))) : CallP Try.prog 65 [.d (.sl 33 (xs.map encLF)), .clo g caps] h (.d (.int .i64 (idxFrom p 0 xs))) := by
  refine callW tb_ok fn65 (by simp) (fun hok => ?_)
  simp [c65]
  refine W_loop (ι := List (List (Int × Int)) × List (List (Int × Int))) (fun q => q.1 ++ q.2 = xs ∧ idxFrom p q.1.length q.2 = idxFrom p 0 xs) (fun q => ⟨[(0, .d (.sl 33 (xs.map encLF))), (1, .clo g caps), (7, .d (.int .i64 xs.length)), (8, .d (.int .i64 q.1.length))], h⟩) (fun q => q.2.length) ([], xs) (by simp) (Shift.slots' rfl (by simp [look])) ?_
  rintro ⟨pre, rest⟩ ⟨hx, hc⟩
  simp only at hx hc
  subst hx
  cases rest with
  | nil =>
    simp only [idxFrom, List.append_nil] at hc
    simp [← hc]
  | cons x rest =>
    have h1 : (pre.length : Int) < pre.length + (rest.length + 1) := by omega
    simp only [List.length_append, List.length_cons] at hl
    have hw : IntKind.i64.wrap ((pre.length : Int) + 1) = pre.length + 1 := wrap_ok (by omega) (by omega)
    simp [h1, mid, hw]
    refine (hg x (by simp)).useV ?_
    by_cases hp : p x = true
    · have hr : idxFrom p 0 (pre ++ x :: rest) = pre.length := by rw [← hc, idxFrom, if_pos hp]
      simp [hp, hr]
    · have hp' : p x = false := by simpa using hp
      simp [hp', hw]
      refine ⟨pre ++ [x], rest, ⟨by simp, ?_⟩, Shift.slots' rfl (by simp), by omega⟩
      rw [← hc, idxFrom, if_neg hp]
      simp

theorem containsFuncF_V (xs : List (List (Int × Int))) (g : FuncId) (caps : List AV) (p : List (Int × Int) → Bool) (h : List Blk) (hl : xs.length < 1000000000)
    (hg : ∀ x ∈ xs, CallP Try.prog g ([.d (encLF x)] ++ caps) h (.d (.bool (p x)))) : CallP Try.prog 52 [.d (.sl 33 (xs.map encLF)), .clo g caps] h (.d (.bool (xs.any p))) := by
  refine callW tb_ok fn52 (by simp) (fun hok => ?_)
  simp [c52]
  refine (indexFuncF_V xs g caps p h hl hg).useV ?_
  simp [idxFrom_any]

theorem closureF_V (g : FuncId) (less : (Int × Int) → (Int × Int) → Bool) (l other : List (Int × Int)) (b1 b2 : Nat) (h : List Blk) (hne : l ≠ []) (h1 : h[b1]? = some (.cells 36 [.d (.fn g)])) (h2 : h[b2]? = some (.cells 33 [.d (encLF l)]))
    (hless : ∀ a b : (Int × Int), CallP Try.prog g [.d (encF a), .d (encF b)] h (.d (.bool (less a b)))) : CallP Try.prog 51 [.d (encLF other), .ptr b1 36 0 0, .ptr b2 33 0 0] h (.d (.bool (headLt less l other))) := by
  refine callW tb_ok fn51 (by simp) (fun hok => ?_)
  cases other with
  | nil => simp [c51, encLF, headLt]
  | cons y ys =>
    cases l with
    | nil => exact absurd rfl hne
    | cons x xs =>
      have h0 : (0 : Int) < (ys.length : Int) + 1 := by omega
      have h0' : (0 : Int) < (xs.length : Int) + 1 := by omega
      simp only [encLF, List.map_cons, cells_F] at h2
      simp [c51, encLF, cells_F, headLt, h0, h0', h1, h2]
      refine (hless y x).useV ?_
      simp

/-- Grow(nil, n): a builder with nothing in it (or nil, if n is 0). -/
theorem growF_V (n : Nat) (hn : n < 1000000000) (h : List Blk) : CallW Try.prog 66 [.d .nilsl, .d (.int .i64 n)] h fun x h' => (n = 0 ∧ x = .d .nilsl ∧ h' = h) ∨ (n ≠ 0 ∧ x = .bl h.length 33 [] ∧ h' = h ++ [.tail 33 0]) := by
  refine callW tb_ok fn66 (by simp) (fun hok => ?_)
  have hw : IntKind.i64.wrap (n : Int) = n := wrap_ok (by omega) (by omega)
  have hw0 : IntKind.i64.wrap 0 = 0 := wrap_ok (by omega) (by omega)
  have h0 : ¬ (n : Int) < 0 := by omega
  by_cases hz : n = 0
  · subst hz
    simp [c66, hw0]
  · have hp : (0 : Int) < n := by omega
    have hp' : 0 < n := by omega
    have h1 : (1 : Int) ≤ n := by omega
    have hfit : n * 24 ≤ 140737488355328 := by omega
    simp [c66, hw, hw0, h0, hz, hp, hp', h1, hfit]
    exact rshift_same' rfl (by simp)

theorem concatF_V (a b : List (List (Int × Int))) (ha : a.length < 400000000) (hb : b.length < 400000000) (h : List Blk) :
    CallP Try.prog 53 [.d (.sl 32 [.sl 33 (a.map encLF), .sl 33 (b.map encLF)])] h (.d (.sl 33 ((a ++ b).map encLF))) := by
  refine callW tb_ok fn53 (by simp) (fun hok => ?_)
  have hwA : IntKind.i64.wrap (a.length : Int) = a.length := wrap_ok (by omega) (by omega)
  have hwB : IntKind.i64.wrap ((a.length : Int) + b.length) = a.length + b.length := wrap_ok (by omega) (by omega)
  have hw1 : IntKind.i64.wrap 1 = 1 := wrap_ok (by omega) (by omega)
  have hw2 : IntKind.i64.wrap 2 = 2 := wrap_ok (by omega) (by omega)
  have hn1 : ¬ (a.length : Int) < 0 := by omega
  have hn2 : ¬ (a.length : Int) + b.length < 0 := by omega
  simp [c53]
  refine W_loop (ι := Nat) (fun i => i ≤ 2) (fun i => ⟨[(0, .d (.sl 32 [.sl 33 (a.map encLF), .sl 33 (b.map encLF)])), (9, .d (.sl 32 [.sl 33 (a.map encLF), .sl 33 (b.map encLF)])), (10, .d (.int .i64 2)), (11, .d (.int .i64 i)),
    (3, .d (.int .i64 (if i = 0 then 0 else if i = 1 then (a.length : Int) else a.length + b.length)))], h⟩) (fun i => 2 - i) 0 (by omega) (Shift.slots' rfl (by simp [look])) ?_
  rintro i hi
  match i, hi with
  | 0, _ =>
    simp [hwA, hn1, hw1]
    exact ⟨1, by omega, Shift.slots' rfl (by simp), by omega⟩
  | 1, _ =>
    simp [hwB, hn2, hw2]
    exact ⟨2, by omega, Shift.slots' rfl (by simp), by omega⟩
  | 2, _ =>
    simp
    refine callV_of (Q := fun x h' => (a.length + b.length = 0 ∧ x = .d .nilsl ∧ h' = h) ∨ (a.length + b.length ≠ 0 ∧ x = .bl h.length 33 [] ∧ h' = h ++ [.tail 33 0])) (by have := growF_V (a.length + b.length) (by omega) h; simpa using this) ?_
    rintro _ h' (⟨hz, rfl, hh⟩ | ⟨hz, rfl, hh⟩)
    all_goals
      have hh' := hh.symm
      clear hh
      subst hh'
      simp
      refine W_loop (ι := Nat) (fun i => i ≤ 2) (fun i => ⟨[(25, .d (.sl 32 [.sl 33 (a.map encLF), .sl 33 (b.map encLF)])), (26, .d (.int .i64 2)), (27, .d (.int .i64 i)),
        (6, .bl h.length 33 (if i = 0 then [] else if i = 1 then a.map encLF else a.map encLF ++ b.map encLF))], h ++ [.tail 33 (if i = 0 then 0 else if i = 1 then a.length else a.length + b.length)]⟩) (fun i => 2 - i) 0 (by omega) ?_ ?_
    · exact (Shift.nilbl (i := 6) 33 (by simp)).trans (Shift.slots' (by simp) (by simp))
    rotate_left
    · exact Shift.slots' (by simp) (by simp)
    all_goals
      rintro i hi
      have hf1 : a.length * 24 ≤ 140737488355328 := by omega
      have hf2 : (a.length + b.length) * 24 ≤ 140737488355328 := by omega
      match i, hi with
      | 0, _ =>
        simp [hf1, hw1]
        exact ⟨1, by omega, Shift.slots' (by simp) (by simp), by omega⟩
      | 1, _ =>
        simp [hf2, hw2]
        exact ⟨2, by omega, Shift.slots' (by simp) (by simp), by omega⟩
      | 2, _ =>
        simp
        exact rshift_subs (.bl _ _ _) (.d _) hok

theorem leastF_V (g : FuncId) (less : (Int × Int) → (Int × Int) → Bool) (lists : List (List (Int × Int))) (hl : lists.length < 100000000) (h : List Blk) (hless : ∀ (a b : (Int × Int)) (h : List Blk), CallP Try.prog g [.d (encF a), .d (encF b)] h (.d (.bool (less a b)))) :
    CallP Try.prog 40 [.d (.sl 33 (lists.map encLF)), .d (.fn g)] h (.d (.int .i64 (leastFrom less (-1) [] lists))) := by
  refine callW tb_ok fn40 (by simp) (fun hok => ?_)
  simp [c40]
  refine W_loop (ι := List (List (Int × Int)) × List (List (Int × Int)) × Int) (fun q => q.1 ++ q.2.1 = lists ∧ leastFrom less q.2.2 q.1 q.2.1 = leastFrom less (-1) [] lists)
    (fun q => ⟨[(0, .d (.sl 33 (lists.map encLF))), (3, .ptr h.length 36 0 0), (5, .d (.int .i64 q.2.2)), (9, .d (.sl 33 (lists.map encLF))), (10, .d (.int .i64 lists.length)), (11, .d (.int .i64 q.1.length))], h ++ [.cells 36 [.d (.fn g)]]⟩) (fun q => q.2.1.length) ([], lists, -1) ⟨rfl, rfl⟩ (Shift.slots' rfl (by simp)) ?_
  rintro ⟨pre, rest, first⟩ ⟨hx, hc⟩
  simp only at hx hc
  subst hx
  cases rest with
  | nil =>
    simp only [leastFrom, List.append_nil] at hc
    simp [← hc]
    exact rshift_d hok
  | cons l rest =>
    have h1 : (pre.length : Int) < pre.length + (rest.length + 1) := by omega
    simp only [List.length_append, List.length_cons] at hl
    have hw : IntKind.i64.wrap ((pre.length : Int) + 1) = pre.length + 1 := wrap_ok (by omega) (by omega)
    by_cases he : l = []
    · subst he
      simp [h1, mid, hw, encLF]
      exact ⟨pre ++ [[]], rest, first, ⟨by simp, by rw [← hc, leastFrom, if_pos rfl]⟩, Shift.weak' (g := [.cells 33 [.d (.sl 35 [])]]) (by simp) (HOk.append hok (by simp [BlkBel])) (by simp) (by simp [encLF]), by omega⟩
    · have hpos : l.length ≠ 0 := fun e => he (List.eq_nil_of_length_eq_zero e)
      have hpos' : ¬ (l.length : Int) = 0 := by omega
      have hd : List.drop (pre.length + 1) (List.take ((pre.length : Int) + (rest.length + 1)).toNat (List.map encLF pre ++ D.sl 35 (List.map encF l) :: List.map encLF rest)) = List.map encLF rest := by
        have := drop_mid (a := List.map encLF pre) (b := List.map encLF rest) (x := D.sl 35 (List.map encF l)) (n := ((pre.length : Int) + (rest.length + 1)).toNat) (by simp; omega)
        simpa using this
      by_cases hf : first < 0
      · simp [h1, mid, hw, encLF, he, hpos, hpos', hf]
        refine ⟨by omega, ⟨by omega, by omega⟩, ?_⟩
        rw [hd]
        refine (concatF_V pre rest (by omega) (by omega) _).useV ?_
        simp
        rw [← List.map_append]
        refine (containsFuncF_V (pre ++ rest) 51 [.ptr h.length 36 0 0, .ptr (h.length + 1) 33 0 0] (headLt less l) (h ++ [.cells 36 [.d (.fn g)], .cells 33 [.d (encLF l)]]) (by simp; omega) (fun x _ => closureF_V g less l x _ _ _ he (by simp) (by simp [encLF]) (fun a b => hless a b _))).useV ?_
        cases hany : (pre ++ rest).any (headLt less l) with
        | true =>
          simp [hw]
          refine ⟨pre ++ [l], rest, pre.length, ⟨by simp, by rw [← hc, leastFrom, if_neg he]; simp only [hf, hany, if_true, if_false]⟩, Shift.weak' (g := [.cells 33 [.d (encLF l)]]) (by simp [encLF]) (HOk.append hok (by simp [BlkBel])) (by simp) (by simp [encLF]), by omega⟩
        | false =>
          have hr : leastFrom less (-1) [] (pre ++ l :: rest) = pre.length := by rw [← hc, leastFrom, if_neg he]; simp only [hany]; simp
          simp [hr]
          exact rshift_d hok
      · simp [h1, mid, hw, encLF, he, hpos, hpos', hf]
        refine ⟨by omega, ⟨by omega, by omega⟩, ?_⟩
        rw [hd]
        refine (concatF_V pre rest (by omega) (by omega) _).useV ?_
        simp
        rw [← List.map_append]
        refine (containsFuncF_V (pre ++ rest) 51 [.ptr h.length 36 0 0, .ptr (h.length + 1) 33 0 0] (headLt less l) (h ++ [.cells 36 [.d (.fn g)], .cells 33 [.d (encLF l)]]) (by simp; omega) (fun x _ => closureF_V g less l x _ _ _ he (by simp) (by simp [encLF]) (fun a b => hless a b _))).useV ?_
        cases hany : (pre ++ rest).any (headLt less l) with
        | true =>
          simp [hw]
          refine ⟨pre ++ [l], rest, first, ⟨by simp, by rw [← hc, leastFrom, if_neg he]; simp only [hf, hany, if_true, if_false]⟩, Shift.weak' (g := [.cells 33 [.d (encLF l)]]) (by simp [encLF]) (HOk.append hok (by simp [BlkBel])) (by simp) (by simp [encLF]), by omega⟩
        | false =>
          have hr : leastFrom less (-1) [] (pre ++ l :: rest) = pre.length := by rw [← hc, leastFrom, if_neg he]; simp only [hany]; simp
          simp [hr]
          exact rshift_d hok

theorem cloneLF_V (l : List (List (Int × Int))) (hl : l.length < 1000000000) (h : List Blk) :
    CallW Try.prog 39 [.d (.sl 33 (l.map encLF))] h fun x h' => (l = [] ∧ x = .d (.sl 33 []) ∧ h' = h) ∨ (l ≠ [] ∧ x = .ref h.length 33 0 l.length ∧ h' = h ++ [.cells 33 ((l.map encLF).map AV.d)]) := by
  refine callW tb_ok fn39 (by simp) (fun hok => ?_)
  cases l with
  | nil =>
    simp [c39]
    refine pbV_of (fun _ => ?_) (fun _ => ?_)
    · simp
      exact rshift_sub (by simp) (Nat.le_refl _)
    · simp
      exact rshift_sub (Sub.z0 33) (Nat.le_refl _)
  | cons x l =>
    simp only [List.length_cons] at hl
    have hl2 : (l.length + 1) * 24 ≤ 140737488355328 := by omega
    simp [c39]
    refine pbV_of (fun h => ?_) (fun _ => ?_)
    · cases h
    · simp [hl2]
      exact rshift_same' (by simp) (by simp)

theorem mergeF_V (g : FuncId) (less : (Int × Int) → (Int × Int) → Bool) (lists : List (List (Int × Int))) (hl : lists.length < 100000000) (ht : total lists < 2000000000000) (h : List Blk)
    (hless : ∀ (a b : (Int × Int)) (h : List Blk), CallP Try.prog g [.d (encF a), .d (encF b)] h (.d (.bool (less a b)))) :
    CallP Try.prog 15 [.d (.sl 33 (lists.map encLF)), .d (.fn g)] h (.d (encLF (mergeF less (total lists) lists))) := by
  refine callW tb_ok fn15 (by simp) (fun hok => ?_)
  simp [c15]
  refine callV_of (cloneLF_V lists (by omega) h) ?_
  rintro _ h' (⟨hz, rfl, hh⟩ | ⟨hz, rfl, hh⟩)
  · have hh' := hh.symm
    clear hh
    subst hh'
    subst hz
    simp
    refine W_loop (ι := Unit) (fun _ => True) (fun _ => ⟨[(1, .d (.fn g)), (5, .d (.sl 33 [])), (6, .d .nilsl)], h⟩) (fun _ => 0) () trivial (Shift.slots' rfl (by simp)) ?_
    rintro _ _
    simp
    refine (leastF_V g less [] (by simp) _ hless).useV ?_
    simp [leastFrom, mergeF, total, encLF]
    exact rshift_sub (Sub.nil 35) (Nat.le_refl _)
  · subst hh
    simp
    refine W_loopA (ι := List (List (Int × Int)) × List (Int × Int)) (fun p => p.2 ++ mergeF less (total p.1) p.1 = mergeF less (total lists) lists ∧ p.1.length = lists.length ∧ total p.1 + p.2.length = total lists)
      (fun p => ⟨[(1, .d (.fn g)), (5, .ref h.length 33 0 lists.length), (6, .bl (h.length + 1) 35 (p.2.map encF))], h ++ [.cells 33 (p.1.map fun l => .d (encLF l)), .tail 35 p.2.length]⟩) (fun p => total p.1) (lists, []) ⟨rfl, rfl, rfl⟩
      ((Shift.nilbl (i := 6) 35 (by simp)).trans (Shift.slots' (by simp) (by simp))) ?_
    rintro ⟨ls, acc⟩ ⟨hR, hlen, hacc⟩ A hA
    simp only at hR hlen hacc
    simp
    refine (CallP.framed (ds := [.sl 33 (ls.map encLF), .fn g]) (leastF_V g less ls (by omega) _ hless) rfl (.cons ?_ (.cons (.d _) .nil))).useV ?_
    · have := AsData.ref (h := h ++ [.cells 33 (ls.map fun l => .d (encLF l)), .tail 35 acc.length]) (b := h.length) (e := 33) (ds := ls.map encLF) (off := 0) (len := lists.length) (by simp) (by simp [hlen])
      have e : ((ls.map encLF).drop 0).take lists.length = ls.map encLF := List.take_of_length_le (by simp [hlen])
      rw [e] at this
      exact this
    by_cases hneg : leastFrom less (-1) [] ls < 0
    · have hm := mergeF_none less (total ls) hneg
      rw [hm, List.append_nil] at hR
      simp [hneg, ← hR]
      exact rshift_subs (.bl _ _ _) (.d _) hok
    · obtain ⟨l, hk, hne⟩ := leastFrom_at less ls [] (-1) (by omega) (by omega)
      obtain ⟨k, hkk⟩ : ∃ k : Nat, leastFrom less (-1) [] ls = (k : Int) := ⟨_, (Int.toNat_of_nonneg (by omega)).symm⟩
      rw [hkk] at hk
      simp only [List.nil_append, Int.toNat_natCast] at hk
      cases l with
      | nil => exact absurd rfl hne
      | cons x r =>
        have hlt := (List.getElem?_eq_some_iff.mp hk).1
        have hm := mergeF_some less hkk hk
        have hts := total_set hk
        have hk2 : ls[k]'hlt = x :: r := (List.getElem?_eq_some_iff.mp hk).2
        have hlt2 : k < lists.length := by omega
        simp (disch := first | omega | (simp; done) | (simp; omega)) [ltT, ltF, leT, leF, eqT', eqF, ltTn, leTn, ltFn, leFn, wrapI, mid, hkk, hk, hlt, hlt2, hk2, encLF, hlen, cells_F]
        refine hA (ls.set k r, acc ++ [x]) _ ⟨?_, by simp; omega, by simp; omega⟩ (by simp; omega) (Shift.slots' ?_ (by simp [cells_F]))
        · rw [← hR, hm]; simp
        · have : List.take r.length (r.map encF) = r.map encF := List.take_of_length_le (by simp)
          simp [this, List.map_set, encLF]

end Go.Vm
