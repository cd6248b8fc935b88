/- Merge, for one type of elements (by program, out of HqM.tmpl). -/
import Derived.Test.YtfoigidddlboaaaHq7
namespace Go.Vm
open Proofs
set_option maxRecDepth 10000
set_option maxHeartbeats 1000000
set_option linter.unusedSimpArgs false

def encLE (l : List Ent) : D := .sl 40 (l.map encE)
@[simp] theorem cells_LE (l : List Ent) : D.cells (encLE l) = [encLE l] := rfl

theorem indexFuncE_V (xs : List (List Ent)) (g : FuncId) (caps : List AV) (p : List Ent → Bool) (h : List Blk) (hl : xs.length < 1000000000)
    (hg : ∀ x ∈ xs, CallP Try.prog g ([.d (encLE x)] ++ caps) h (.d (.bool (p x)))) : CallP Try.prog 67 [.d (.sl 22 (xs.map encLE)), .clo g caps] h (.d (.int .i64 (idxFrom p 0 xs))) := by
  refine callW tb_ok fn67 (by simp) (fun hok => ?_)
  simp [c67]
  refine W_loop (ι := List (List Ent) × List (List Ent)) (fun q => q.1 ++ q.2 = xs ∧ idxFrom p q.1.length q.2 = idxFrom p 0 xs) (fun q => ⟨[(0, .d (.sl 22 (xs.map encLE))), (1, .clo g caps), (7, .d (.int .i64 xs.length)), (8, .d (.int .i64 q.1.length))], h⟩) (fun q => q.2.length) ([], xs) (by simp) (Shift.slots' rfl (by simp [look])) ?_
  rintro ⟨pre, rest⟩ ⟨hx, hc⟩
  simp only at hx hc
  subst hx
  cases rest with
  | nil =>
    simp only [idxFrom, List.append_nil] at hc
    simp [← hc]
  | cons x rest =>
    have h1 : (pre.length : Int) < pre.length + (rest.length + 1) := by omega
    simp only [List.length_append, List.length_cons] at hl
    have hw : IntKind.i64.wrap ((pre.length : Int) + 1) = pre.length + 1 := wrap_ok (by omega) (by omega)
    simp [h1, mid, hw]
    refine (hg x (by simp)).useV ?_
    by_cases hp : p x = true
    · have hr : idxFrom p 0 (pre ++ x :: rest) = pre.length := by rw [← hc, idxFrom, if_pos hp]
      simp [hp, hr]
    · have hp' : p x = false := by simpa using hp
      simp [hp', hw]
      refine ⟨pre ++ [x], rest, ⟨by simp, ?_⟩, Shift.slots' rfl (by simp), by omega⟩
      rw [← hc, idxFrom, if_neg hp]
      simp

theorem containsFuncE_V (xs : List (List Ent)) (g : FuncId) (caps : List AV) (p : List Ent → Bool) (h : List Blk) (hl : xs.length < 1000000000)
    (hg : ∀ x ∈ xs, CallP Try.prog g ([.d (encLE x)] ++ caps) h (.d (.bool (p x)))) : CallP Try.prog 55 [.d (.sl 22 (xs.map encLE)), .clo g caps] h (.d (.bool (xs.any p))) := by
  refine callW tb_ok fn55 (by simp) (fun hok => ?_)
  simp [c55]
  refine (indexFuncE_V xs g caps p h hl hg).useV ?_
  simp [idxFrom_any]

theorem closureE_V (g : FuncId) (less : Ent → Ent → Bool) (l other : List Ent) (b1 b2 : Nat) (h : List Blk) (hne : l ≠ []) (h1 : h[b1]? = some (.cells 50 [.d (.fn g)])) (h2 : h[b2]? = some (.cells 22 [.d (encLE l)]))
    (hless : ∀ a b : Ent, CallP Try.prog g [.d (encE a), .d (encE b)] h (.d (.bool (less a b)))) : CallP Try.prog 54 [.d (encLE other), .ptr b1 50 0 0, .ptr b2 22 0 0] h (.d (.bool (headLt less l other))) := by
  refine callW tb_ok fn54 (by simp) (fun hok => ?_)
  cases other with
  | nil => simp [c54, encLE, headLt]
  | cons y ys =>
    cases l with
    | nil => exact absurd rfl hne
    | cons x xs =>
      have h0 : (0 : Int) < (ys.length : Int) + 1 := by omega
      have h0' : (0 : Int) < (xs.length : Int) + 1 := by omega
      simp only [encLE, List.map_cons, cells_E] at h2
      simp [c54, encLE, cells_E, headLt, h0, h0', h1, h2]
      refine (hless y x).useV ?_
      simp

/-- Grow(nil, n): a builder with nothing in it (or nil, if n is 0). -/
theorem growE_V (n : Nat) (hn : n < 1000000000) (h : List Blk) : CallW Try.prog 68 [.d .nilsl, .d (.int .i64 n)] h fun x h' => (n = 0 ∧ x = .d .nilsl ∧ h' = h) ∨ (n ≠ 0 ∧ x = .bl h.length 22 [] ∧ h' = h ++ [.tail 22 0]) := by
  refine callW tb_ok fn68 (by simp) (fun hok => ?_)
  have hw : IntKind.i64.wrap (n : Int) = n := wrap_ok (by omega) (by omega)
  have hw0 : IntKind.i64.wrap 0 = 0 := wrap_ok (by omega) (by omega)
  have h0 : ¬ (n : Int) < 0 := by omega
  by_cases hz : n = 0
  · subst hz
    simp [c68, hw0]
  · have hp : (0 : Int) < n := by omega
    have hp' : 0 < n := by omega
    have h1 : (1 : Int) ≤ n := by omega
    have hfit : n * 24 ≤ 140737488355328 := by omega
    simp [c68, hw, hw0, h0, hz, hp, hp', h1, hfit]
    exact rshift_same' rfl (by simp)

theorem concatE_V (a b : List (List Ent)) (ha : a.length < 400000000) (hb : b.length < 400000000) (h : List Blk) :
    CallP Try.prog 56 [.d (.sl 49 [.sl 22 (a.map encLE), .sl 22 (b.map encLE)])] h (.d (.sl 22 ((a ++ b).map encLE))) := by
  refine callW tb_ok fn56 (by simp) (fun hok => ?_)
  have hwA : IntKind.i64.wrap (a.length : Int) = a.length := wrap_ok (by omega) (by omega)
  have hwB : IntKind.i64.wrap ((a.length : Int) + b.length) = a.length + b.length := wrap_ok (by omega) (by omega)
  have hw1 : IntKind.i64.wrap 1 = 1 := wrap_ok (by omega) (by omega)
  have hw2 : IntKind.i64.wrap 2 = 2 := wrap_ok (by omega) (by omega)
  have hn1 : ¬ (a.length : Int) < 0 := by omega
  have hn2 : ¬ (a.length : Int) + b.length < 0 := by omega
  simp [c56]
  refine W_loop (ι := Nat) (fun i => i ≤ 2) (fun i => ⟨[(0, .d (.sl 49 [.sl 22 (a.map encLE), .sl 22 (b.map encLE)])), (9, .d (.sl 49 [.sl 22 (a.map encLE), .sl 22 (b.map encLE)])), (10, .d (.int .i64 2)), (11, .d (.int .i64 i)),
    (3, .d (.int .i64 (if i = 0 then 0 else if i = 1 then (a.length : Int) else a.length + b.length)))], h⟩) (fun i => 2 - i) 0 (by omega) (Shift.slots' rfl (by simp [look])) ?_
  rintro i hi
  match i, hi with
  | 0, _ =>
    simp [hwA, hn1, hw1]
    exact ⟨1, by omega, Shift.slots' rfl (by simp), by omega⟩
  | 1, _ =>
    simp [hwB, hn2, hw2]
    exact ⟨2, by omega, Shift.slots' rfl (by simp), by omega⟩
  | 2, _ =>
    simp
    refine callV_of (Q := fun x h' => (a.length + b.length = 0 ∧ x = .d .nilsl ∧ h' = h) ∨ (a.length + b.length ≠ 0 ∧ x = .bl h.length 22 [] ∧ h' = h ++ [.tail 22 0])) (by have := growE_V (a.length + b.length) (by omega) h; simpa using this) ?_
    rintro _ h' (⟨hz, rfl, hh⟩ | ⟨hz, rfl, hh⟩)
    all_goals
      have hh' := hh.symm
      clear hh
      subst hh'
      simp
      refine W_loop (ι := Nat) (fun i => i ≤ 2) (fun i => ⟨[(25, .d (.sl 49 [.sl 22 (a.map encLE), .sl 22 (b.map encLE)])), (26, .d (.int .i64 2)), (27, .d (.int .i64 i)),
        (6, .bl h.length 22 (if i = 0 then [] else if i = 1 then a.map encLE else a.map encLE ++ b.map encLE))], h ++ [.tail 22 (if i = 0 then 0 else if i = 1 then a.length else a.length + b.length)]⟩) (fun i => 2 - i) 0 (by omega) ?_ ?_
    · exact (Shift.nilbl (i := 6) 22 (by simp)).trans (Shift.slots' (by simp) (by simp))
    rotate_left
    · exact Shift.slots' (by simp) (by simp)
    all_goals
      rintro i hi
      have hf1 : a.length * 24 ≤ 140737488355328 := by omega
      have hf2 : (a.length + b.length) * 24 ≤ 140737488355328 := by omega
      match i, hi with
      | 0, _ =>
        simp [hf1, hw1]
        exact ⟨1, by omega, Shift.slots' (by simp) (by simp), by omega⟩
      | 1, _ =>
        simp [hf2, hw2]
        exact ⟨2, by omega, Shift.slots' (by simp) (by simp), by omega⟩
      | 2, _ =>
        simp
        exact rshift_subs (.bl _ _ _) (.d _) hok

theorem leastE_V (g : FuncId) (less : Ent → Ent → Bool) (lists : List (List Ent)) (hl : lists.length < 100000000) (h : List Blk) (hless : ∀ (a b : Ent) (h : List Blk), CallP Try.prog g [.d (encE a), .d (encE b)] h (.d (.bool (less a b)))) :
    CallP Try.prog 43 [.d (.sl 22 (lists.map encLE)), .d (.fn g)] h (.d (.int .i64 (leastFrom less (-1) [] lists))) := by
  refine callW tb_ok fn43 (by simp) (fun hok => ?_)
  simp [c43]
  refine W_loop (ι := List (List Ent) × List (List Ent) × Int) (fun q => q.1 ++ q.2.1 = lists ∧ leastFrom less q.2.2 q.1 q.2.1 = leastFrom less (-1) [] lists)
    (fun q => ⟨[(0, .d (.sl 22 (lists.map encLE))), (3, .ptr h.length 50 0 0), (5, .d (.int .i64 q.2.2)), (9, .d (.sl 22 (lists.map encLE))), (10, .d (.int .i64 lists.length)), (11, .d (.int .i64 q.1.length))], h ++ [.cells 50 [.d (.fn g)]]⟩) (fun q => q.2.1.length) ([], lists, -1) ⟨rfl, rfl⟩ (Shift.slots' rfl (by simp)) ?_
  rintro ⟨pre, rest, first⟩ ⟨hx, hc⟩
  simp only at hx hc
  subst hx
  cases rest with
  | nil =>
    simp only [leastFrom, List.append_nil] at hc
    simp [← hc]
    exact rshift_d hok
  | cons l rest =>
    have h1 : (pre.length : Int) < pre.length + (rest.length + 1) := by omega
    simp only [List.length_append, List.length_cons] at hl
    have hw : IntKind.i64.wrap ((pre.length : Int) + 1) = pre.length + 1 := wrap_ok (by omega) (by omega)
    by_cases he : l = []
    · subst he
      simp [h1, mid, hw, encLE]
      exact ⟨pre ++ [[]], rest, first, ⟨by simp, by rw [← hc, leastFrom, if_pos rfl]⟩, Shift.weak' (g := [.cells 22 [.d (.sl 40 [])]]) (by simp) (HOk.append hok (by simp [BlkBel])) (by simp) (by simp [encLE]), by omega⟩
    · have hpos : l.length ≠ 0 := fun e => he (List.eq_nil_of_length_eq_zero e)
      have hpos' : ¬ (l.length : Int) = 0 := by omega
      have hd : List.drop (pre.length + 1) (List.take ((pre.length : Int) + (rest.length + 1)).toNat (List.map encLE pre ++ D.sl 40 (List.map encE l) :: List.map encLE rest)) = List.map encLE rest := by
        have := drop_mid (a := List.map encLE pre) (b := List.map encLE rest) (x := D.sl 40 (List.map encE l)) (n := ((pre.length : Int) + (rest.length + 1)).toNat) (by simp; omega)
        simpa using this
      by_cases hf : first < 0
      · simp [h1, mid, hw, encLE, he, hpos, hpos', hf]
        refine ⟨by omega, ⟨by omega, by omega⟩, ?_⟩
        rw [hd]
        refine (concatE_V pre rest (by omega) (by omega) _).useV ?_
        simp
        rw [← List.map_append]
        refine (containsFuncE_V (pre ++ rest) 54 [.ptr h.length 50 0 0, .ptr (h.length + 1) 22 0 0] (headLt less l) (h ++ [.cells 50 [.d (.fn g)], .cells 22 [.d (encLE l)]]) (by simp; omega) (fun x _ => closureE_V g less l x _ _ _ he (by simp) (by simp [encLE]) (fun a b => hless a b _))).useV ?_
        cases hany : (pre ++ rest).any (headLt less l) with
        | true =>
          simp [hw]
          refine ⟨pre ++ [l], rest, pre.length, ⟨by simp, by rw [← hc, leastFrom, if_neg he]; simp only [hf, hany, if_true, if_false]⟩, Shift.weak' (g := [.cells 22 [.d (encLE l)]]) (by simp [encLE]) (HOk.append hok (by simp [BlkBel])) (by simp) (by simp [encLE]), by omega⟩
        | false =>
          have hr : leastFrom less (-1) [] (pre ++ l :: rest) = pre.length := by rw [← hc, leastFrom, if_neg he]; simp only [hany]; simp
          simp [hr]
          exact rshift_d hok
      · simp [h1, mid, hw, encLE, he, hpos, hpos', hf]
        refine ⟨by omega, ⟨by omega, by omega⟩, ?_⟩
        rw [hd]
        refine (concatE_V pre rest (by omega) (by omega) _).useV ?_
        simp
        rw [← List.map_append]
        refine (containsFuncE_V (pre ++ rest) 54 [.ptr h.length 50 0 0, .ptr (h.length + 1) 22 0 0] (headLt less l) (h ++ [.cells 50 [.d (.fn g)], .cells 22 [.d (encLE l)]]) (by simp; omega) (fun x _ => closureE_V g less l x _ _ _ he (by simp) (by simp [encLE]) (fun a b => hless a b _))).useV ?_
        cases hany : (pre ++ rest).any (headLt less l) with
        | true =>
          simp [hw]
          refine ⟨pre ++ [l], rest, first, ⟨by simp, by rw [← hc, leastFrom, if_neg he]; simp only [hf, hany, if_true, if_false]⟩, Shift.weak' (g := [.cells 22 [.d (encLE l)]]) (by simp [encLE]) (HOk.append hok (by simp [BlkBel])) (by simp) (by simp [encLE]), by omega⟩
        | false =>
          have hr : leastFrom less (-1) [] (pre ++ l :: rest) = pre.length := by rw [← hc, leastFrom, if_neg he]; simp only [hany]; simp
          simp [hr]
          exact rshift_d hok

theorem cloneLE_V (l : List (List Ent)) (hl : l.length < 1000000000) (h : List Blk) :
    CallW Try.prog 42 [.d (.sl 22 (l.map encLE))] h fun x h' => (l = [] ∧ x = .d (.sl 22 []) ∧ h' = h) ∨ (l ≠ [] ∧ x = .ref h.length 22 0 l.length ∧ h' = h ++ [.cells 22 ((l.map encLE).map AV.d)]) := by
  refine callW tb_ok fn42 (by simp) (fun hok => ?_)
  cases l with
  | nil =>
    simp [c42]
    refine pbV_of (fun _ => ?_) (fun _ => ?_)
    · simp
      exact rshift_sub (by simp) (Nat.le_refl _)
    · simp
      exact rshift_sub (Sub.z0 22) (Nat.le_refl _)
  | cons x l =>
    simp only [List.length_cons] at hl
    have hl2 : (l.length + 1) * 24 ≤ 140737488355328 := by omega
    simp [c42]
    refine pbV_of (fun h => ?_) (fun _ => ?_)
    · cases h
    · simp [hl2]
      exact rshift_same' (by simp) (by simp)

theorem mergeE_V (g : FuncId) (less : Ent → Ent → Bool) (lists : List (List Ent)) (hl : lists.length < 100000000) (ht : total lists < 2000000000000) (h : List Blk)
    (hless : ∀ (a b : Ent) (h : List Blk), CallP Try.prog g [.d (encE a), .d (encE b)] h (.d (.bool (less a b)))) :
    CallP Try.prog 26 [.d (.sl 22 (lists.map encLE)), .d (.fn g)] h (.d (encLE (mergeF less (total lists) lists))) := by
  refine callW tb_ok fn26 (by simp) (fun hok => ?_)
  simp [c26]
  refine callV_of (cloneLE_V lists (by omega) h) ?_
  rintro _ h' (⟨hz, rfl, hh⟩ | ⟨hz, rfl, hh⟩)
  · have hh' := hh.symm
    clear hh
    subst hh'
    subst hz
    simp
    refine W_loop (ι := Unit) (fun _ => True) (fun _ => ⟨[(1, .d (.fn g)), (5, .d (.sl 22 [])), (6, .d .nilsl)], h⟩) (fun _ => 0) () trivial (Shift.slots' rfl (by simp)) ?_
    rintro _ _
    simp
    refine (leastE_V g less [] (by simp) _ hless).useV ?_
    simp [leastFrom, mergeF, total, encLE]
    exact rshift_sub (Sub.nil 40) (Nat.le_refl _)
  · subst hh
    simp
    refine W_loopA (ι := List (List Ent) × List Ent) (fun p => p.2 ++ mergeF less (total p.1) p.1 = mergeF less (total lists) lists ∧ p.1.length = lists.length ∧ total p.1 + p.2.length = total lists)
      (fun p => ⟨[(1, .d (.fn g)), (5, .ref h.length 22 0 lists.length), (6, .bl (h.length + 1) 40 (p.2.map encE))], h ++ [.cells 22 (p.1.map fun l => .d (encLE l)), .tail 40 p.2.length]⟩) (fun p => total p.1) (lists, []) ⟨rfl, rfl, rfl⟩
      ((Shift.nilbl (i := 6) 40 (by simp)).trans (Shift.slots' (by simp) (by simp))) ?_
    rintro ⟨ls, acc⟩ ⟨hR, hlen, hacc⟩ A hA
    simp only at hR hlen hacc
    simp
    refine (CallP.framed (ds := [.sl 22 (ls.map encLE), .fn g]) (leastE_V g less ls (by omega) _ hless) rfl (.cons ?_ (.cons (.d _) .nil))).useV ?_
    · have := AsData.ref (h := h ++ [.cells 22 (ls.map fun l => .d (encLE l)), .tail 40 acc.length]) (b := h.length) (e := 22) (ds := ls.map encLE) (off := 0) (len := lists.length) (by simp) (by simp [hlen])
      have e : ((ls.map encLE).drop 0).take lists.length = ls.map encLE := List.take_of_length_le (by simp [hlen])
      rw [e] at this
      exact this
    by_cases hneg : leastFrom less (-1) [] ls < 0
    · have hm := mergeF_none less (total ls) hneg
      rw [hm, List.append_nil] at hR
      simp [hneg, ← hR]
      exact rshift_subs (.bl _ _ _) (.d _) hok
    · obtain ⟨l, hk, hne⟩ := leastFrom_at less ls [] (-1) (by omega) (by omega)
      obtain ⟨k, hkk⟩ : ∃ k : Nat, leastFrom less (-1) [] ls = (k : Int) := ⟨_, (Int.toNat_of_nonneg (by omega)).symm⟩
      rw [hkk] at hk
      simp only [List.nil_append, Int.toNat_natCast] at hk
      cases l with
      | nil => exact absurd rfl hne
      | cons x r =>
        have hlt := (List.getElem?_eq_some_iff.mp hk).1
        have hm := mergeF_some less hkk hk
        have hts := total_set hk
        have hk2 : ls[k]'hlt = x :: r := (List.getElem?_eq_some_iff.mp hk).2
        have hlt2 : k < lists.length := by omega
        simp (disch := first | omega | (simp; done) | (simp; omega)) [ltT, ltF, leT, leF, eqT', eqF, ltTn, leTn, ltFn, leFn, wrapI, mid, hkk, hk, hlt, hlt2, hk2, encLE, hlen, cells_E]
        refine hA (ls.set k r, acc ++ [x]) _ ⟨?_, by simp; omega, by simp; omega⟩ (by simp; omega) (Shift.slots' ?_ (by simp [cells_E]))
        · rw [← hR, hm]; simp
        · have : List.take r.length (r.map encE) = r.map encE := List.take_of_length_le (by simp)
          simp [this, List.map_set, encLE]

end Go.Vm
