/- Merge, for one type of elements (by program, out of HqM.tmpl). -/
import Derived.Test.YtfoigidddlboaaaHq7
namespace Go.Vm
open Proofs
set_option maxRecDepth 10000
set_option maxHeartbeats 1000000
set_option linter.unusedSimpArgs false

def encLI (l : List Int) : D := .sl 3 (l.map encI)
@[simp] theorem cells_LI (l : List Int) : D.cells (encLI l) = [encLI l] := rfl

theorem indexFuncI_V (xs : List (List Int)) (g : FuncId) (caps : List AV) (p : List Int → Bool) (h : List Blk) (hl : xs.length < 1000000000)
    (hg : ∀ x ∈ xs, CallP Try.prog g ([.d (encLI x)] ++ caps) h (.d (.bool (p x)))) : CallP Try.prog 71 [.d (.sl 59 (xs.map encLI)), .clo g caps] h (.d (.int .i64 (idxFrom p 0 xs))) := by
  refine callW tb_ok fn71 (by simp) (fun hok => ?_)
  simp [c71]
  refine W_loop (ι := List (List Int) × List (List Int)) (fun q => q.1 ++ q.2 = xs ∧ idxFrom p q.1.length q.2 = idxFrom p 0 xs) (fun q => ⟨[(0, .d (.sl 59 (xs.map encLI))), (1, .clo g caps), (7, .d (.int .i64 xs.length)), (8, .d (.int .i64 q.1.length))], h⟩) (fun q => q.2.length) ([], xs) (by simp) (Shift.slots' rfl (by simp [look])) ?_
  rintro ⟨pre, rest⟩ ⟨hx, hc⟩
  simp only at hx hc
  subst hx
  cases rest with
  | nil =>
    simp only [idxFrom, List.append_nil] at hc
    simp [← hc]
  | cons x rest =>
    have h1 : (pre.length : Int) < pre.length + (rest.length + 1) := by omega
    simp only [List.length_append, List.length_cons] at hl
    have hw : IntKind.i64.wrap ((pre.length : Int) + 1) = pre.length + 1 := wrap_ok (by omega) (by omega)
    simp [h1, mid, hw]
    refine (hg x (by simp)).useV ?_
    by_cases hp : p x = true
    · have hr : idxFrom p 0 (pre ++ x :: rest) = pre.length := by rw [← hc, idxFrom, if_pos hp]
      simp [hp, hr]
    · have hp' : p x = false := by simpa using hp
      simp [hp', hw]
      refine ⟨pre ++ [x], rest, ⟨by simp, ?_⟩, Shift.slots' rfl (by simp), by omega⟩
      rw [← hc, idxFrom, if_neg hp]
      simp

theorem containsFuncI_V (xs : List (List Int)) (g : FuncId) (caps : List AV) (p : List Int → Bool) (h : List Blk) (hl : xs.length < 1000000000)
    (hg : ∀ x ∈ xs, CallP Try.prog g ([.d (encLI x)] ++ caps) h (.d (.bool (p x)))) : CallP Try.prog 63 [.d (.sl 59 (xs.map encLI)), .clo g caps] h (.d (.bool (xs.any p))) := by
  refine callW tb_ok fn63 (by simp) (fun hok => ?_)
  simp [c63]
  refine (indexFuncI_V xs g caps p h hl hg).useV ?_
  simp [idxFrom_any]

theorem closureI_V (g : FuncId) (less : Int → Int → Bool) (l other : List Int) (b1 b2 : Nat) (h : List Blk) (hne : l ≠ []) (h1 : h[b1]? = some (.cells 66 [.d (.fn g)])) (h2 : h[b2]? = some (.cells 59 [.d (encLI l)]))
    (hless : ∀ a b : Int, CallP Try.prog g [.d (encI a), .d (encI b)] h (.d (.bool (less a b)))) : CallP Try.prog 62 [.d (encLI other), .ptr b1 66 0 0, .ptr b2 59 0 0] h (.d (.bool (headLt less l other))) := by
  refine callW tb_ok fn62 (by simp) (fun hok => ?_)
  cases other with
  | nil => simp [c62, encLI, headLt]
  | cons y ys =>
    cases l with
    | nil => exact absurd rfl hne
    | cons x xs =>
      have h0 : (0 : Int) < (ys.length : Int) + 1 := by omega
      have h0' : (0 : Int) < (xs.length : Int) + 1 := by omega
      simp only [encLI, List.map_cons, encI] at h2
      simp [c62, encLI, encI, headLt, h0, h0', h1, h2]
      refine (hless y x).useV ?_
      simp

/-- Grow(nil, n): a builder with nothing in it (or nil, if n is 0). -/
theorem growI_V (n : Nat) (hn : n < 1000000000) (h : List Blk) : CallW Try.prog 72 [.d .nilsl, .d (.int .i64 n)] h fun x h' => (n = 0 ∧ x = .d .nilsl ∧ h' = h) ∨ (n ≠ 0 ∧ x = .bl h.length 59 [] ∧ h' = h ++ [.tail 59 0]) := by
  refine callW tb_ok fn72 (by simp) (fun hok => ?_)
  have hw : IntKind.i64.wrap (n : Int) = n := wrap_ok (by omega) (by omega)
  have hw0 : IntKind.i64.wrap 0 = 0 := wrap_ok (by omega) (by omega)
  have h0 : ¬ (n : Int) < 0 := by omega
  by_cases hz : n = 0
  · subst hz
    simp [c72, hw0]
  · have hp : (0 : Int) < n := by omega
    have hp' : 0 < n := by omega
    have h1 : (1 : Int) ≤ n := by omega
    have hfit : n * 24 ≤ 140737488355328 := by omega
    simp [c72, hw, hw0, h0, hz, hp, hp', h1, hfit]
    exact rshift_same' rfl (by simp)

theorem concatI_V (a b : List (List Int)) (ha : a.length < 400000000) (hb : b.length < 400000000) (h : List Blk) :
    CallP Try.prog 64 [.d (.sl 65 [.sl 59 (a.map encLI), .sl 59 (b.map encLI)])] h (.d (.sl 59 ((a ++ b).map encLI))) := by
  refine callW tb_ok fn64 (by simp) (fun hok => ?_)
  have hwA : IntKind.i64.wrap (a.length : Int) = a.length := wrap_ok (by omega) (by omega)
  have hwB : IntKind.i64.wrap ((a.length : Int) + b.length) = a.length + b.length := wrap_ok (by omega) (by omega)
  have hw1 : IntKind.i64.wrap 1 = 1 := wrap_ok (by omega) (by omega)
  have hw2 : IntKind.i64.wrap 2 = 2 := wrap_ok (by omega) (by omega)
  have hn1 : ¬ (a.length : Int) < 0 := by omega
  have hn2 : ¬ (a.length : Int) + b.length < 0 := by omega
  simp [c64]
  refine W_loop (ι := Nat) (fun i => i ≤ 2) (fun i => ⟨[(0, .d (.sl 65 [.sl 59 (a.map encLI), .sl 59 (b.map encLI)])), (9, .d (.sl 65 [.sl 59 (a.map encLI), .sl 59 (b.map encLI)])), (10, .d (.int .i64 2)), (11, .d (.int .i64 i)),
    (3, .d (.int .i64 (if i = 0 then 0 else if i = 1 then (a.length : Int) else a.length + b.length)))], h⟩) (fun i => 2 - i) 0 (by omega) (Shift.slots' rfl (by simp [look])) ?_
  rintro i hi
  match i, hi with
  | 0, _ =>
    simp [hwA, hn1, hw1]
    exact ⟨1, by omega, Shift.slots' rfl (by simp), by omega⟩
  | 1, _ =>
    simp [hwB, hn2, hw2]
    exact ⟨2, by omega, Shift.slots' rfl (by simp), by omega⟩
  | 2, _ =>
    simp
    refine callV_of (Q := fun x h' => (a.length + b.length = 0 ∧ x = .d .nilsl ∧ h' = h) ∨ (a.length + b.length ≠ 0 ∧ x = .bl h.length 59 [] ∧ h' = h ++ [.tail 59 0])) (by have := growI_V (a.length + b.length) (by omega) h; simpa using this) ?_
    rintro _ h' (⟨hz, rfl, hh⟩ | ⟨hz, rfl, hh⟩)
    all_goals
      have hh' := hh.symm
      clear hh
      subst hh'
      simp
      refine W_loop (ι := Nat) (fun i => i ≤ 2) (fun i => ⟨[(25, .d (.sl 65 [.sl 59 (a.map encLI), .sl 59 (b.map encLI)])), (26, .d (.int .i64 2)), (27, .d (.int .i64 i)),
        (6, .bl h.length 59 (if i = 0 then [] else if i = 1 then a.map encLI else a.map encLI ++ b.map encLI))], h ++ [.tail 59 (if i = 0 then 0 else if i = 1 then a.length else a.length + b.length)]⟩) (fun i => 2 - i) 0 (by omega) ?_ ?_
    · exact (Shift.nilbl (i := 6) 59 (by simp)).trans (Shift.slots' (by simp) (by simp))
    rotate_left
    · exact Shift.slots' (by simp) (by simp)
    all_goals
      rintro i hi
      have hf1 : a.length * 24 ≤ 140737488355328 := by omega
      have hf2 : (a.length + b.length) * 24 ≤ 140737488355328 := by omega
      match i, hi with
      | 0, _ =>
        simp [hf1, hw1]
        exact ⟨1, by omega, Shift.slots' (by simp) (by simp), by omega⟩
      | 1, _ =>
        simp [hf2, hw2]
        exact ⟨2, by omega, Shift.slots' (by simp) (by simp), by omega⟩
      | 2, _ =>
        simp
        exact rshift_subs (.bl _ _ _) (.d _) hok

theorem leastI_V (g : FuncId) (less : Int → Int → Bool) (lists : List (List Int)) (hl : lists.length < 100000000) (h : List Blk) (hless : ∀ (a b : Int) (h : List Blk), CallP Try.prog g [.d (encI a), .d (encI b)] h (.d (.bool (less a b)))) :
    CallP Try.prog 50 [.d (.sl 59 (lists.map encLI)), .d (.fn g)] h (.d (.int .i64 (leastFrom less (-1) [] lists))) := by
  refine callW tb_ok fn50 (by simp) (fun hok => ?_)
  simp [c50]
  refine W_loop (ι := List (List Int) × List (List Int) × Int) (fun q => q.1 ++ q.2.1 = lists ∧ leastFrom less q.2.2 q.1 q.2.1 = leastFrom less (-1) [] lists)
    (fun q => ⟨[(0, .d (.sl 59 (lists.map encLI))), (3, .ptr h.length 66 0 0), (5, .d (.int .i64 q.2.2)), (9, .d (.sl 59 (lists.map encLI))), (10, .d (.int .i64 lists.length)), (11, .d (.int .i64 q.1.length))], h ++ [.cells 66 [.d (.fn g)]]⟩) (fun q => q.2.1.length) ([], lists, -1) ⟨rfl, rfl⟩ (Shift.slots' rfl (by simp)) ?_
  rintro ⟨pre, rest, first⟩ ⟨hx, hc⟩
  simp only at hx hc
  subst hx
  cases rest with
  | nil =>
    simp only [leastFrom, List.append_nil] at hc
    simp [← hc]
    exact rshift_d hok
  | cons l rest =>
    have h1 : (pre.length : Int) < pre.length + (rest.length + 1) := by omega
    simp only [List.length_append, List.length_cons] at hl
    have hw : IntKind.i64.wrap ((pre.length : Int) + 1) = pre.length + 1 := wrap_ok (by omega) (by omega)
    by_cases he : l = []
    · subst he
      simp [h1, mid, hw, encLI]
      exact ⟨pre ++ [[]], rest, first, ⟨by simp, by rw [← hc, leastFrom, if_pos rfl]⟩, Shift.weak' (g := [.cells 59 [.d (.sl 3 [])]]) (by simp) (HOk.append hok (by simp [BlkBel])) (by simp) (by simp [encLI]), by omega⟩
    · have hpos : l.length ≠ 0 := fun e => he (List.eq_nil_of_length_eq_zero e)
      have hpos' : ¬ (l.length : Int) = 0 := by omega
      have hd : List.drop (pre.length + 1) (List.take ((pre.length : Int) + (rest.length + 1)).toNat (List.map encLI pre ++ D.sl 3 (List.map encI l) :: List.map encLI rest)) = List.map encLI rest := by
        have := drop_mid (a := List.map encLI pre) (b := List.map encLI rest) (x := D.sl 3 (List.map encI l)) (n := ((pre.length : Int) + (rest.length + 1)).toNat) (by simp; omega)
        simpa using this
      by_cases hf : first < 0
      · simp [h1, mid, hw, encLI, he, hpos, hpos', hf]
        refine ⟨by omega, ⟨by omega, by omega⟩, ?_⟩
        rw [hd]
        refine (concatI_V pre rest (by omega) (by omega) _).useV ?_
        simp
        rw [← List.map_append]
        refine (containsFuncI_V (pre ++ rest) 62 [.ptr h.length 66 0 0, .ptr (h.length + 1) 59 0 0] (headLt less l) (h ++ [.cells 66 [.d (.fn g)], .cells 59 [.d (encLI l)]]) (by simp; omega) (fun x _ => closureI_V g less l x _ _ _ he (by simp) (by simp [encLI]) (fun a b => hless a b _))).useV ?_
        cases hany : (pre ++ rest).any (headLt less l) with
        | true =>
          simp [hw]
          refine ⟨pre ++ [l], rest, pre.length, ⟨by simp, by rw [← hc, leastFrom, if_neg he]; simp only [hf, hany, if_true, if_false]⟩, Shift.weak' (g := [.cells 59 [.d (encLI l)]]) (by simp [encLI]) (HOk.append hok (by simp [BlkBel])) (by simp) (by simp [encLI]), by omega⟩
        | false =>
          have hr : leastFrom less (-1) [] (pre ++ l :: rest) = pre.length := by rw [← hc, leastFrom, if_neg he]; simp only [hany]; simp
          simp [hr]
          exact rshift_d hok
      · simp [h1, mid, hw, encLI, he, hpos, hpos', hf]
        refine ⟨by omega, ⟨by omega, by omega⟩, ?_⟩
        rw [hd]
        refine (concatI_V pre rest (by omega) (by omega) _).useV ?_
        simp
        rw [← List.map_append]
        refine (containsFuncI_V (pre ++ rest) 62 [.ptr h.length 66 0 0, .ptr (h.length + 1) 59 0 0] (headLt less l) (h ++ [.cells 66 [.d (.fn g)], .cells 59 [.d (encLI l)]]) (by simp; omega) (fun x _ => closureI_V g less l x _ _ _ he (by simp) (by simp [encLI]) (fun a b => hless a b _))).useV ?_
        cases hany : (pre ++ rest).any (headLt less l) with
        | true =>
          simp [hw]
          refine ⟨pre ++ [l], rest, first, ⟨by simp, by rw [← hc, leastFrom, if_neg he]; simp only [hf, hany, if_true, if_false]⟩, Shift.weak' (g := [.cells 59 [.d (encLI l)]]) (by simp [encLI]) (HOk.append hok (by simp [BlkBel])) (by simp) (by simp [encLI]), by omega⟩
        | false =>
          have hr : leastFrom less (-1) [] (pre ++ l :: rest) = pre.length := by rw [← hc, leastFrom, if_neg he]; simp only [hany]; simp
          simp [hr]
          exact rshift_d hok

theorem cloneLI_V (l : List (List Int)) (hl : l.length < 1000000000) (h : List Blk) :
    CallW Try.prog 49 [.d (.sl 59 (l.map encLI))] h fun x h' => (l = [] ∧ x = .d (.sl 59 []) ∧ h' = h) ∨ (l ≠ [] ∧ x = .ref h.length 59 0 l.length ∧ h' = h ++ [.cells 59 ((l.map encLI).map AV.d)]) := by
  refine callW tb_ok fn49 (by simp) (fun hok => ?_)
  cases l with
  | nil =>
    simp [c49]
    refine pbV_of (fun _ => ?_) (fun _ => ?_)
    · simp
      exact rshift_sub (by simp) (Nat.le_refl _)
    · simp
      exact rshift_sub (Sub.z0 59) (Nat.le_refl _)
  | cons x l =>
    simp only [List.length_cons] at hl
    have hl2 : (l.length + 1) * 24 ≤ 140737488355328 := by omega
    simp [c49]
    refine pbV_of (fun h => ?_) (fun _ => ?_)
    · cases h
    · simp [hl2]
      exact rshift_same' (by simp) (by simp)

theorem mergeI_V (g : FuncId) (less : Int → Int → Bool) (lists : List (List Int)) (hl : lists.length < 100000000) (ht : total lists < 2000000000000) (h : List Blk)
    (hless : ∀ (a b : Int) (h : List Blk), CallP Try.prog g [.d (encI a), .d (encI b)] h (.d (.bool (less a b)))) :
    CallP Try.prog 36 [.d (.sl 59 (lists.map encLI)), .d (.fn g)] h (.d (encLI (mergeF less (total lists) lists))) := by
  refine callW tb_ok fn36 (by simp) (fun hok => ?_)
  simp [c36]
  refine callV_of (cloneLI_V lists (by omega) h) ?_
  rintro _ h' (⟨hz, rfl, hh⟩ | ⟨hz, rfl, hh⟩)
  · have hh' := hh.symm
    clear hh
    subst hh'
    subst hz
    simp
    refine W_loop (ι := Unit) (fun _ => True) (fun _ => ⟨[(1, .d (.fn g)), (5, .d (.sl 59 [])), (6, .d .nilsl)], h⟩) (fun _ => 0) () trivial (Shift.slots' rfl (by simp)) ?_
    rintro _ _
    simp
    refine (leastI_V g less [] (by simp) _ hless).useV ?_
    simp [leastFrom, mergeF, total, encLI]
    exact rshift_sub (Sub.nil 3) (Nat.le_refl _)
  · subst hh
    simp
    refine W_loopA (ι := List (List Int) × List Int) (fun p => p.2 ++ mergeF less (total p.1) p.1 = mergeF less (total lists) lists ∧ p.1.length = lists.length ∧ total p.1 + p.2.length = total lists)
      (fun p => ⟨[(1, .d (.fn g)), (5, .ref h.length 59 0 lists.length), (6, .bl (h.length + 1) 3 (p.2.map encI))], h ++ [.cells 59 (p.1.map fun l => .d (encLI l)), .tail 3 p.2.length]⟩) (fun p => total p.1) (lists, []) ⟨rfl, rfl, rfl⟩
      ((Shift.nilbl (i := 6) 3 (by simp)).trans (Shift.slots' (by simp) (by simp))) ?_
    rintro ⟨ls, acc⟩ ⟨hR, hlen, hacc⟩ A hA
    simp only at hR hlen hacc
    simp
    refine (CallP.framed (ds := [.sl 59 (ls.map encLI), .fn g]) (leastI_V g less ls (by omega) _ hless) rfl (.cons ?_ (.cons (.d _) .nil))).useV ?_
    · have := AsData.ref (h := h ++ [.cells 59 (ls.map fun l => .d (encLI l)), .tail 3 acc.length]) (b := h.length) (e := 59) (ds := ls.map encLI) (off := 0) (len := lists.length) (by simp) (by simp [hlen])
      have e : ((ls.map encLI).drop 0).take lists.length = ls.map encLI := List.take_of_length_le (by simp [hlen])
      rw [e] at this
      exact this
    by_cases hneg : leastFrom less (-1) [] ls < 0
    · have hm := mergeF_none less (total ls) hneg
      rw [hm, List.append_nil] at hR
      simp [hneg, ← hR]
      exact rshift_subs (.bl _ _ _) (.d _) hok
    · obtain ⟨l, hk, hne⟩ := leastFrom_at less ls [] (-1) (by omega) (by omega)
      obtain ⟨k, hkk⟩ : ∃ k : Nat, leastFrom less (-1) [] ls = (k : Int) := ⟨_, (Int.toNat_of_nonneg (by omega)).symm⟩
      rw [hkk] at hk
      simp only [List.nil_append, Int.toNat_natCast] at hk
      cases l with
      | nil => exact absurd rfl hne
      | cons x r =>
        have hlt := (List.getElem?_eq_some_iff.mp hk).1
        have hm := mergeF_some less hkk hk
        have hts := total_set hk
        have hk2 : ls[k]'hlt = x :: r := (List.getElem?_eq_some_iff.mp hk).2
        have hlt2 : k < lists.length := by omega
        simp (disch := first | omega | (simp; done) | (simp; omega)) [ltT, ltF, leT, leF, eqT', eqF, ltTn, leTn, ltFn, leFn, wrapI, mid, hkk, hk, hlt, hlt2, hk2, encLI, hlen, encI]
        refine hA (ls.set k r, acc ++ [x]) _ ⟨?_, by simp; omega, by simp; omega⟩ (by simp; omega) (Shift.slots' ?_ (by simp [encI]))
        · rw [← hR, hm]; simp
        · have : List.take r.length (r.map encI) = r.map encI := List.take_of_length_le (by simp)
          simp [this, List.map_set, encLI]

end Go.Vm
