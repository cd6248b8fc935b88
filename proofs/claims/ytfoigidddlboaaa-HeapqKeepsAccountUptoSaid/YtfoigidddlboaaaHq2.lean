/- check. -/
import Derived.Test.YtfoigidddlboaaaHq1
namespace Go.Vm
open Proofs
set_option maxRecDepth 10000
set_option maxHeartbeats 1000000
set_option linter.unusedSimpArgs false

@[simp] theorem cells_E (e : Ent) : D.cells (encE e) = [.str e.name, .int .i64 e.rank] := rfl
@[simp] theorem fold_E (e : Ent) : D.agg [.str e.name, .int .i64 e.rank] = encE e := rfl

def mpE (pre : List Ent) : List (D × AV) := pre.map fun e => (.str e.name, .d (.bool true))
def hasN (pre : List Ent) (k : List UInt8) : Bool := (pre.map Ent.name).contains k
theorem mapFind_E (k : List UInt8) : ∀ pre : List Ent, mapFind (.str k) (mpE pre) = some (if hasN pre k then some (.d (.bool true)) else none)
  | [] => rfl
  | e :: pre => by
    have ih := mapFind_E k pre
    simp only [mpE, List.map_cons, mapFind, keyEq, hasN, List.contains_cons] at ih ⊢
    by_cases h : k = e.name
    · simp [h]
    · simp only [h, ih, decide_false, Bool.false_eq_true, if_false]
      simp [h]
theorem mapPut_E {k : Ent} : ∀ {pre : List Ent}, hasN pre k.name = false → mapPut (.str k.name) (.d (.bool true)) (mpE pre) = some (mpE (pre ++ [k]))
  | [], _ => rfl
  | e :: pre, h => by
    simp only [hasN, List.map_cons, List.contains_cons, Bool.or_eq_false_iff, beq_eq_false_iff_ne, ne_eq] at h
    have ih := mapPut_E (pre := pre) h.2
    simp only [mpE, List.map_cons, List.cons_append, mapPut, keyEq] at ih ⊢
    simp [h.1, ih]

def codeAt (order : Bool) (pre : List Ent) (e : Ent) : Int :=
  if entFault e ≠ 0 then entFault e else if hasN pre e.name then 8 else if order = true ∧ pre ≠ [] ∧ cmpE e (pre.getD ((pre.length - 1) / 2) default) < 0 then 11 else 0
def chkFrom (order : Bool) : List Ent → List Ent → Int × Int
  | _, [] => (0, 0)
  | pre, e :: rest => if codeAt order pre e ≠ 0 then (codeAt order pre e, pre.length) else chkFrom order (pre ++ [e]) rest
def chk (order : Bool) (l : List Ent) : Int × Int := if 200 < l.length then (2, -1) else chkFrom order [] l
def encF (f : Int × Int) : D := .agg [.int .i64 f.1, .int .i64 f.2]

theorem bel_mpE {n : Nat} {pre : List Ent} : ∀ (a : D) (b : AV), (a, b) ∈ mpE pre → Bel n b := by
  intro a b hab
  simp only [mpE, List.mem_map, Prod.mk.injEq] at hab
  obtain ⟨_, _, _, rfl⟩ := hab
  exact .d _

theorem half_get {pre rest : List Ent} {x y : Ent} {k : Nat} (hy : pre[k]? = some y) : (List.map encE pre ++ encE x :: List.map encE rest)[k]? = some (encE y) := by
  rw [List.getElem?_append_left (by simpa using (List.getElem?_eq_some_iff.mp hy).1)]
  simp [hy]

theorem check_V (l : List Ent) (order : Bool) (h : List Blk) : CallP Try.prog 33 [.d (.sl 40 (l.map encE)), .d (.bool order)] h (.d (encF (chk order l))) := by
  refine callW tb_ok fn33 (by simp) (fun hok => ?_)
  by_cases hl : 200 < l.length
  · have hl' : (200 : Int) < l.length := by omega
    simp [c33, hl, hl', chk, encF, rshift_d hok]
  have hl' : ¬ (200 : Int) < l.length := by omega
  simp [c33, hl']
  refine W_loop (ι := List Ent × List Ent) (fun p => p.1 ++ p.2 = l ∧ chkFrom order p.1 p.2 = chkFrom order [] l) (fun p => ⟨[(0, .d (.sl 40 (l.map encE))), (1, .d (.bool order)), (4, .ptr h.length 24 0 0), (5, .map (h.length + 1)), (14, .d (.sl 40 (l.map encE))), (15, .d (.int .i64 l.length)), (16, .d (.int .i64 p.1.length))],
    h ++ [.cells 24 [.d (.agg [.int .i64 0, .int .i64 0])], .map (mpE p.1)]⟩) (fun p => p.2.length) ([], l) (by simp) (Shift.slots (by simp [look])) ?_
  rintro ⟨pre, rest⟩ ⟨hx, hc⟩
  simp only at hx hc
  subst hx
  cases rest with
  | nil =>
    simp only [chkFrom, List.append_nil] at hc
    have hl2 : ¬ 200 < pre.length := by simpa using hl
    simp [chk, hl2, ← hc, encF]
    exact rshift_d hok
  | cons x rest =>
    have hchk : chk order (pre ++ x :: rest) = chkFrom order pre (x :: rest) := by unfold chk; rw [if_neg hl, hc]
    have h1 : (pre.length : Int) < pre.length + (rest.length + 1) := by omega
    simp only [List.length_append, List.length_cons] at hl
    have hw : IntKind.i64.wrap ((pre.length : Int) + 1) = pre.length + 1 := wrap_ok (by omega) (by omega)
    simp [h1, mid, hw]
    refine (entry_V _ _).useV ?_
    by_cases he : entFault x = 0
    · have hmap : hasN pre x.name = true ∨ hasN pre x.name = false := by cases hasN pre x.name <;> simp
      rcases hmap with hm | hm
      · have hcode : codeAt order pre x = 8 := by simp [codeAt, he, hm]
        simp [he, mapFind_E, hm, hchk, chkFrom, hcode, encF]
        exact rshift_d hok
      · have hgo : ∀ (hcode : codeAt order pre x = 0), chkFrom order (pre ++ [x]) rest = chkFrom order [] (pre ++ x :: rest) := by
          intro hcode
          rw [← hc, chkFrom, if_neg (by simp [hcode])]
        cases order with
        | false =>
          have hcode : codeAt false pre x = 0 := by simp [codeAt, he, hm]
          simp [he, mapFind_E, hm, mapPut_E hm, hw]
          refine ⟨pre ++ [x], rest, ⟨by simp, hgo hcode⟩, Shift.weak' (g := [.cells 40 [.d (encE x)]]) (by simp) (HOk.append hok (by simp [BlkBel]; exact bel_mpE)) (by simp) (by simp), by omega⟩
        | true =>
          by_cases hp : pre = []
          · subst hp
            have hcode : codeAt true [] x = 0 := by simp [codeAt, he, hm]
            have hw1 : IntKind.i64.wrap 1 = 1 := wrap_ok (by omega) (by omega)
            simp [he, mapFind_E, hm, mapPut_E hm, hw, hw1]
            refine ⟨[x], rest, ⟨by simp, hgo hcode⟩, Shift.weak' (g := [.cells 40 [.d (encE x)]]) (by simp) (HOk.append hok (by simp [BlkBel]; exact bel_mpE)) (by simp) (by simp), by omega⟩
          · have h0 : 0 < pre.length := List.length_pos_iff.mpr hp
            have h0' : (0 : Int) < pre.length := by omega
            obtain ⟨k, hk⟩ : ∃ k, k = (pre.length - 1) / 2 := ⟨_, rfl⟩
            have hkl : k < pre.length := by omega
            have hwt : IntKind.i64.wrap ((IntKind.i64.wrap ((pre.length : Int) - 1)).tdiv 2) = (k : Int) := by
              rw [wrap_ok (n := (pre.length : Int) - 1) (by omega) (by omega), show (pre.length : Int) - 1 = ((pre.length - 1 : Nat) : Int) from by omega]
              show IntKind.i64.wrap (((pre.length - 1) / 2 : Nat) : Int) = _
              rw [wrap_ok (by omega) (by omega), hk]
            have hlt : (k : Int) < pre.length + (rest.length + 1) := by omega
            obtain ⟨y, hy⟩ : ∃ y, pre[k]? = some y := ⟨_, List.getElem?_eq_getElem hkl⟩
            have hgy : pre.getD ((pre.length - 1) / 2) default = y := by rw [← hk, List.getD, hy]; rfl
            simp [he, mapFind_E, hm, hp, h0, h0', hwt, hlt, half_get hy]
            refine (compare_V _ y _).useV ?_
            by_cases hcmp : cmpE x y < 0
            · have hcode : codeAt true pre x = 11 := by simp only [codeAt, he, hm, hgy]; simp [hp, hcmp]
              simp [hcmp, hchk, chkFrom, hcode, encF]
              exact rshift_d hok
            · have hcode : codeAt true pre x = 0 := by simp only [codeAt, he, hm, hgy]; simp [hp, hcmp]
              simp [hcmp, mapPut_E hm, hw]
              refine ⟨pre ++ [x], rest, ⟨by simp, hgo hcode⟩, Shift.weak' (g := [.cells 40 [.d (encE x)]]) (by simp) (HOk.append hok (by simp [BlkBel]; exact bel_mpE)) (by simp) (by simp), by omega⟩
    · have hcode : codeAt order pre x = entFault x := by simp [codeAt, he]
      simp [he, hchk, chkFrom, hcode, encF]
      exact rshift_d hok

end Go.Vm
