/- Build, Pop, Drain. -/
import Derived.Test.YtfoigidddlboaaaHq4
namespace Go.Vm
open Proofs
set_option maxRecDepth 10000
set_option maxHeartbeats 1000000
set_option linter.unusedSimpArgs false

theorem blkE_eq (l : List Ent) : blkE l = .cells 40 ((l.map encE).map AV.d) := by simp [blkE]
@[simp] theorem cells_F (f : Int × Int) : D.cells (encF f) = [.int .i64 f.1, .int .i64 f.2] := rfl
@[simp] theorem fold_F (a b : Int) : D.agg [.int .i64 a, .int .i64 b] = encF (a, b) := rfl

@[simp high] theorem field_F0 (f : Int × Int) : fieldAV tb 24 (.d (encF f)) 0 = some (True, .d (.int .i64 f.1)) := by simp [-fold_F, encF]
@[simp] theorem fold_zE : D.agg [.str [], .int .i64 0] = encE ⟨[], 0⟩ := rfl

def heapF (n : Nat) : Nat → List Ent → List Ent
  | 0, l => l
  | i + 1, l => heapF n i (downF n n l i)
theorem length_heapF (n : Nat) : ∀ (i : Nat) (l : List Ent), (heapF n i l).length = l.length
  | 0, _ => rfl
  | i + 1, l => by simp only [heapF]; rw [length_heapF, length_downF]

def buildF (l : List Ent) : List Ent × (Int × Int) := if (chk false l).1 = 0 then (heapF l.length (l.length / 2) l, (0, 0)) else ([], chk false l)
def encQF (r : List Ent × (Int × Int)) : AV := .tup [.d (.sl 40 (r.1.map encE)), .d (encF r.2)]

theorem build_V (l : List Ent) (hl : l.length < 2000000) (h : List Blk) : CallP Try.prog 12 [.d (.sl 40 (l.map encE))] h (encQF (buildF l)) := by
  refine callW tb_ok fn12 (by simp) (fun hok => ?_)
  simp [c12]
  refine (check_V l false _).useV ?_
  by_cases hc : (chk false l).1 = 0
  · simp [hc]
    refine callV_of (clone_V l hl _) ?_
    rintro _ _ (⟨rfl, rfl, rfl⟩ | ⟨hne, rfl, rfl⟩)
    · have hw : IntKind.i64.wrap (-1) = -1 := wrap_ok (by omega) (by omega)
      have hw0 : IntKind.i64.wrap 0 = 0 := wrap_ok (by omega) (by omega)
      simp [hw, hw0]
      refine W_loop (ι := Unit) (fun _ => True) (fun _ => ⟨[(6, .d (.int .i64 (-1))), (5, .d (.sl 40 [])), (3, .ptr h.length 24 0 0)], h ++ [.cells 24 [.d (encF (0, 0))], .cells 24 [.d (encF (chk false []))]]⟩) (fun _ => 0) () trivial
        (Shift.slots' (by simp) (by simp)) ?_
      rintro _ _
      simp [hw, buildF, hc, encQF, heapF]
      exact rshift_subs (by simp) (by simp) hok
    · have hpos : 0 < l.length := List.length_pos_iff.mpr hne
      obtain ⟨n, hn⟩ : ∃ n, n = l.length / 2 := ⟨_, rfl⟩
      have hw : IntKind.i64.wrap ((l.length : Int) / 2) = (n : Int) := by rw [wrap_ok (by omega) (by omega)]; omega
      have hw1 : IntKind.i64.wrap ((n : Int) - 1) = (n : Int) - 1 := wrap_ok (by omega) (by omega)
      simp [hw, hw1]
      refine W_loop (ι := Nat × List Ent) (fun p => heapF l.length p.1 p.2 = heapF l.length n l ∧ p.2.length = l.length ∧ p.1 ≤ n) (fun p => ⟨[(6, .d (.int .i64 ((p.1 : Int) - 1))), (5, .ref (h.length + 2) 40 0 l.length), (3, .ptr h.length 24 0 0)],
        h ++ [.cells 24 [.d (encF (0, 0))], .cells 24 [.d (encF (chk false l))], blkE p.2]⟩) (fun p => p.1) (n, l) ⟨rfl, rfl, Nat.le_refl _⟩
        (Shift.slots' (by simp) (by simp)) ?_
      rintro ⟨j, l'⟩ ⟨hR, hlen, hj⟩
      simp only at hR hlen hj
      cases j with
      | zero =>
        simp only [heapF] at hR
        simp [buildF, hc, encQF, ← hn, ← hR]
        exact rshift_frz (b := h.length + 2) (e := 40) (ds := l'.map encE) (by simp [blkE_eq]) (by simp) hok (by simp [← hlen, List.take_of_length_le]) (by simp)
      | succ j =>
        have hw2 : IntKind.i64.wrap ((j : Int) - 1) = (j : Int) - 1 := wrap_ok (by omega) (by omega)
        simp
        refine callV_of (down_V l.length l' j (h.length + 2) _ (by simp) (by omega) hl (by omega)) ?_
        rintro _ _ ⟨rfl, rfl⟩
        simp [hw2]
        exact ⟨j, downF l.length l.length l' j, ⟨hR, by rw [length_downF]; exact hlen, by omega⟩, Shift.slots' (by simp) (by simp), by omega⟩
  · simp [hc, buildF, encQF]
    exact rshift_subs (by simp) (by simp) hok

theorem validate_V (l : List Ent) (h : List Blk) : CallP Try.prog 10 [.d (.sl 40 (l.map encE))] h (.d (encF (chk true l))) := by
  refine callW tb_ok fn10 (by simp) (fun hok => ?_)
  simp [c10]
  refine (check_V l true _).useV ?_
  simp
  exact rshift_d hok

def zeroE : Ent := ⟨[], 0⟩
def popF (l : List Ent) : List Ent × Ent × (Int × Int) :=
  if (chk true l).1 ≠ 0 then ([], zeroE, chk true l) else match l with
    | [] => ([], zeroE, (10, -1))
    | x :: r => ((withoutF (r.length + 1) (x :: r) 0).take r.length, x, (0, 0))
def encQEF (r : List Ent × Ent × (Int × Int)) : AV := .tup [.d (.sl 40 (r.1.map encE)), .d (encE r.2.1), .d (encF r.2.2)]

theorem pop_V (l : List Ent) (hl : l.length < 2000000) (h : List Blk) : CallP Try.prog 18 [.d (.sl 40 (l.map encE))] h (encQEF (popF l)) := by
  refine callW tb_ok fn18 (by simp) (fun hok => ?_)
  simp [c18]
  refine (validate_V l _).useV ?_
  by_cases hc : (chk true l).1 = 0
  · cases l with
    | nil =>
      simp [hc, popF, encQEF, zeroE]
      exact rshift_subs (by simp) (by simp) hok
    | cons x r =>
      have h0 : ¬ (r.length : Int) + 1 = 0 := by omega
      have h1 : (0 : Int) < (r.length : Int) + 1 := by omega
      simp only [List.length_cons] at hl
      simp [hc, h0]
      refine regV_nil ?_
      simp [h1]
      refine callV_of (clone_V (x :: r) (by simpa using hl) _) ?_
      rintro _ _ (⟨h, _, _⟩ | ⟨_, rfl, rfl⟩)
      · simp at h
      simp
      refine callV_of (without_V (r.length + 1) (x :: r) 0 (_ + 3) _ (by simp) (by simp) (by omega) (by omega)) ?_
      rintro _ _ ⟨rfl, rfl⟩
      simp [popF, hc, encQEF]
      exact rshift_frz (b := h.length + 3) (e := 40) (ds := (withoutF (r.length + 1) (x :: r) 0).map encE) (by simp [blkE_eq]) (by simp) hok (by simp [length_withoutF]) (by simp)
  · simp [hc]
    refine regV_at (h ++ [.gone, .gone, .cells 24 [.d (encF (chk true l))]]) (by simp) ?_
    simp [hc, popF, encQEF, zeroE]
    exact rshift_subs (by simp) (by simp) hok

def drainL : Nat → List Ent → List Ent
  | 0, _ => []
  | k + 1, l => l.getD 0 default :: drainL k (withoutF (k + 1) l 0)
def drainF (l : List Ent) : List Ent × (Int × Int) := if (chk true l).1 = 0 then (drainL l.length l, (0, 0)) else ([], chk true l)

theorem drain_V (l : List Ent) (hl : l.length < 2000000) (h : List Blk) : CallP Try.prog 19 [.d (.sl 40 (l.map encE))] h (encQF (drainF l)) := by
  refine callW tb_ok fn19 (by simp) (fun hok => ?_)
  simp [c19]
  refine (validate_V l _).useV ?_
  by_cases hc : (chk true l).1 = 0
  · simp [hc]
    refine callV_of (clone_V l hl _) ?_
    rintro _ _ (⟨rfl, rfl, rfl⟩ | ⟨hne, rfl, rfl⟩)
    · simp
      refine W_loop (ι := Unit) (fun _ => True) (fun _ => ⟨[(6, .d .nilsl), (5, .d (.sl 40 [])), (3, .ptr h.length 24 0 0)], h ++ [.cells 24 [.d (encF (0, 0))], .cells 24 [.d (encF (chk true []))]]⟩) (fun _ => 0) () trivial
        (Shift.slots' (by simp) (by simp)) ?_
      rintro _ _
      simp [drainF, hc, encQF, drainL]
      exact rshift_subs (by simp) (by simp) hok
    · simp
      refine W_loop (ι := Nat × List Ent × List Ent) (fun p => p.2.2 ++ drainL p.1 p.2.1 = drainL l.length l ∧ p.2.1.length = l.length ∧ p.1 ≤ l.length ∧ p.2.2.length + p.1 = l.length)
        (fun p => ⟨[(6, .bl (h.length + 3) 40 (p.2.2.map encE)), (5, .ref (h.length + 2) 40 0 p.1), (3, .ptr h.length 24 0 0)],
        h ++ [.cells 24 [.d (encF (0, 0))], .cells 24 [.d (encF (chk true l))], blkE p.2.1, .tail 40 p.2.2.length]⟩) (fun p => p.1) (l.length, l, []) ⟨rfl, rfl, Nat.le_refl _, by simp⟩
        ((Shift.nilbl (i := 6) 40 (by simp)).trans (Shift.slots' (by simp) (by simp))) ?_
      rintro ⟨k, l', acc⟩ ⟨hR, hlen, hk, hacc⟩
      simp only at hR hlen hk hacc
      cases k with
      | zero =>
        simp only [drainL, List.append_nil] at hR
        simp [drainF, hc, encQF, ← hR]
        exact rshift_subs (by simp) (by simp) hok
      | succ k =>
        have h0 : (0 : Int) < (k : Int) + 1 := by omega
        have hl0 : 0 < l'.length := by omega
        obtain ⟨x, hx, hx'⟩ : ∃ x, l'[0]? = some x ∧ l'[0]'(by omega) = x := ⟨_, List.getElem?_eq_getElem (by omega), rfl⟩
        have hfit : (acc.length + 1) * 24 ≤ 140737488355328 := by omega
        simp [h0, hl0, blkE, hx, hx', hfit]
        refine callV_of (without_V (k + 1) l' 0 (h.length + 2) _ (by simp [blkE]) (by omega) (by omega) (by omega)) ?_
        rintro _ _ ⟨rfl, rfl⟩
        simp
        refine ⟨k, withoutF (k + 1) l' 0, acc ++ [x], ⟨?_, by rw [length_withoutF]; exact hlen, by omega, by simp; omega⟩, Shift.slots' (by simp [blkE]) (by simp), by omega⟩
        rw [← hR]
        simp only [drainL, getD_of hx, List.append_assoc, List.singleton_append]
  · simp [hc, drainF, encQF]
    exact rshift_subs (by simp) (by simp) hok

end Go.Vm
