/- Out of a law's contract: its row. -/
import Derived.Test.YtfoigidddlboaaaRows
import Derived.Test.YtfoigidddlboaaaVmR
import Derived.Test.YtfoigidddlboaaaHqZ
import Derived.Test.YtfoigidddlboaaaHqMP
import Derived.JoinedCond
namespace Go.Vm
open Proofs Proofs.Ytfoigidddlboaaa Go.ChangeShapes Go.WideShapes Go.ChangeAt Go.RowKit
set_option maxRecDepth 100000

theorem tryOwn : ownKnob Try.prog.godebug = none := by kernel_rfl
theorem tryLaid : laidOutB Try.prog = true := by kernel_rfl

theorem one_le {H : Type} (d : DataW H) : 1 ≤ Rows.uptoBulk d := by
  cases d with
  | lit l => cases l <;> simp [Rows.uptoBulk]
  | _ => simp [Rows.uptoBulk]
theorem part_le {H : Type} {d : DataW H} {l : List (DataW H)} (h : d ∈ l) : Rows.uptoBulk d ≤ Rows.uptoBulkAll l := by
  induction l with
  | nil => cases h
  | cons x r ih =>
    simp only [Rows.uptoBulkAll]
    rcases List.mem_cons.1 h with e | e
    · subst e; omega
    · have := ih e; omega
theorem length_le {H : Type} (l : List (DataW H)) : l.length ≤ Rows.uptoBulkAll l := by
  induction l with
  | nil => simp
  | cons x r ih => have := one_le x; simp only [Rows.uptoBulkAll, List.length_cons]; omega
theorem bulk_ok {H : Type} : Bulk (H := H) Rows.uptoBulk where
  str := fun s => by simp [Rows.uptoBulk]
  len := fun es sp => by have := length_le es; simp only [Rows.uptoBulk]; omega
  elem := fun es sp e he => by have := part_le he; simp only [Rows.uptoBulk]; omega
  part := fun ps p hp => by have := part_le hp; simp only [Rows.uptoBulk]; omega
theorem bulk_part {H : Type} {l : List (DataW H)} (hk : Rows.uptoSmall H l = true) {d : DataW H} (h : d ∈ l) : Rows.uptoBulk d ≤ 1048576 := by
  have h1 : Rows.uptoBulkAll l ≤ 1048576 := of_decide_eq_true hk
  have := part_le h
  omega

/-- An entry that may come in. -/
structure Ent.ok (e : Ent) : Prop where
  name : e.name.length ≤ 1048576
  rank : (Lit.int .i64 e.rank).wf = true

theorem shp_ent {n : Nat} {ds : List D} (h : ShpC tb 1048576 (n + 2) 40 ds) : ∃ e : Ent, ds = [.str e.name, .int .i64 e.rank] ∧ e.ok := by
  obtain ⟨parts, rfl, hl, hp⟩ := shp_struct tbget40 h
  obtain ⟨p0, h0, s0⟩ := hp 0 0 9 rfl
  obtain ⟨p1, h1, s1⟩ := hp 1 1 3 rfl
  match parts, hl with
  | [a, b], _ =>
    simp only [List.getElem?_cons_zero, List.getElem?_cons_succ, Option.some.injEq] at h0 h1
    subst h0; subst h1
    obtain ⟨s, rfl, hs⟩ := shp_str tbget9 s0
    obtain ⟨i, rfl, hi⟩ := shp_int tbget3 s1
    exact ⟨⟨s, i⟩, rfl, hs, hi⟩

theorem shp_ents {n : Nat} {ds : List D} (h : ShpC tb 1048576 (n + 3) 22 ds) : ∃ l : List Ent, ds = [.sl 40 (l.map encE)] ∧ l.length ≤ 1048576 ∧ ∀ e ∈ l, e.ok := by
  obtain ⟨xs, rfl, hl, hx⟩ := shp_sl tbget22 tbget40 h
  obtain ⟨l, h1, h2, h3⟩ := shp_list (agg := true) (enc := encE) (ok := Ent.ok) (fun x hx' => by
    obtain ⟨e, rfl, he⟩ := shp_ent hx'
    exact ⟨e, rfl, he⟩) hx
  refine ⟨l, ?_, by omega, h3⟩
  show [D.sl 40 (xs.map (packD true))] = _
  rw [h1]

theorem shp_entsl {n : Nat} {ds : List D} (h : ShpC tb 1048576 (n + 4) 32 ds) : ∃ l : List (List (Int × Int)), ds = [.sl 33 (l.map encLF)] ∧ l.length ≤ 1048576 ∧ ∀ e ∈ l, e.length ≤ 1048576 := by
  obtain ⟨xs, rfl, hl, hx⟩ := shp_sl tbget32 tbget33 h
  obtain ⟨l, h1, h2, h3⟩ := shp_list (agg := false) (enc := encLF) (ok := fun l : List (Int × Int) => l.length ≤ 1048576) (fun x hx' => by
    obtain ⟨ys, rfl, hl', hy⟩ := shp_sl tbget33 tbget35 hx'
    obtain ⟨l', h4, h5, _⟩ := shp_list (agg := true) (enc := encF) (ok := fun _ => True) (fun y hy' => by
      obtain ⟨parts, rfl, hpl, hp⟩ := shp_arr tbget35 hy'
      match parts, hpl with
      | [a, b], _ =>
        obtain ⟨i, rfl, _⟩ := shp_int tbget3 (hp a (by simp))
        obtain ⟨j, rfl, _⟩ := shp_int tbget3 (hp b (by simp))
        exact ⟨(i, j), rfl, trivial⟩) hy
    exact ⟨l', by show D.sl 35 (ys.map (packD true)) = _; rw [h4]; rfl, by omega⟩) hx
  refine ⟨l, ?_, by omega, h3⟩
  show [D.sl 33 (xs.map (packD false))] = _
  rw [h1]
theorem shp_i {n : Nat} {ds : List D} (h : ShpC tb 1048576 (n + 1) 3 ds) : ∃ i, ds = [.int .i64 i] ∧ (Lit.int .i64 i).wf = true := shp_int tbget3 h
theorem shp_s {n : Nat} {ds : List D} (h : ShpC tb 1048576 (n + 1) 9 ds) : ∃ s, ds = [.str s] ∧ s.length ≤ 1048576 := shp_str tbget9 h

theorem shp_ints {n : Nat} {ds : List D} (h : ShpC tb 1048576 (n + 2) 59 ds) : ∃ l : List Int, ds = [.sl 3 (l.map encI)] ∧ l.length ≤ 1048576 ∧ True := by
  obtain ⟨xs, rfl, hl, hx⟩ := shp_sl tbget59 tbget3 h
  obtain ⟨l, h1, h2, _⟩ := shp_list (agg := false) (enc := encI) (ok := fun _ => True) (fun x hx' => by
    obtain ⟨i, rfl, _⟩ := shp_int tbget3 hx'
    exact ⟨i, rfl, trivial⟩) hx
  refine ⟨l, ?_, by omega, trivial⟩
  show [D.sl 3 (xs.map (packD false))] = _
  rw [h1]
theorem shp_strs {n : Nat} {ds : List D} (h : ShpC tb 1048576 (n + 2) 60 ds) : ∃ l : List (List UInt8), ds = [.sl 9 (l.map encS)] ∧ l.length ≤ 1048576 ∧ True := by
  obtain ⟨xs, rfl, hl, hx⟩ := shp_sl tbget60 tbget9 h
  obtain ⟨l, h1, h2, _⟩ := shp_list (agg := false) (enc := encS) (ok := fun _ => True) (fun x hx' => by
    obtain ⟨i, rfl, _⟩ := shp_str tbget9 hx'
    exact ⟨i, rfl, trivial⟩) hx
  refine ⟨l, ?_, by omega, trivial⟩
  show [D.sl 9 (xs.map (packD false))] = _
  rw [h1]

theorem argsOf {w : World} (ps : List (D × Value)) (h : ∀ p ∈ ps, FRep (psz Try.prog) w.cell? p.1 p.2) : (ps.map fun p => AV.d p.1).length = (ps.map (·.2)).toArray.size ∧
    ∀ (i : Nat) (x : AV), (ps.map fun p => AV.d p.1)[i]? = some x → ∃ d v, x = .d d ∧ (ps.map (·.2)).toArray[i]? = some v ∧ FRep (psz Try.prog) w.cell? d v := by
  refine ⟨by simp, fun i x hx => ?_⟩
  simp only [List.getElem?_map, Option.map_eq_some_iff] at hx
  obtain ⟨p, hp, rfl⟩ := hx
  exact ⟨p.1, p.2, rfl, by simp [hp], h p (List.mem_of_getElem? hp)⟩

theorem total_le {l : List (List (Int × Int))} (h : ∀ e ∈ l, e.length ≤ 1048576) : total l ≤ l.length * 1048576 := by
  induction l with
  | nil => simp [total]
  | cons x r ih =>
    have := ih (fun e he => h e (List.mem_cons_of_mem _ he))
    have := h x (by simp)
    simp only [total, List.length_cons, Nat.add_mul]
    omega

end Go.Vm
