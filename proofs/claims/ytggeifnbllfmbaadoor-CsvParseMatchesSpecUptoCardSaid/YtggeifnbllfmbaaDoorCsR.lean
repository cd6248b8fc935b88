/- csv: out of a law's contract: its row and its card. -/
import Derived.Test.YtggeifnbllfmbaaDoorCards
import Derived.Test.YtggeifnbllfmbaaDoorTie
import Derived.Test.YtggeifnbllfmbaaDoorVMd
import Derived.Test.YtggeifnbllfmbaaDoorCsA
import Derived.JoinedCond
import Derived.Deep.DeepHandedRow
import Derived.Lib.LaidTab
import Derived.Lib.LaidIn
import Derived.Lib.LaidU8T
import Derived.Shelf.Vars
set_option linter.unusedSimpArgs false
namespace Go.Vm
open Proofs Proofs.YtggeifnbllfmbaaDoor Go.ChangeShapes Go.WideShapes Go.ChangeAt Go.RowKit Go.Lib
set_option maxRecDepth 100000

theorem tryOwn : ownKnob Tryd.prog.godebug = none := by kernel_rfl
theorem tryLaid : laidOutB Tryd.prog = true := by kernel_rfl

theorem one_le {H : Type} (d : DataW H) : 1 ≤ Rows.uptoBulk d := by
  cases d with
  | lit l => cases l <;> simp [Rows.uptoBulk]
  | _ => simp [Rows.uptoBulk]
theorem part_le {H : Type} {d : DataW H} {l : List (DataW H)} (h : d ∈ l) : Rows.uptoBulk d ≤ Rows.uptoBulkAll l := by
  induction l with
  | nil => cases h
  | cons x r ih =>
    simp only [Rows.uptoBulkAll]
    rcases List.mem_cons.1 h with e | e
    · subst e; omega
    · have := ih e; omega
theorem length_le {H : Type} (l : List (DataW H)) : l.length ≤ Rows.uptoBulkAll l := by
  induction l with
  | nil => simp
  | cons x r ih => have := one_le x; simp only [Rows.uptoBulkAll, List.length_cons]; omega
theorem bulk_ok {H : Type} : Bulk (H := H) Rows.uptoBulk where
  str := fun s => by simp [Rows.uptoBulk]
  len := fun es sp => by have := length_le es; simp only [Rows.uptoBulk]; omega
  elem := fun es sp e he => by have := part_le he; simp only [Rows.uptoBulk]; omega
  part := fun ps p hp => by have := part_le hp; simp only [Rows.uptoBulk]; omega
theorem bulk_part {H : Type} {l : List (DataW H)} (hk : Rows.uptoSmall H l = true) {d : DataW H} (h : d ∈ l) : Rows.uptoBulk d ≤ 1048576 := by
  have h1 : Rows.uptoBulkAll l ≤ 1048576 := of_decide_eq_true hk
  have := part_le h
  omega

theorem byte_of {i : Int} (h : (Lit.int .u8 i).wf = true) : ∃ c : UInt8, i = (c.toNat : Int) := by
  have h2 : 0 ≤ i ∧ i < 256 := by
    have e1 : IntKind.u8.min = 0 := by decide
    have e2 : IntKind.u8.max = 255 := by decide
    simp [Lit.wf, e1, e2] at h
    omega
  exact ⟨UInt8.ofNat i.toNat, by simp; omega⟩

theorem shp_s {n : Nat} {ds : List D} (h : ShpC tb 1048576 (n + 1) 9 ds) : ∃ s, ds = [.str s] ∧ s.length ≤ 1048576 := shp_str tbget9 h
theorem shp_i {n : Nat} {ds : List D} (h : ShpC tb 1048576 (n + 1) 3 ds) : ∃ i, ds = [.int .i64 i] ∧ (Lit.int .i64 i).wf = true := shp_int tbget3 h
theorem shp_b {n : Nat} {ds : List D} (h : ShpC tb 1048576 (n + 1) 4 ds) : ∃ i, ds = [.bool i] := shp_bool tbget4 h
theorem shp_dia {n : Nat} {ds : List D} (h : ShpC tb 1048576 (n + 2) 24 ds) : ∃ d : Dia, ds = [.int .u8 (d.sep.toNat : Int), .int .u8 (d.quote.toNat : Int), .bool d.always, .bool d.ret] := by
  obtain ⟨parts, rfl, hl, hp⟩ := shp_struct tbget24 h
  obtain ⟨p0, h0, s0⟩ := hp 0 0 5 rfl
  obtain ⟨p1, h1, s1⟩ := hp 1 1 5 rfl
  obtain ⟨p2, h2, s2⟩ := hp 2 2 4 rfl
  obtain ⟨p3, h3, s3⟩ := hp 3 3 4 rfl
  match parts, hl with
  | [a, b, c, d], _ =>
    simp only [List.getElem?_cons_zero, List.getElem?_cons_succ, Option.some.injEq] at h0 h1 h2 h3
    subst h0; subst h1; subst h2; subst h3
    obtain ⟨x, rfl, hx⟩ := shp_int tbget5 s0
    obtain ⟨y, rfl, hy⟩ := shp_int tbget5 s1
    obtain ⟨u, rfl⟩ := shp_bool tbget4 s2
    obtain ⟨v, rfl⟩ := shp_bool tbget4 s3
    obtain ⟨x, rfl⟩ := byte_of hx
    obtain ⟨y, rfl⟩ := byte_of hy
    exact ⟨⟨x, y, u, v⟩, rfl⟩
theorem shp_strs {n : Nat} {ds : List D} (h : ShpC tb 1048576 (n + 2) 39 ds) : ∃ l : List (List UInt8), ds = [.sl 9 (l.map encS)] ∧ l.length ≤ 1048576 ∧ ∀ s ∈ l, s.length ≤ 1048576 := by
  obtain ⟨xs, rfl, hl, hx⟩ := shp_sl tbget39 tbget9 h
  obtain ⟨l, h1, h2, h3⟩ := shp_list (agg := false) (enc := encS) (ok := fun s : List UInt8 => s.length ≤ 1048576) (fun x hx' => by
    obtain ⟨i, rfl, hi⟩ := shp_str tbget9 hx'
    exact ⟨i, rfl, hi⟩) hx
  refine ⟨l, ?_, by omega, h3⟩
  show [D.sl 9 (xs.map (packD false))] = _
  rw [h1]
theorem shp_tab {n : Nat} {ds : List D} (h : ShpC tb 1048576 (n + 3) 22 ds) : ∃ l : List (List (List UInt8)), ds = [.sl 39 (l.map encR)] ∧ l.length ≤ 1048576 ∧ ∀ r ∈ l, r.length ≤ 1048576 ∧ ∀ s ∈ r, s.length ≤ 1048576 := by
  obtain ⟨xs, rfl, hl, hx⟩ := shp_sl tbget22 tbget39 h
  obtain ⟨l, h1, h2, h3⟩ := shp_list (agg := false) (enc := encR) (ok := fun r : List (List UInt8) => r.length ≤ 1048576 ∧ ∀ s ∈ r, s.length ≤ 1048576) (fun x hx' => by
    obtain ⟨r, rfl, hr⟩ := shp_strs hx'
    exact ⟨r, rfl, hr⟩) hx
  refine ⟨l, ?_, by omega, h3⟩
  show [D.sl 39 (xs.map (packD false))] = _
  rw [h1]

theorem argsOf {w : World} (ps : List (D × Value)) (h : ∀ p ∈ ps, FRep (psz Tryd.prog) w.cell? p.1 p.2) : (ps.map fun p => AV.d p.1).length = (ps.map (·.2)).toArray.size ∧
    ∀ (i : Nat) (x : AV), (ps.map fun p => AV.d p.1)[i]? = some x → ∃ d v, x = .d d ∧ (ps.map (·.2)).toArray[i]? = some v ∧ FRep (psz Tryd.prog) w.cell? d v := by
  refine ⟨by simp, fun i x hx => ?_⟩
  simp only [List.getElem?_map, Option.map_eq_some_iff] at hx
  obtain ⟨p, hp, rfl⟩ := hx
  exact ⟨p.1, p.2, rfl, by simp [hp], h p (List.mem_of_getElem? hp)⟩

theorem total_le {l : List (List (List UInt8))} (h : ∀ e ∈ l, e.length ≤ 1048576) : total l ≤ l.length * 1048576 := by
  induction l with
  | nil => simp [total]
  | cons x r ih =>
    have := ih (fun e he => h e (List.mem_cons_of_mem _ he))
    have := h x (by simp)
    simp only [total, List.length_cons, Nat.add_mul]
    omega

theorem glob_ok {W : World} (h : W.ShapedOpen Tryd.prog) : GlobOk W.heap.size W := by
  obtain ⟨m, hm⟩ := cell_of_shapedOpen_int (g := 0) (t := 3) (zero := #[.int .i64 0]) (k := .i64) h (of_decide_eq_true (by kernel_rfl)) (by kernel_rfl) rfl (by kernel_rfl) (by kernel_rfl) Tryd.underlying3
  refine ⟨m, ?_, hm⟩
  rcases Nat.eq_zero_or_pos W.heap.size with h0 | h0
  · have : W.heap[0]? = none := by simp [h0]
    simp [World.cell?, this] at hm
  · exact h0

/-- THE WITNESS's world: the settled one, the two tables as their initialisers lay them. -/
noncomputable def laidWorld (os : Os) : World :=
  let w0 := World.holding Tryd.prog os ⟨#[], #[], []⟩
  let put (h : Array Obj) (g : Nat) (cs : Array Value) : Array Obj := h.modify g fun
    | .cells _ t frozen => .cells cs t frozen
    | o => o
  let h1 := put w0.heap 1 (Lib.firstTab.map fun z => Value.int .u8 z).toArray
  let h2 := put h1 2 ((List.range 16).flatMap fun i => [Value.int .u8 (Lib.accLo i), Value.int .u8 (Lib.accHi i)]).toArray
  { w0 with heap := h2 }
def laidL : List (String × DataW Unit) := [("unicode/utf8.acceptRanges", Rows.laid_unicode_utf8_acceptRanges), ("unicode/utf8.first", Rows.laid_unicode_utf8_first)]
theorem laid_met (os : Os) (args : Array Value) : laidMet Tryd.prog laidL ((laidWorld os).forCall (fun _ _ => 0) ⟨#[], args, []⟩).memory :=
  (LaidIn.of_run (l := [("unicode/utf8.acceptRanges", Lib.acceptData), ("unicode/utf8.first", Lib.firstData)]) [2, 1] 8 (by kernel_rfl) (by kernel_rfl) (by kernel_rfl) (by kernel_rfl)).met

end Go.Vm
