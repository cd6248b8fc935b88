/- recur: out of a law's contract: its row and its card. -/
import Derived.Test.YtkmeiandnebaeaaGreatDoorCards
import Derived.Test.YtkmeiandnebaeaaGreatDoorTie
import Derived.Test.YtkmeiandnebaeaaGreatDoorVMd
import Derived.Test.YtkmeiandnebaeaaGreatDoorRd2
import Derived.JoinedCond
import Derived.Deep.DeepHandedRow
import Derived.Deep.DeepLaidRun
import Derived.Lib.LaidTab
import Derived.Lib.LaidIn
import Derived.Lib.LaidU8
import Derived.Shelf.Vars
import Derived.Deep.DeepWitnessRowRef
set_option linter.unusedSimpArgs false
namespace Go.Vm
open Proofs Proofs.YtkmeiandnebaeaaGreatDoor Go.ChangeShapes Go.WideShapes Go.ChangeAt Go.RowKit Go.Lib
set_option maxRecDepth 100000

theorem tryOwn : ownKnob Tryz.prog.godebug = none := by kernel_rfl
theorem tryLaid : laidOutB Tryz.prog = true := by kernel_rfl

theorem one_le {H : Type} (d : DataW H) : 1 ≤ Rows.uptoBulk d := by
  cases d with
  | lit l => cases l <;> simp [Rows.uptoBulk]
  | _ => simp [Rows.uptoBulk]
theorem part_le {H : Type} {d : DataW H} {l : List (DataW H)} (h : d ∈ l) : Rows.uptoBulk d ≤ Rows.uptoBulkAll l := by
  induction l with
  | nil => cases h
  | cons x r ih =>
    simp only [Rows.uptoBulkAll]
    rcases List.mem_cons.1 h with e | e
    · subst e; omega
    · have := ih e; omega
theorem length_le {H : Type} (l : List (DataW H)) : l.length ≤ Rows.uptoBulkAll l := by
  induction l with
  | nil => simp
  | cons x r ih => have := one_le x; simp only [Rows.uptoBulkAll, List.length_cons]; omega
theorem bulk_ok {H : Type} : Bulk (H := H) Rows.uptoBulk where
  str := fun s => by simp [Rows.uptoBulk]
  len := fun es sp => by have := length_le es; simp only [Rows.uptoBulk]; omega
  elem := fun es sp e he => by have := part_le he; simp only [Rows.uptoBulk]; omega
  part := fun ps p hp => by have := part_le hp; simp only [Rows.uptoBulk]; omega
theorem bulk_part {H : Type} {l : List (DataW H)} (hk : Rows.uptoSmall H l = true) {d : DataW H} (h : d ∈ l) : Rows.uptoBulk d ≤ 1048576 := by
  have h1 : Rows.uptoBulkAll l ≤ 1048576 := of_decide_eq_true hk
  have := part_le h
  omega

theorem shp_s {n : Nat} {ds : List D} (h : ShpC tb 1048576 (n + 1) 9 ds) : ∃ s, ds = [.str s] ∧ s.length ≤ 1048576 := shp_str tbget9 h
theorem shp_i {n : Nat} {ds : List D} (h : ShpC tb 1048576 (n + 1) 3 ds) : ∃ i, ds = [.int .i64 i] ∧ (Lit.int .i64 i).wf = true := shp_int tbget3 h
theorem shp_ints {n : Nat} {ds : List D} (h : ShpC tb 1048576 (n + 2) 22 ds) : ∃ l : List Int, ds = [.sl 3 (l.map encI)] ∧ l.length ≤ 1048576 := by
  obtain ⟨xs, rfl, hl, hx⟩ := shp_sl tbget22 tbget3 h
  obtain ⟨l, h1, h2, h3⟩ := shp_list (agg := false) (enc := encI) (ok := fun _ : Int => True) (fun x hx' => by
    obtain ⟨i, rfl, _⟩ := shp_int tbget3 hx'
    exact ⟨i, rfl, trivial⟩) hx
  refine ⟨l, ?_, by omega⟩
  show [D.sl 3 (xs.map (packD false))] = _
  rw [h1]
theorem shp_wd {n : Nat} {ds : List D} (h : ShpC tb 1048576 (n + 2) 56 ds) : ∃ w : Int × Int, ds = [.int .i64 w.1, .int .i64 w.2] := by
  obtain ⟨parts, rfl, hl, hp⟩ := shp_struct tbget56 h
  obtain ⟨p0, h0, s0⟩ := hp 0 0 3 rfl
  obtain ⟨p1, h1, s1⟩ := hp 1 1 3 rfl
  match parts, hl with
  | [a, b], _ =>
    simp only [List.getElem?_cons_zero, List.getElem?_cons_succ, Option.some.injEq] at h0 h1
    subst h0; subst h1
    obtain ⟨x, rfl, _⟩ := shp_int tbget3 s0
    obtain ⟨y, rfl, _⟩ := shp_int tbget3 s1
    exact ⟨(x, y), rfl⟩
theorem shp_wds {n : Nat} {ds : List D} (h : ShpC tb 1048576 (n + 3) 23 ds) : ∃ l : List (Int × Int), ds = [.sl 56 (l.map encF)] ∧ l.length ≤ 1048576 := by
  obtain ⟨xs, rfl, hl, hx⟩ := shp_sl tbget23 tbget56 h
  obtain ⟨l, h1, h2, h3⟩ := shp_list (agg := true) (enc := encF) (ok := fun _ : Int × Int => True) (fun x hx' => by
    obtain ⟨w, rfl⟩ := shp_wd hx'
    exact ⟨w, rfl, trivial⟩) hx
  refine ⟨l, ?_, by omega⟩
  show [D.sl 56 (xs.map (packD true))] = _
  rw [h1]
theorem shp_ru {n : Nat} {ds : List D} (h : ShpC tb 1048576 (n + 4) 25 ds) : ∃ r : Ru, ds = [.int .i64 r.unit, .int .i64 r.step, .sl 3 (r.months.map encI), .sl 3 (r.mdays.map encI), .sl 56 (r.wds.map encF), .sl 3 (r.picks.map encI), .int .i64 r.count, .int .i64 r.til] ∧
    (r.months.length ≤ 1048576 ∧ r.mdays.length ≤ 1048576 ∧ r.wds.length ≤ 1048576) := by
  obtain ⟨parts, rfl, hl, hp⟩ := shp_struct tbget25 h
  obtain ⟨p0, h0, s0⟩ := hp 0 0 3 rfl
  obtain ⟨p1, h1, s1⟩ := hp 1 1 3 rfl
  obtain ⟨p2, h2, s2⟩ := hp 2 2 22 rfl
  obtain ⟨p3, h3, s3⟩ := hp 3 3 22 rfl
  obtain ⟨p4, h4, s4⟩ := hp 4 4 23 rfl
  obtain ⟨p5, h5, s5⟩ := hp 5 5 22 rfl
  obtain ⟨p6, h6, s6⟩ := hp 6 6 3 rfl
  obtain ⟨p7, h7, s7⟩ := hp 7 7 3 rfl
  match parts, hl with
  | [a, b, c, d, e, f, g, k], _ =>
    simp only [List.getElem?_cons_zero, List.getElem?_cons_succ, Option.some.injEq] at h0 h1 h2 h3 h4 h5 h6 h7
    subst h0; subst h1; subst h2; subst h3; subst h4; subst h5; subst h6; subst h7
    obtain ⟨u, rfl, _⟩ := shp_int tbget3 s0
    obtain ⟨st, rfl, _⟩ := shp_int tbget3 s1
    obtain ⟨mo, rfl, q1⟩ := shp_ints s2
    obtain ⟨md, rfl, q2⟩ := shp_ints s3
    obtain ⟨wd, rfl, q3⟩ := shp_wds s4
    obtain ⟨pk, rfl, _⟩ := shp_ints s5
    obtain ⟨ct, rfl, _⟩ := shp_int tbget3 s6
    obtain ⟨tl, rfl, _⟩ := shp_int tbget3 s7
    exact ⟨⟨u, st, mo, md, wd, pk, ct, tl⟩, rfl, q1, q2, q3⟩

theorem argsOf {w : World} (ps : List (D × Value)) (h : ∀ p ∈ ps, FRep (psz Tryz.prog) w.cell? p.1 p.2) : (ps.map fun p => AV.d p.1).length = (ps.map (·.2)).toArray.size ∧
    ∀ (i : Nat) (x : AV), (ps.map fun p => AV.d p.1)[i]? = some x → ∃ d v, x = .d d ∧ (ps.map (·.2)).toArray[i]? = some v ∧ FRep (psz Tryz.prog) w.cell? d v := by
  refine ⟨by simp, fun i x hx => ?_⟩
  simp only [List.getElem?_map, Option.map_eq_some_iff] at hx
  obtain ⟨p, hp, rfl⟩ := hx
  exact ⟨p.1, p.2, rfl, by simp [hp], h p (List.mem_of_getElem? hp)⟩

theorem tabIs_of_reads {P : Program} {W : World} {name : String} {k : IntKind} {zs : List Int} {g : Nat} {t e : TypeId} {n : Nat}
    (hg : P.globalNamed name = some g) (hty : (P.globals[g]?).map (·.type) = some t) (ht : P.underlying t = some (.array n e)) (he : P.underlying e = some (.int k)) (hce : P.cellsOf e = 1) (hct : P.cellsOf t = n)
    (h : VarReads P W name (tabData k zs)) : TabIs P W name k zs := by
  obtain ⟨g', t', cs, fuel, p, hg', ht', hvar, hd⟩ := h
  obtain rfl := Option.some.inj (hg.symm.trans hg')
  obtain rfl := Option.some.inj (hty.symm.trans ht')
  unfold TabIs
  rw [hvar, ← cells_of_tab ht he hce hct hd]

def laidL : List (String × DataW Unit) := [("math/bits.deBruijn32tab", Rows.laid_math_bits_deBruijn32tab), ("math/bits.deBruijn64tab", Rows.laid_math_bits_deBruijn64tab), ("internal/strconv.uint64pow10", Rows.laid_internal_strconv_uint64pow10), ("unicode.White_Space", Rows.laid_unicode_White_Space), ("strings.asciiSpace", Rows.laid_strings_asciiSpace)]
theorem laid_pow : (Rows.laid_internal_strconv_uint64pow10 : DataW Unit) = tabData .u64 pow10Tab := by kernel_rfl
theorem laid_space : (Rows.laid_strings_asciiSpace : DataW Unit) = tabData .u8 asciiSpaceTab := by kernel_rfl

theorem heap_of_var {P : Program} {W : World} {n : String} {g : Nat} {cs : Array Value} (hg : P.globalNamed n = some g) (h : W.var? P n = some cs) : ∃ t fz, W.heap[g]? = some (.cells cs t fz) := by
  unfold World.var? at h
  rw [hg] at h
  simp only [Option.bind_some] at h
  split at h
  · rename_i c t fz hh
    cases h
    exact ⟨t, fz, hh⟩
  · cases h

theorem glob_ok {W : World} (h : W.ShapedOpen Tryz.prog) (hL : laidMet Tryz.prog laidL W) : GlobOk W.heap.size W := by
  obtain ⟨m, hm⟩ := cell_of_shapedOpen_int (g := 3) (t := 3) (zero := #[.int .i64 0]) (k := .i64) h (of_decide_eq_true (by kernel_rfl)) (by kernel_rfl) rfl (by kernel_rfl) (by kernel_rfl) Tryz.underlying3
  have r1 : VarReads Tryz.prog W "internal/strconv.uint64pow10" (tabData .u64 pow10Tab) := by rw [← laid_pow]; exact laidMet.reads hL (.tail _ (.tail _ (.head _)))
  have r2 : VarReads Tryz.prog W "strings.asciiSpace" (tabData .u8 asciiSpaceTab) := by rw [← laid_space]; exact laidMet.reads hL (.tail _ (.tail _ (.tail _ (.tail _ (.head _)))))
  have t1 := tabIs_of_reads (g := 2) (t := 166) (e := 143) (n := 20) (by kernel_rfl) (by kernel_rfl) Tryz.underlying166 Tryz.underlying143 (by kernel_rfl) (by kernel_rfl) r1
  have t2 := tabIs_of_reads (g := 0) (t := 129) (e := 5) (n := 256) (by kernel_rfl) (by kernel_rfl) Tryz.underlying129 Tryz.underlying5 (by kernel_rfl) (by kernel_rfl) r2
  obtain ⟨a1, b1, c1⟩ := heap_of_var (g := 2) (by kernel_rfl) t1
  obtain ⟨a2, b2, c2⟩ := heap_of_var (g := 0) (by kernel_rfl) t2
  refine ⟨?_, ⟨m, hm⟩, ⟨a2, b2, c2⟩, a1, b1, c1⟩
  have h3 : 3 < W.heap.size := by
    unfold World.cell? at hm
    cases hq : W.heap[3]? with
    | none => rw [hq] at hm; simp at hm
    | some b => exact (Array.getElem?_eq_some_iff.mp hq).1
  omega

/-- THE WITNESS's world: the settled one with two blocks more (the ranges of unicode.White_Space and its table), the variables as their initialisers lay them. -/
noncomputable def laidWorld (os : Os) : World :=
  let N := (World.settled Tryz.prog os).heap.size
  let w0 := World.holding Tryz.prog os ⟨#[.cells (Lib.whiteT.map fun (z : Nat) => Value.int .u16 (z : Int)).toArray 176, .cells #[.slice (some ⟨N, 0, none⟩) 7 7, .slice none 0 0, .int .i64 2] 173], #[], []⟩
  let put (h : Array Obj) (g : Nat) (cs : Array Value) : Array Obj := h.modify g fun
    | .cells _ t frozen => .cells cs t frozen
    | o => o
  { w0 with heap := put (put (put (put (put w0.heap 0 (Lib.asciiSpaceTab.map fun z => Value.int .u8 z).toArray) 2 (Lib.pow10Tab.map fun z => Value.int .u64 z).toArray) 8 #[.int .u8 0, .int .u8 1, .int .u8 28, .int .u8 2, .int .u8 29, .int .u8 14, .int .u8 24, .int .u8 3, .int .u8 30, .int .u8 22, .int .u8 20, .int .u8 15, .int .u8 25, .int .u8 17, .int .u8 4, .int .u8 8, .int .u8 31, .int .u8 27, .int .u8 13, .int .u8 23, .int .u8 21, .int .u8 19, .int .u8 16, .int .u8 7, .int .u8 26, .int .u8 12, .int .u8 18, .int .u8 6, .int .u8 11, .int .u8 5, .int .u8 10, .int .u8 9]) 9 #[.int .u8 0, .int .u8 1, .int .u8 56, .int .u8 2, .int .u8 57, .int .u8 49, .int .u8 28, .int .u8 3, .int .u8 61, .int .u8 58, .int .u8 42, .int .u8 50, .int .u8 38, .int .u8 29, .int .u8 17, .int .u8 4, .int .u8 62, .int .u8 47, .int .u8 59, .int .u8 36, .int .u8 45, .int .u8 43, .int .u8 51, .int .u8 22, .int .u8 53, .int .u8 39, .int .u8 33, .int .u8 30, .int .u8 24, .int .u8 18, .int .u8 12, .int .u8 5, .int .u8 63, .int .u8 55, .int .u8 48, .int .u8 27, .int .u8 60, .int .u8 41, .int .u8 37, .int .u8 16, .int .u8 46, .int .u8 35, .int .u8 44, .int .u8 21, .int .u8 52, .int .u8 32, .int .u8 23, .int .u8 11, .int .u8 54, .int .u8 26, .int .u8 40, .int .u8 15, .int .u8 34, .int .u8 20, .int .u8 31, .int .u8 10, .int .u8 25, .int .u8 14, .int .u8 19, .int .u8 9, .int .u8 13, .int .u8 8, .int .u8 7, .int .u8 6]) 1 #[.pointer (some ⟨N + 1, 0, none⟩)] }
theorem laid_met (os : Os) (args : Array Value) : laidMet Tryz.prog laidL ((laidWorld os).forCall (fun _ _ => 0) ⟨#[], args, []⟩).memory :=
  laidMet_of_run3 10 (by kernel_rfl) (by kernel_rfl) (by kernel_rfl)

end Go.Vm
