/- Bu: BuA, BuB, BuC, Shelf. -/
import Derived.Test.YtjjpkeajlgbleaaDoorC0
import Derived.Test.YtjjpkeajlgbleaaDoorTab
import Derived.Test.YtjjpkeajlgbleaaDoorVMd
import Derived.Lib.Strings
import Derived.Lib.Slices
import Derived.Lib.Walk
import Derived.Lib.Builder
import Derived.Lib.UnsafeStr
import Derived.Shelf.Strings.Builder1
import Derived.Shelf.Strings.Builder2
import Derived.Shelf.Strings.BuilderF
import Derived.Shelf.Strconv.Itoa0
import Derived.Shelf.Strconv.Itoa1
import Derived.Shelf.LaysM
import Derived.Shelf.Strconv.Itoa2
import Derived.Shelf.Strconv.Itoa3
import Derived.Shelf.Strings.Search1
import Derived.Shelf.Strings.Search2
import Derived.Shelf.Strings.Search3
import Derived.Shelf.Strings.Shaped
import Derived.Shelf.Strings.Prefix
import Derived.Shelf.Strings.Fields
import Derived.Shelf.Strings.SplitShaped
import Derived.Shelf.Unicode.Latin
import Derived.Shelf.Bits.Mul64
import Derived.Shelf.Strings.Repeat
import Derived.Shelf.Unicode.Is16White
import Derived.Shelf.Unicode.IsSpaceAny
import Derived.Shelf.Unicode.Is16WhiteD
import Derived.Shelf.Unicode.IsSpaceAnyD
import Derived.Shelf.Strings.FieldsAny
import Derived.Shelf.Strings.FieldsFuncAny
import Derived.Shelf.Unicode.Is16Any
import Derived.Shelf.Unicode.Is32Any
import Derived.Shelf.Unicode.ExclAny
import Derived.Test.YtjjpkeajlgbleaaDoorProg
/- strings.Builder: copyCheck, String, walked over the program (by program, out of tmpl/BuA.lean). -/
set_option linter.unusedSimpArgs false
namespace Go.Vm
open Proofs

set_option maxHeartbeats 1000000 in
set_option maxRecDepth 100000 in
theorem copyCheck_used (b : Nat) (w : World) (h0 : w.cell? ⟨b, 0, none⟩ = some (.pointer (some ⟨b, 0, none⟩))) :
    Calls Tryd.prog 82 #[.pointer (some ⟨b, 0, none⟩)] w fun e w' => e = .returned (.tuple #[]) ∧ w' = w := by
  obtain ⟨j, hj, _⟩ : ∃ j, Tryd.prog.info? 68 = some j ∧ j.size = 2 := Option.map_eq_some_iff.1 (show (Tryd.prog.info? 68).map (·.size) = some 2 from by kernel_rfl)
  go_enter Tryd.func82, Tryd.ntmps82
  go_wp2
  rw [Lib.run_neq_ptr_same w _ Tryd.underlying65 hj]
  go_wp2
  go_end0
  exact ⟨rfl, rfl⟩

set_option maxHeartbeats 1000000 in
set_option maxRecDepth 100000 in
theorem copyCheck_fresh (b c : Nat) (w : World) (h0 : w.cell? ⟨b, 0, none⟩ = some (.pointer none)) (hsh : w.shape? b = some (68, c)) (hc : 0 < c) (hli : liesAt Tryd.prog Tryd.prog.depth 68 (c / Tryd.prog.cellsOf 68) 0 68 1 = true) (hfz : w.frozen? ⟨b, 0, none⟩ = false) :
    Calls Tryd.prog 82 #[.pointer (some ⟨b, 0, none⟩)] w fun e w' => e = .returned (.tuple #[]) ∧ w' = w.setCell ⟨b, 0, none⟩ (.pointer (some ⟨b, 0, none⟩)) := by
  obtain ⟨j, hj, hjs⟩ : ∃ j, Tryd.prog.info? 68 = some j ∧ j.size = 2 := Option.map_eq_some_iff.1 (show (Tryd.prog.info? 68).map (·.size) = some 2 from by kernel_rfl)
  go_enter Tryd.func82, Tryd.ntmps82
  go_wp2
  rw [Lib.run_to_unsafe w ⟨b, 0, none⟩ Tryd.underlying65 Tryd.underlying113 hj (by rw [hjs]; decide) hsh hc]
  simp only [Result.andThen]
  rw [Oper.upon_value]
  go_wp2
  rw [run_callFunc_extern Tryd.func97 (by kernel_rfl) (by kernel_rfl) (by kernel_rfl) (e := Extern.AbiNoEscape.same) (by kernel_rfl)]
  rw [Lib.run_noEscape]
  simp only [Result.andThen]
  rw [Oper.upon_value]
  go_wp2
  rw [Lib.run_from_unsafe w ⟨b, 0, none⟩ Tryd.underlying113 Tryd.underlying65 hj hsh hli]
  simp only [Result.andThen]
  rw [Oper.upon_value]
  go_wp2
  go_end0
  exact ⟨rfl, rfl⟩

theorem lies_self (n : Nat) (hn : 1 ≤ n) : liesAt Tryd.prog Tryd.prog.depth 68 (2 * n / Tryd.prog.cellsOf 68) 0 68 1 = true := by
  obtain ⟨d, hd⟩ : ∃ d, Tryd.prog.depth = d + 1 := ⟨Tryd.prog.depth - 1, by kernel_rfl⟩
  have hc : Tryd.prog.cellsOf 68 = 2 := by kernel_rfl
  have hs : sameLayout Tryd.prog Tryd.prog.depth 68 68 = true := by kernel_rfl
  rw [hc, show 2 * n / 2 = n by omega]
  rw [hd] at hs ⊢
  simp [liesAt, hd, rowAt, hc, hs, hn]

set_option maxHeartbeats 2000000 in
set_option maxRecDepth 100000 in
theorem builderString_row (b g cap : Nat) (cur : Array Value) (l : List UInt8) (w : World) (h0 : l ≠ []) (hbk : w.cell? ⟨b, 1, none⟩ = some (.slice (some ⟨g, 0, none⟩) l.length cap)) (hg : w.heap[g]? = some (.cells cur 5 (0, 0)))
    (hnc : l.length ≤ cap) (hcs : cur.size = cap) (h63 : l.length ≤ 9223372036854775807) (hcell : ∀ j x, l[j]? = some x → w.cell? ((⟨g, 0, none⟩ : Addr).add j) = some (.int .u8 x.toNat)) :
    Calls Tryd.prog 48 #[.pointer (some ⟨b, 0, none⟩)] w fun e w' => e = .returned (.string ⟨l.toArray⟩) ∧ w' = w.drew.freeze ⟨g, 0, none⟩ l.length := by
  have hl0 : l.length ≠ 0 := by simpa using h0
  have c1 : w.drew.cell? ⟨b, 1, none⟩ = some (.slice (some ⟨g, 0, none⟩) l.length cap) := hbk
  have hSD : (Builtin.unsafeSliceData_ #[66] 103 #[.slice (some ⟨g, 0, none⟩) l.length cap]).run Tryd.prog w.drew = .ok (.pointer (some ⟨g, 0, none⟩)) w.drew :=
    Lib.run_unsafeSliceData_row _ _ _ _ _ _ (by omega)
  have hUS : (Builtin.unsafeString_ #[103, 3] 9 #[.pointer (some ⟨g, 0, none⟩), .int .i64 l.length]).run Tryd.prog w.drew = .ok (.string ⟨l.toArray⟩) (w.drew.freeze ⟨g, 0, none⟩ l.length) :=
    Lib.run_unsafeString_row w.drew 103 3 9 5 Tryd.underlying103 (by kernel_rfl) g cur.size (by have hg' : w.drew.heap[g]? = some (.cells cur 5 (0, 0)) := hg; simp [World.shape?, hg']) l h0 (by omega) h63 hcell
  clear hcell hcs hnc hl0 h63
  go_enter Tryd.func48, Tryd.ntmps48
  go_wp2
  go_region
  all_goals (go_wp2; go_ret; exact ⟨rfl, rfl⟩)

set_option maxHeartbeats 2000000 in
set_option maxRecDepth 100000 in
theorem builderString_same (b cap : Nat) (A q : Option Addr) (w : World) (hbk : w.cell? ⟨b, 1, none⟩ = some (.slice A 0 cap))
    (hSD : (Builtin.unsafeSliceData_ #[66] 103 #[.slice A 0 cap]).run Tryd.prog w.drew = .ok (.pointer q) w.drew) :
    Calls Tryd.prog 48 #[.pointer (some ⟨b, 0, none⟩)] w fun e w' => e = .returned (.string ⟨#[]⟩) ∧ w' = w.drew := by
  have hUS : ∀ W, (Builtin.unsafeString_ #[103, 3] 9 #[.pointer q, .int .i64 0]).run Tryd.prog W = .ok (.string .empty) W := fun W => Lib.run_unsafeString_none W _ _ _ q
  have c1 : w.drew.cell? ⟨b, 1, none⟩ = some (.slice A 0 cap) := hbk
  go_enter Tryd.func48, Tryd.ntmps48
  go_wp2
  go_region
  all_goals (go_wp2; go_ret; exact ⟨rfl, rfl⟩)

set_option maxHeartbeats 2000000 in
set_option maxRecDepth 100000 in
theorem builderString_view (b : Nat) (a : Addr) (w : World) (o : Obj) (hlt : b < w.heap.size) (hbk : w.cell? ⟨b, 1, none⟩ = some (.slice (some a) 0 0))
    (hSD : (Builtin.unsafeSliceData_ #[66] 103 #[.slice (some a) 0 0]).run Tryd.prog w.drew = .ok (.pointer (some ⟨w.drew.heap.size, 0, none⟩)) (w.drew.alloc o)) :
    Calls Tryd.prog 48 #[.pointer (some ⟨b, 0, none⟩)] w fun e w' => e = .returned (.string ⟨#[]⟩) ∧ w' = w.drew.alloc o := by
  have hUS : ∀ W q, (Builtin.unsafeString_ #[103, 3] 9 #[.pointer q, .int .i64 0]).run Tryd.prog W = .ok (.string .empty) W := fun W q => Lib.run_unsafeString_none W _ _ _ q
  have c1 : w.drew.cell? ⟨b, 1, none⟩ = some (.slice (some a) 0 0) := hbk
  have c2 : (w.drew.alloc o).cell? ⟨b, 1, none⟩ = some (.slice (some a) 0 0) := by
    have : (w.drew.alloc o).heap[b]? = w.drew.heap[b]? := Lib.alloc_old w.drew _ b hlt
    simp only [World.cell?, this]
    exact hbk
  have c3 : (w.alloc o).drew.cell? ⟨b, 1, none⟩ = some (.slice (some a) 0 0) := c2
  have c0 : w.cell? ⟨b, 1, none⟩ = some (.slice (some a) 0 0) := c1
  go_enter Tryd.func48, Tryd.ntmps48
  go_wp2
  go_region
  all_goals (go_wp2; go_ret; exact ⟨rfl, rfl⟩)

end Go.Vm

/- strings.Builder as the machine of values sees it (by program, out of tmpl/BuB.lean). -/
namespace Go.Vm
open Proofs
set_option maxRecDepth 10000
set_option maxHeartbeats 1000000
set_option linter.unusedSimpArgs false

/-- What a builder's first field holds: nil, or the builder's own address. -/
def bcell (b : Nat) (fr : Bool) : AV := if fr then .d .nilptr else .ptr b 68 0 0
/-- A builder in block b, whose row is block k. -/
def bufB (k : Nat) (s : List UInt8) : AV := if s = [] then .d .nilsl else .bl k 5 (s.map encU)
def bldB (b k : Nat) (fr : Bool) (s : List UInt8) : Blk := .cells 68 [.agg [bcell b fr, bufB k s]]
def rowB (s : List UInt8) : Blk := .tail 5 s.length

theorem argsRel1 {sz : TypeId → Nat} {F : Frz} {ρ : Env0} {n : Nat} {x : AV} {vs : Array Value} (h : ArgsRel sz F ρ n [x] vs) : ∃ a, vs = #[a] ∧ VRel sz F ρ n x a := by
  obtain ⟨h1, h2⟩ := h
  obtain ⟨a, ha, hxa⟩ := h2 0 x rfl
  refine ⟨a, ?_, hxa⟩
  have hs : vs.size = 1 := by simpa using h1.symm
  obtain ⟨i0, e0⟩ := Array.getElem?_eq_some_iff.mp ha
  refine Array.ext (by simp [hs]) fun k hk hk' => ?_
  match k, hk' with
  | 0, _ => exact e0

theorem szB : psz Tryd.prog 68 = 2 := by kernel_rfl
theorem szU : psz Tryd.prog 5 = 1 := by kernel_rfl

/-- Where a builder lies. -/
theorem bld_at {base : Nat} {w0 w : World} {F : Frz} {ρ : Env0} {h : List Blk} (hst : St (psz Tryd.prog) base w0 F ρ h w) {b : Nat} {p bf : AV} (hb : h[b]? = some (.cells 68 [.agg [p, bf]])) {cp : Value} (hp : VRel (psz Tryd.prog) F ρ h.length (.ptr b 68 0 0) cp) :
    ∃ B N c v0 v1, cp = .pointer (some ⟨B, 0, none⟩) ∧ ρ b = .mt B N ∧ base ≤ B ∧ w.heap[B]? = some (.cells c 68 (0, 0)) ∧ (∀ a, a.block = B → F a = none) ∧ 1 ≤ N ∧ c.size = 2 * N ∧ c[0]? = some v0 ∧ c[1]? = some v1 ∧
      VRel (psz Tryd.prog) F ρ h.length p v0 ∧ VRel (psz Tryd.prog) F ρ h.length bf v1 ∧ v0.oneCell' = true ∧ v1.oneCell' = true := by
  obtain ⟨B, N, c, e0, h1, h2, h3, h4, ⟨h5, h6, h7⟩, h8⟩ := hst.blk b _ hb
  subst h7
  obtain ⟨h9, h10⟩ := h8 0 _ rfl
  obtain ⟨v0, a1, a2, a3⟩ := h10 0 p rfl
  obtain ⟨v1, b1, b2, b3⟩ := h10 1 bf rfl
  cases hp with
  | ptr hb' hl =>
    have := hl B N h1
    subst this
    rw [szB] at h6 a1 b1
    exact ⟨B, N, c, v0, v1, by simp, h1, h2, h3, h4, by simpa using h5, by omega, by simpa using a1, by simpa using b1, a2, b2, a3, b3⟩

theorem copyCheck_V {b : Nat} {fr : Bool} {bf : AV} {h : List Blk} (hb : h[b]? = some (.cells 68 [.agg [bcell b fr, bf]])) :
    CallW Tryd.prog 82 [.ptr b 68 0 0] h fun x h' => x = .tup [] ∧ h' = h.set b (.cells 68 [.agg [bcell b false, bf]]) := by
  refine ⟨⟨Tryd.f82, Tryd.func82, by kernel_rfl, by kernel_rfl⟩, fun base w0 F ρ w vs hst ha => ?_⟩
  obtain ⟨cp, rfl, hp⟩ := argsRel1 ha
  obtain ⟨B, N, c, v0, v1, rfl, h1, h2, h3, h4, h5, h6, h7, h8, h9, h10, h11, h12⟩ := bld_at hst hb hp
  have hlt := (List.getElem?_eq_some_iff.mp hb).1
  have c0 : w.cell? ⟨B, 0, none⟩ = some v0 := by simp [World.cell?, h3, h7]
  cases fr with
  | true =>
    have : v0 = .pointer none := by
      simp only [bcell, if_true] at h9
      cases h9 with | d h9 => cases h9; rfl
    subst this
    refine (copyCheck_fresh B c.size w c0 (by simp [World.shape?, h3]) (by omega) (by rw [h6]; exact lies_self N h5) (Lib.frozen_of_heap h3 0)).mono ?_
    rintro e w' ⟨rfl, rfl⟩
    rw [setCell_setBlk h3]
    refine ⟨_, .tup [], _, F, ρ, rfl, Ext.refl _ _ _, hst.rewrite hlt (.inl ⟨N, h1⟩) h2 h4 (blk := .cells 68 [.agg [bcell b false, bf]]) ⟨B, N, c.setIfInBounds 0 (.pointer (some ⟨B, 0, none⟩)), 68, h1, h2, ?_, h4, ⟨by simpa using h5, by rw [szB]; simp; omega, rfl⟩, fun i x hi => ?_⟩, ?_, by simp, rfl, rfl⟩
    · rw [setBlk_get]; simp [(Array.getElem?_eq_some_iff.mp h3).1]
    · cases i with
      | succ i => simp at hi
      | zero =>
        simp at hi
        subst hi
        refine ⟨by rw [szB]; rfl, fun k y hk => ?_⟩
        have hcs : 0 < c.size := by omega
        match k, hk with
        | 0, hk =>
          simp [AV.cells] at hk
          subst hk
          refine ⟨.pointer (some ⟨B, 0, none⟩), by simp [hcs], ?_, rfl⟩
          simp only [bcell, Bool.false_eq_true, if_false]
          refine .ptr hlt (fun B' N' hl => ?_)
          rw [h1] at hl
          cases hl
          simp
        | 1, hk =>
          simp [AV.cells] at hk
          subst hk
          exact ⟨v1, by simpa using h8, h10, h12⟩
        | k + 2, hk => simp [AV.cells] at hk
    · rw [List.length_set]; exact .tup [] #[] rfl (fun _ => .nilIface) (by simp) (by simp)
  | false =>
    have : v0 = .pointer (some ⟨B, 0, none⟩) := by
      simp only [bcell, Bool.false_eq_true, if_false] at h9
      cases h9 with | ptr hb' hl => have := hl B N h1; subst this; simp
    subst this
    refine (copyCheck_used B w c0).mono ?_
    rintro e w' ⟨rfl, rfl⟩
    have hs : h.set b (.cells 68 [.agg [bcell b false, bf]]) = h := by
      obtain ⟨hlt, he⟩ := List.getElem?_eq_some_iff.mp hb
      rw [← he]; exact List.set_getElem_self hlt
    rw [hs]
    exact ⟨_, .tup [], h, F, ρ, rfl, Ext.refl _ _ _, hst, .tup [] #[] rfl (fun _ => .nilIface) (by simp) (by simp), Nat.le_refl _, rfl, rfl⟩

theorem str_empty {sz : TypeId → Nat} {F : Frz} {ρ : Env0} {n : Nat} : VRel sz F ρ n (.d (.str [])) (.string ⟨#[]⟩) := .d (.str [])

theorem bytes_map (s : List UInt8) : flatD (s.map encU) = s.map encU := by
  induction s with
  | nil => rfl
  | cons x s ih => simp only [flatD, List.map_cons, List.flatMap_cons] at ih ⊢; rw [ih]; rfl

theorem string_V {b k : Nat} {fr : Bool} {s : List UInt8} {h : List Blk} (hb : h[b]? = some (bldB b k fr s)) (hk : h[k]? = some (rowB s)) (hs : s.length < 9223372036854775807) :
    CallW Tryd.prog 48 [.ptr b 68 0 0] h fun x h' => x = .d (.str s) ∧ h' = h.set k .gone := by
  refine ⟨⟨Tryd.f48, Tryd.func48, by kernel_rfl, by kernel_rfl⟩, fun base w0 F ρ w vs hst ha => ?_⟩
  obtain ⟨cp, rfl, hp⟩ := argsRel1 ha
  obtain ⟨B, N, c, v0, v1, rfl, h1, h2, h3, h4, h5, h6, h7, h8, h9, h10, h11, h12⟩ := bld_at hst hb hp
  have hkl := (List.getElem?_eq_some_iff.mp hk).1
  by_cases h0 : s = []
  · subst h0
    have hv1 : v1 = .slice none 0 0 := by
      simp only [bufB, if_true] at h10
      cases h10 with | d h10 => cases h10; rfl
    subst hv1
    have c1 : w.cell? ⟨B, 1, none⟩ = some (.slice none 0 0) := by simp [World.cell?, h3, h8]
    refine (builderString_same B 0 none none w c1 rfl).mono ?_
    rintro e w' ⟨rfl, rfl⟩
    exact ⟨_, _, _, F, ρ, rfl, Ext.refl _ _ _, hst.drew.forget k, str_empty, by simp, rfl, rfl⟩
  · simp only [bufB, h0, if_false] at h10
    obtain ⟨A, cap, rfl, h13, h14, h15, h16⟩ := bld_inv hst (xs := s.map encU) (by simpa [rowB] using hk) h10
    simp only [List.length_map] at h8 h13 h14 h15 h16
    have c1 : w.cell? ⟨B, 1, none⟩ = some (.slice A s.length cap) := by simp [World.cell?, h3, h8]
    have hs0 : s.length ≠ 0 := by simpa using h0
    obtain ⟨ad, cur, e0, rfl, hsp, hba, hheap, ⟨hsz, hoff, rfl⟩, hFB⟩ := h16 (by omega)
    obtain ⟨g, off, spot⟩ := ad
    simp only at hsp hoff hba hheap hsz
    subst hsp hoff
    rw [szU] at hsz
    have hrow := FRep.row (xs := s.map encU) (by simpa using h15)
    obtain ⟨_, vs', hrr, hF⟩ := hrow
    obtain ⟨ad', e1, _, hcells⟩ := hF (by simpa using h0)
    cases e1
    have hcell : ∀ j x, s[j]? = some x → w.cell? ((⟨g, 0, none⟩ : Addr).add j) = some (.int .u8 x.toNat) := by
      intro j x hj
      obtain ⟨v, hv, hfr, _⟩ := hrr.2 j (encU x) (by rw [bytes_map]; simp [hj])
      cases hfr
      rw [add_none]
      exact hst.frz _ _ (hcells j _ hv)
    refine (builderString_row B g cap cur s w h0 c1 hheap h13 (by omega) (by omega) hcell).mono ?_
    rintro e w' ⟨rfl, rfl⟩
    refine ⟨_, .d (.str s), h.set k .gone, F, ρ, rfl, Ext.refl _ _ _, hst.drew.freezeRow hkl (by rw [h14]; simp [Loc.conc]; omega) hba _, .d (.str s), by simp, rfl, rfl⟩

end Go.Vm

/- strings.Builder: WriteByte, WriteString, Len (by program, out of tmpl/BuC.lean). -/
namespace Go.Vm
open Proofs
set_option maxRecDepth 20000
set_option maxHeartbeats 1000000
set_option linter.unusedSimpArgs false

/-- (*strings.Builder).WriteString -/
def c45m : VC := (.seq (.reg [⟨(some 4), (.assign (.const (.int .i64 0))), none, false, false⟩,
    ⟨(some 5), (.assign (.const .nilIface)), none, false, false⟩]) (.seq (.reg [⟨(some 6), (.move (.tmp 0)), none, false, false⟩,
    ⟨(some 7), (.call { callee := .value (.func 82), args := #[.tmp 6], argTypes := #[65] }), none, false, false⟩]) (.seq (.reg [⟨(some 8), (.move (.tmp 0)), none, false, false⟩,
    ⟨(some 9), (.move (.tmp 0)), none, false, false⟩,
    ⟨(some 10), (.nilCheck (.tmp 9)), none, false, false⟩,
    ⟨(some 11), (.fieldAddr 68 (.tmp 10) 1), none, false, false⟩,
    ⟨(some 12), (.load 66 (.tmp 11)), none, false, false⟩,
    ⟨(some 13), (.move (.tmp 1)), none, false, false⟩,
    ⟨(some 14), (.call { callee := .builtin .append, args := #[.tmp 12, .tmp 13], argTypes := #[66, 9] }), none, false, true⟩,
    ⟨(some 15), (.nilCheck (.tmp 8)), none, false, false⟩,
    ⟨(some 16), (.fieldAddr 68 (.tmp 15) 1), none, false, false⟩,
    ⟨none, (.store 66 (.tmp 16) (.tmp 14)), none, false, false⟩]) (.seq (.reg [⟨(some 17), (.move (.tmp 1)), none, false, false⟩,
    ⟨(some 18), (.call { callee := .builtin .len, args := #[.tmp 17], argTypes := #[9] }), none, false, false⟩,
    ⟨(some 4), (.assign (.tmp 18)), none, false, false⟩,
    ⟨(some 5), (.assign (.const .nilIface)), none, false, false⟩]) .ret))))
theorem fn45m : FnIs Proofs.Tryd.prog 45 19 (fun t => t == 14) [.tmp 4, .tmp 5] c45m := ⟨Proofs.Tryd.f45, Proofs.Tryd.func45, by kernel_rfl, by kernel_rfl, by kernel_rfl, by kernel_rfl⟩

theorem bell_nil {n : Nat} {x : D} : Bel n (.d x) := .d x

theorem bel_bcell {b n : Nat} (hb : b < n) (fr : Bool) : Bel n (bcell b fr) := by
  cases fr
  · exact .ptr hb
  · exact .d _

theorem sub_set {h : List Blk} {b k : Nat} {X Y : Blk} (hbk : b ≠ k) : (h.set b X).set k Y = (h.set k Y).set b X := List.set_comm _ _ hbk

theorem writeByte_V {b k : Nat} {fr : Bool} {s : List UInt8} {h : List Blk} (c : UInt8) (hb : h[b]? = some (bldB b k fr s)) (hk : h[k]? = some (rowB s)) (hbk : b ≠ k) (hs : s.length + 1 ≤ 140737488355328) :
    CallW Tryd.prog 44 [.ptr b 68 0 0, .d (encU c)] h fun x h' => x = .d .nilif ∧ h' = (h.set b (bldB b k false (s ++ [c]))).set k (rowB (s ++ [c])) := by
  refine callW tb_ok fn44 (by simp) (fun hok => ?_)
  have hbl := (List.getElem?_eq_some_iff.mp hb).1
  have hkl := (List.getElem?_eq_some_iff.mp hk).1
  simp [c44]
  refine callV_of (copyCheck_V (fr := fr) (bf := bufB k s) (by simpa [bldB] using hb)) ?_
  rintro _ _ ⟨rfl, rfl⟩
  by_cases h0 : s = []
  · subst h0
    simp [bufB, bcell, hbl, encU, List.getElem_set, List.getElem_append, List.getElem?_append_left, List.set_append_left]
    have := RShift.retail (P := Tryd.prog) (m := h.length) (T := 68) (e := 5) (v := .d .nilif) (p := bcell b false) (h := h) (b := b) (k := k) (xs := [encU c]) rfl hbl (by simpa [rowB] using hk) hbk (by simp) (bel_bcell hbl false) (.d _) (Nat.le_refl _) hok
    simpa [bldB, bufB, rowB, bcell, encU] using this
  · have hk' : (h.set b (Blk.cells 68 [.agg [.ptr b 68 0 0, .bl k 5 (s.map encU)]]))[k]? = some (.tail 5 s.length) := by rw [List.getElem?_set_ne hbk]; simpa [rowB] using hk
    have hlim : s.length ≤ 140737488355327 := by omega
    simp [bufB, bcell, hbl, encU, h0, List.getElem_set, hbk, Ne.symm hbk, hk', hlim]
    refine rshift_same' ?_ (by simp)
    rw [sub_set hbk, List.set_set]
    simp [bldB, bufB, rowB, bcell, encU, sub_set hbk]


theorem encU_map (t : List UInt8) : (t.map fun c => D.int .u8 (c.toNat : Int)) = t.map encU := rfl

theorem writeString_V {b k : Nat} {fr : Bool} {s : List UInt8} {h : List Blk} (t : List UInt8) (hb : h[b]? = some (bldB b k fr s)) (hk : h[k]? = some (rowB s)) (hbk : b ≠ k) (hs : s.length + t.length ≤ 140737488355328) :
    CallW Tryd.prog 45 [.ptr b 68 0 0, .d (.str t)] h fun x h' => x = .tup [.d (.int .i64 t.length), .d .nilif] ∧ h' = (h.set b (bldB b k false (s ++ t))).set k (rowB (s ++ t)) := by
  have hbl := (List.getElem?_eq_some_iff.mp hb).1
  have hkl := (List.getElem?_eq_some_iff.mp hk).1
  by_cases h0 : s = []
  · subst h0
    by_cases h1 : t = []
    · subst h1
      refine callW tb_ok fn45m (by simp) (fun hok => ?_)
      simp [c45m]
      refine callV_of (copyCheck_V (fr := fr) (bf := bufB k []) (by simpa [bldB] using hb)) ?_
      rintro _ _ ⟨rfl, rfl⟩
      simp [bufB, bcell, hbl, List.getElem_set]
      refine rshift_same' ?_ (by simp)
      have hk2 : (h.set b (bldB b k false []))[k]? = some (rowB []) := by rw [List.getElem?_set_ne hbk]; exact hk
      have : (h.set b (bldB b k false [])).set k (rowB []) = h.set b (bldB b k false []) := by
        obtain ⟨hlt, he⟩ := List.getElem?_eq_some_iff.mp hk2
        rw [← he]; exact List.set_getElem_self hlt
      rw [this]
      simp [bldB, bufB, bcell]
    · refine callW tb_ok fn45 (by simp) (fun hok => ?_)
      have hlim : t.length ≤ 140737488355328 := by simp at hs; omega
      simp [c45]
      refine callV_of (copyCheck_V (fr := fr) (bf := bufB k []) (by simpa [bldB] using hb)) ?_
      rintro _ _ ⟨rfl, rfl⟩
      simp [bufB, bcell, hbl, encU_map, List.getElem_set, List.getElem_append, List.getElem?_append_left, List.set_append_left, hlim]
      have := RShift.retail (P := Tryd.prog) (m := h.length) (T := 68) (e := 5) (v := .tup [.d (.int .i64 t.length), .d .nilif]) (p := bcell b false) (h := h) (b := b) (k := k) (xs := t.map encU) rfl hbl (by simpa [rowB] using hk) hbk (by simpa using h1) (bel_bcell hbl false) (by simp) (Nat.le_refl _) hok
      simpa [bldB, bufB, rowB, bcell, h1] using this
  · refine callW tb_ok fn45 (by simp) (fun hok => ?_)
    simp [c45]
    refine callV_of (copyCheck_V (fr := fr) (bf := bufB k s) (by simpa [bldB] using hb)) ?_
    rintro _ _ ⟨rfl, rfl⟩
    have hk' : (h.set b (Blk.cells 68 [.agg [.ptr b 68 0 0, .bl k 5 (s.map encU)]]))[k]? = some (.tail 5 s.length) := by rw [List.getElem?_set_ne hbk]; simpa [rowB] using hk
    simp [bufB, bcell, hbl, encU_map, h0, List.getElem_set, hbk, Ne.symm hbk, hk', hs]
    refine rshift_same' ?_ (by simp)
    rw [sub_set hbk, List.set_set]
    simp [bldB, bufB, rowB, bcell, h0, sub_set hbk]

theorem len_V {b k : Nat} {fr : Bool} {s : List UInt8} {h : List Blk} (hb : h[b]? = some (bldB b k fr s)) : CallP Tryd.prog 87 [.ptr b 68 0 0] h (.d (.int .i64 s.length)) := by
  refine callW tb_ok fn87 (by simp) (fun hok => ?_)
  have hbl := (List.getElem?_eq_some_iff.mp hb).1
  have hb' := (List.getElem?_eq_some_iff.mp hb).2
  by_cases h0 : s = []
  · subst h0
    simp [c87, hbl, hb', bldB, bufB]
  · simp [c87, hbl, hb', bldB, bufB, h0]

end Go.Vm

/-
  DERIVED: THE SHELF's CONTRACTS AT THIS DUMP, IN PLAIN WORDS (tools/lay-plain.mjs out of 'TrydShelf.lean', which tools/lay-shelf.mjs wrote): THE SAME DECLARATIONS UNDER THE SAME NAMES: 'import', 'namespace', 'open', 'def', 'theorem' AND NOTHING ELSE: no command of the shelf's: FOR A HAND-IN. Each laying: the table of numbers ('.._ren') and one theorem, a field a fact of the dump's own or the kernel's comparison; each contract: ONE APPLICATION.
-/
namespace Go.Proofs
open Go.Shelf
def Tryd.laysM171_ren : Go.Shelf.Ren := ⟨fun | 171 => 46 | 243 => 83 | 246 => 98 | 283 => 105 | 284 => 106 | 285 => 107 | 286 => 108 | 129 => 117 | 317 => 116 | 318 => 118 | 319 => 119 | 320 => 120 | 337 => 123 | 338 => 124 | n => n, fun | 3 => 3 | 9 => 9 | 2 => 2 | 4 => 4 | 171 => 127 | 0 => 0 | 53 => 119 | 37 => 66 | 5 => 5 | 173 => 130 | 212 => 146 | 51 => 116 | 20 => 20 | 213 => 147 | 46 => 98 | 232 => 153 | 233 => 154 | n => n, fun | 17 => 3 | 18 => 4 | 19 => 5 | n => n⟩
theorem Tryd.laysM171 : Go.Proofs.LaysM.n171 Tryd.prog Tryd.laysM171_ren := {
  mixed := by kernel_rfl
  f129 := Tryd.func117.trans (congrArg some (by kernel_rfl))
  f171 := Tryd.func46.trans (congrArg some (by kernel_rfl))
  f243 := Tryd.func83.trans (congrArg some (by kernel_rfl))
  f246 := Tryd.func98.trans (congrArg some (by kernel_rfl))
  f283 := Tryd.func105.trans (congrArg some (by kernel_rfl))
  f284 := Tryd.func106.trans (congrArg some (by kernel_rfl))
  f285 := Tryd.func107.trans (congrArg some (by kernel_rfl))
  f286 := Tryd.func108.trans (congrArg some (by kernel_rfl))
  f317 := Tryd.func116.trans (congrArg some (by kernel_rfl))
  f318 := Tryd.func118.trans (congrArg some (by kernel_rfl))
  f319 := Tryd.func119.trans (congrArg some (by kernel_rfl))
  f320 := Tryd.func120.trans (congrArg some (by kernel_rfl))
  f337 := Tryd.func123.trans (congrArg some (by kernel_rfl))
  f338 := Tryd.func124.trans (congrArg some (by kernel_rfl))
  t0 := Tryd.underlying0
  a0 := Tryd.isAgg0
  z0 := Tryd.sizeOf0
  v0 := Tryd.zeroValue0
  t2 := Tryd.underlying2
  a2 := Tryd.isAgg2
  z2 := Tryd.sizeOf2
  v2 := Tryd.zeroValue2
  t3 := Tryd.underlying3
  a3 := Tryd.isAgg3
  z3 := Tryd.sizeOf3
  v3 := Tryd.zeroValue3
  t4 := Tryd.underlying4
  a4 := Tryd.isAgg4
  z4 := Tryd.sizeOf4
  v4 := Tryd.zeroValue4
  t5 := Tryd.underlying5
  a5 := Tryd.isAgg5
  z5 := Tryd.sizeOf5
  v5 := Tryd.zeroValue5
  t9 := Tryd.underlying9
  a9 := Tryd.isAgg9
  z9 := Tryd.sizeOf9
  v9 := Tryd.zeroValue9
  t20 := Tryd.underlying20
  a20 := Tryd.isAgg20
  z20 := Tryd.sizeOf20
  v20 := Tryd.zeroValue20
  t37 := Tryd.underlying66
  a37 := Tryd.isAgg66
  z37 := Tryd.sizeOf66
  v37 := Tryd.zeroValue66
  t46 := Tryd.underlying98
  a46 := Tryd.isAgg98
  z46 := Tryd.sizeOf98
  v46 := Tryd.zeroValue98
  t51 := Tryd.underlying116
  a51 := Tryd.isAgg116
  z51 := Tryd.sizeOf116
  v51 := Tryd.zeroValue116
  t53 := Tryd.underlying119
  a53 := Tryd.isAgg119
  z53 := Tryd.sizeOf119
  v53 := Tryd.zeroValue119
  t171 := Tryd.underlying127
  a171 := Tryd.isAgg127
  z171 := Tryd.sizeOf127
  v171 := Tryd.zeroValue127
  t173 := Tryd.underlying130
  a173 := Tryd.isAgg130
  z173 := Tryd.sizeOf130
  v173 := Tryd.zeroValue130
  t212 := Tryd.underlying146
  a212 := Tryd.isAgg146
  z212 := Tryd.sizeOf146
  v212 := Tryd.zeroValue146
  t213 := Tryd.underlying147
  a213 := Tryd.isAgg147
  z213 := Tryd.sizeOf147
  t232 := Tryd.underlying153
  a232 := Tryd.isAgg153
  z232 := Tryd.sizeOf153
  v232 := Tryd.zeroValue153
  t233 := Tryd.underlying154
  a233 := Tryd.isAgg154
  z233 := Tryd.sizeOf154
  v233 := Tryd.zeroValue154
  g17 := by kernel_rfl
  g18 := by kernel_rfl
  g19 := by kernel_rfl
  i0 := by kernel_rfl
  i2 := by kernel_rfl
  i3 := by kernel_rfl
  i4 := by kernel_rfl
  i5 := by kernel_rfl
  i9 := by kernel_rfl
  i20 := by kernel_rfl
  i37 := by kernel_rfl
  i46 := by kernel_rfl
  i51 := by kernel_rfl
  i53 := by kernel_rfl
  i171 := by kernel_rfl
  i173 := by kernel_rfl
  i212 := by kernel_rfl
  i232 := by kernel_rfl
  i233 := by kernel_rfl
  m17 := by kernel_rfl
  m18 := by kernel_rfl
  m19 := by kernel_rfl }
open Go.RowKit Go.Sort Go.Lib in
/-- strconv.Itoa: "Itoa is equivalent to FormatInt(int64(i), 10).": i's DECIMAL NUMERAL ('Lib.itoa': a '-' where i is negative, then the digits), FOR EVERY int. The world behind the call: the world before it, new blocks behind the heap (the library's 'var a [24]byte'), draws. (LAID: no walk: one application.) -/
theorem Tryd.strconv_Itoa (n : Int) (h0 : -9223372036854775808 ≤ n) (h1 : n ≤ 9223372036854775807) (w : World) (htab : Lib.TabIs Tryd.prog w "internal/strconv.uint64pow10" .u64 Lib.pow10Tab) :
    Calls Tryd.prog 46 #[.int .i64 n] w fun e w' => e = .returned (.string ⟨(Lib.itoa n).toArray⟩) ∧ ∃ k os, w' = grow (w.drewN k) os := Any.strconv_Itoa Tryd.laysM171 n h0 h1 w htab
def Tryd.lays144_ren : Go.Shelf.Ren := ⟨fun | 144 => 68 | 143 => 94 | 219 => 103 | 217 => 110 | 225 => 111 | 224 => 112 | 267 => 113 | 266 => 121 | 314 => 122 | n => n, fun | 9 => 9 | 4 => 4 | 3 => 3 | 5 => 5 | 46 => 98 | 146 => 117 | 51 => 116 | n => n, fun | 1 => 2 | n => n⟩
theorem Tryd.lays144 : Go.Proofs.Lays.n144 Tryd.prog Tryd.lays144_ren := {
  mixed := by kernel_rfl
  f143 := Tryd.func94.trans (congrArg some (by kernel_rfl))
  f144 := Tryd.func68.trans (congrArg some (by kernel_rfl))
  f217 := Tryd.func110.trans (congrArg some (by kernel_rfl))
  f219 := Tryd.func103.trans (congrArg some (by kernel_rfl))
  f224 := Tryd.func112.trans (congrArg some (by kernel_rfl))
  f225 := Tryd.func111.trans (congrArg some (by kernel_rfl))
  f266 := Tryd.func121.trans (congrArg some (by kernel_rfl))
  f267 := Tryd.func113.trans (congrArg some (by kernel_rfl))
  f314 := Tryd.func122.trans (congrArg some (by kernel_rfl))
  t3 := Tryd.underlying3
  a3 := Tryd.isAgg3
  z3 := Tryd.sizeOf3
  v3 := Tryd.zeroValue3
  t4 := Tryd.underlying4
  a4 := Tryd.isAgg4
  z4 := Tryd.sizeOf4
  v4 := Tryd.zeroValue4
  t5 := Tryd.underlying5
  a5 := Tryd.isAgg5
  z5 := Tryd.sizeOf5
  v5 := Tryd.zeroValue5
  t9 := Tryd.underlying9
  a9 := Tryd.isAgg9
  z9 := Tryd.sizeOf9
  v9 := Tryd.zeroValue9
  t46 := Tryd.underlying98
  a46 := Tryd.isAgg98
  z46 := Tryd.sizeOf98
  v46 := Tryd.zeroValue98
  t51 := Tryd.underlying116
  a51 := Tryd.isAgg116
  z51 := Tryd.sizeOf116
  v51 := Tryd.zeroValue116
  t146 := Tryd.underlying117
  a146 := Tryd.isAgg117
  z146 := Tryd.sizeOf117
  v146 := Tryd.zeroValue117
  g1 := by kernel_rfl }
open Go.RowKit Go.Lib in
/-- strings.Contains: "Contains reports whether substr is within s.": IT RETURNS 'Lib.contains s substr'; the world is as it was. (LAID: no walk: one application.) -/
theorem Tryd.strings_Contains (s sub : ByteArray) (m : Int) (w : World) (hs : s.size < 4294967281) (hm : w.cell? ⟨2, 0, none⟩ = some (.int .i64 m)) :
    Calls Tryd.prog 68 #[.string s, .string sub] w fun e w' => e = .returned (.bool (Lib.contains s.data.toList sub.data.toList)) ∧ w' = w := Any.strings_Contains Tryd.lays144 s sub m w hs hm
def Tryd.lays99_ren : Go.Shelf.Ren := ⟨fun | 99 => 85 | 206 => 101 | n => n, fun | 9 => 9 | 4 => 4 | 3 => 3 | n => n, fun | n => n⟩
theorem Tryd.lays99 : Go.Proofs.Lays.n99 Tryd.prog Tryd.lays99_ren := {
  mixed := by kernel_rfl
  f99 := Tryd.func85.trans (congrArg some (by kernel_rfl))
  f206 := Tryd.func101.trans (congrArg some (by kernel_rfl))
  t3 := Tryd.underlying3
  a3 := Tryd.isAgg3
  z3 := Tryd.sizeOf3
  v3 := Tryd.zeroValue3
  t4 := Tryd.underlying4
  a4 := Tryd.isAgg4
  z4 := Tryd.sizeOf4
  v4 := Tryd.zeroValue4
  t9 := Tryd.underlying9
  a9 := Tryd.isAgg9
  z9 := Tryd.sizeOf9
  v9 := Tryd.zeroValue9 }
open Go.RowKit Go.Lib in
/-- strings.HasPrefix: "HasPrefix reports whether the string s begins with prefix.": IT RETURNS 'Lib.hasPrefix s prefix'; the world is as it was. (LAID: no walk: one application.) -/
theorem Tryd.strings_HasPrefix (s p : ByteArray) (w : World) :
    Calls Tryd.prog 85 #[.string s, .string p] w fun e w' => e = .returned (.bool (Lib.hasPrefix s.data.toList p.data.toList)) ∧ w' = w := Any.strings_HasPrefix Tryd.lays99 s p w
def Tryd.lays157_ren : Go.Shelf.Ren := ⟨fun | 157 => 69 | 229 => 95 | 199 => 96 | 261 => 104 | 311 => 114 | 312 => 115 | n => n, fun | 9 => 9 | 31 => 72 | 3 => 3 | 5 => 5 | 4 => 4 | 119 => 110 | 0 => 0 | 40 => 112 | 152 => 122 | 21 => 21 | 154 => 124 | 51 => 116 | 141 => 126 | 196 => 137 | 193 => 134 | 198 => 140 | 49 => 138 | 194 => 135 | 201 => 143 | 226 => 150 | 46 => 98 | 227 => 151 | n => n, fun | 0 => 0 | 6 => 1 | n => n⟩
theorem Tryd.lays157 : Go.Proofs.Lays.n157 Tryd.prog Tryd.lays157_ren := {
  mixed := by kernel_rfl
  f157 := Tryd.func69.trans (congrArg some (by kernel_rfl))
  f199 := Tryd.func96.trans (congrArg some (by kernel_rfl))
  f229 := Tryd.func95.trans (congrArg some (by kernel_rfl))
  f261 := Tryd.func104.trans (congrArg some (by kernel_rfl))
  f311 := Tryd.func114.trans (congrArg some (by kernel_rfl))
  f312 := Tryd.func115.trans (congrArg some (by kernel_rfl))
  t0 := Tryd.underlying0
  a0 := Tryd.isAgg0
  z0 := Tryd.sizeOf0
  v0 := Tryd.zeroValue0
  t3 := Tryd.underlying3
  a3 := Tryd.isAgg3
  z3 := Tryd.sizeOf3
  v3 := Tryd.zeroValue3
  t4 := Tryd.underlying4
  a4 := Tryd.isAgg4
  z4 := Tryd.sizeOf4
  v4 := Tryd.zeroValue4
  t5 := Tryd.underlying5
  a5 := Tryd.isAgg5
  z5 := Tryd.sizeOf5
  v5 := Tryd.zeroValue5
  t9 := Tryd.underlying9
  a9 := Tryd.isAgg9
  z9 := Tryd.sizeOf9
  v9 := Tryd.zeroValue9
  t21 := Tryd.underlying21
  a21 := Tryd.isAgg21
  z21 := Tryd.sizeOf21
  v21 := Tryd.zeroValue21
  t31 := Tryd.underlying72
  a31 := Tryd.isAgg72
  z31 := Tryd.sizeOf72
  v31 := Tryd.zeroValue72
  t40 := Tryd.underlying112
  a40 := Tryd.isAgg112
  z40 := Tryd.sizeOf112
  v40 := Tryd.zeroValue112
  t46 := Tryd.underlying98
  a46 := Tryd.isAgg98
  z46 := Tryd.sizeOf98
  v46 := Tryd.zeroValue98
  t49 := Tryd.underlying138
  a49 := Tryd.isAgg138
  z49 := Tryd.sizeOf138
  v49 := Tryd.zeroValue138
  t51 := Tryd.underlying116
  a51 := Tryd.isAgg116
  z51 := Tryd.sizeOf116
  v51 := Tryd.zeroValue116
  t119 := Tryd.underlying110
  a119 := Tryd.isAgg110
  z119 := Tryd.sizeOf110
  t141 := Tryd.underlying126
  a141 := Tryd.isAgg126
  z141 := Tryd.sizeOf126
  v141 := Tryd.zeroValue126
  t152 := Tryd.underlying122
  a152 := Tryd.isAgg122
  z152 := Tryd.sizeOf122
  v152 := Tryd.zeroValue122
  t154 := Tryd.underlying124
  a154 := Tryd.isAgg124
  z154 := Tryd.sizeOf124
  v154 := Tryd.zeroValue124
  t193 := Tryd.underlying134
  a193 := Tryd.isAgg134
  z193 := Tryd.sizeOf134
  v193 := Tryd.zeroValue134
  t194 := Tryd.underlying135
  a194 := Tryd.isAgg135
  z194 := Tryd.sizeOf135
  v194 := Tryd.zeroValue135
  t196 := Tryd.underlying137
  a196 := Tryd.isAgg137
  z196 := Tryd.sizeOf137
  v196 := Tryd.zeroValue137
  t198 := Tryd.underlying140
  a198 := Tryd.isAgg140
  z198 := Tryd.sizeOf140
  v198 := Tryd.zeroValue140
  t201 := Tryd.underlying143
  a201 := Tryd.isAgg143
  z201 := Tryd.sizeOf143
  v201 := Tryd.zeroValue143
  t226 := Tryd.underlying150
  a226 := Tryd.isAgg150
  z226 := Tryd.sizeOf150
  v226 := Tryd.zeroValue150
  t227 := Tryd.underlying151
  a227 := Tryd.isAgg151
  z227 := Tryd.sizeOf151
  v227 := Tryd.zeroValue151
  g0 := by kernel_rfl
  g6 := by kernel_rfl }
open Go.RowKit Go.Lib in
/-- strings.Fields, the table by 'Lib.TabIs' (as strings.TrimSpace's contract). 'hg': the table's number, by its name: at a dump 'by kernel_rfl'. (LAID: no walk: one application.) -/
theorem Tryd.strings_Fields (s : ByteArray) (w : World) (hs : s.size < 4294967281) (hascii : ∀ (j : Nat) b, s.data.toList[j]? = some b → b.toNat < 128) (htab : Lib.TabIs Tryd.prog w "strings.asciiSpace" .u8 Lib.asciiSpaceTab) :
    Calls Tryd.prog 69 #[.string s] w fun e w' =>
      e = .returned (.slice (some ⟨w.heap.size, 0, none⟩) (Lib.fields s.data.toList).length (Lib.fields s.data.toList).length) ∧ w' = w.alloc (.cells ((Lib.fields s.data.toList).map fun l => Value.string ⟨l.toArray⟩).toArray 9) := Any.strings_Fields Tryd.lays157 (by kernel_rfl) (by kernel_rfl) s w hs hascii htab
def Tryd.laysM157_ren : Go.Shelf.Ren := ⟨fun | 157 => 69 | 229 => 95 | 199 => 96 | 261 => 104 | 311 => 114 | 312 => 115 | n => n, fun | 9 => 9 | 31 => 72 | 3 => 3 | 5 => 5 | 4 => 4 | 119 => 110 | 0 => 0 | 40 => 112 | 152 => 122 | 21 => 21 | 154 => 124 | 51 => 116 | 141 => 126 | 196 => 137 | 193 => 134 | 198 => 140 | 49 => 138 | 194 => 135 | 201 => 143 | 226 => 150 | 46 => 98 | 227 => 151 | n => n, fun | 0 => 0 | 6 => 1 | n => n⟩
theorem Tryd.laysM157 : Go.Proofs.LaysM.n157 Tryd.prog Tryd.laysM157_ren := {
  mixed := by kernel_rfl
  f157 := Tryd.func69.trans (congrArg some (by kernel_rfl))
  f199 := Tryd.func96.trans (congrArg some (by kernel_rfl))
  f229 := Tryd.func95.trans (congrArg some (by kernel_rfl))
  f261 := Tryd.func104.trans (congrArg some (by kernel_rfl))
  f311 := Tryd.func114.trans (congrArg some (by kernel_rfl))
  f312 := Tryd.func115.trans (congrArg some (by kernel_rfl))
  t0 := Tryd.underlying0
  a0 := Tryd.isAgg0
  z0 := Tryd.sizeOf0
  v0 := Tryd.zeroValue0
  t3 := Tryd.underlying3
  a3 := Tryd.isAgg3
  z3 := Tryd.sizeOf3
  v3 := Tryd.zeroValue3
  t4 := Tryd.underlying4
  a4 := Tryd.isAgg4
  z4 := Tryd.sizeOf4
  v4 := Tryd.zeroValue4
  t5 := Tryd.underlying5
  a5 := Tryd.isAgg5
  z5 := Tryd.sizeOf5
  v5 := Tryd.zeroValue5
  t9 := Tryd.underlying9
  a9 := Tryd.isAgg9
  z9 := Tryd.sizeOf9
  v9 := Tryd.zeroValue9
  t21 := Tryd.underlying21
  a21 := Tryd.isAgg21
  z21 := Tryd.sizeOf21
  v21 := Tryd.zeroValue21
  t31 := Tryd.underlying72
  a31 := Tryd.isAgg72
  z31 := Tryd.sizeOf72
  v31 := Tryd.zeroValue72
  t40 := Tryd.underlying112
  a40 := Tryd.isAgg112
  z40 := Tryd.sizeOf112
  v40 := Tryd.zeroValue112
  t46 := Tryd.underlying98
  a46 := Tryd.isAgg98
  z46 := Tryd.sizeOf98
  v46 := Tryd.zeroValue98
  t49 := Tryd.underlying138
  a49 := Tryd.isAgg138
  z49 := Tryd.sizeOf138
  v49 := Tryd.zeroValue138
  t51 := Tryd.underlying116
  a51 := Tryd.isAgg116
  z51 := Tryd.sizeOf116
  v51 := Tryd.zeroValue116
  t119 := Tryd.underlying110
  a119 := Tryd.isAgg110
  z119 := Tryd.sizeOf110
  t141 := Tryd.underlying126
  a141 := Tryd.isAgg126
  z141 := Tryd.sizeOf126
  v141 := Tryd.zeroValue126
  t152 := Tryd.underlying122
  a152 := Tryd.isAgg122
  z152 := Tryd.sizeOf122
  v152 := Tryd.zeroValue122
  t154 := Tryd.underlying124
  a154 := Tryd.isAgg124
  z154 := Tryd.sizeOf124
  v154 := Tryd.zeroValue124
  t193 := Tryd.underlying134
  a193 := Tryd.isAgg134
  z193 := Tryd.sizeOf134
  v193 := Tryd.zeroValue134
  t194 := Tryd.underlying135
  a194 := Tryd.isAgg135
  z194 := Tryd.sizeOf135
  v194 := Tryd.zeroValue135
  t196 := Tryd.underlying137
  a196 := Tryd.isAgg137
  z196 := Tryd.sizeOf137
  v196 := Tryd.zeroValue137
  t198 := Tryd.underlying140
  a198 := Tryd.isAgg140
  z198 := Tryd.sizeOf140
  v198 := Tryd.zeroValue140
  t201 := Tryd.underlying143
  a201 := Tryd.isAgg143
  z201 := Tryd.sizeOf143
  v201 := Tryd.zeroValue143
  t226 := Tryd.underlying150
  a226 := Tryd.isAgg150
  z226 := Tryd.sizeOf150
  v226 := Tryd.zeroValue150
  t227 := Tryd.underlying151
  a227 := Tryd.isAgg151
  z227 := Tryd.sizeOf151
  v227 := Tryd.zeroValue151
  g0 := by kernel_rfl
  g6 := by kernel_rfl
  i0 := by kernel_rfl
  i3 := by kernel_rfl
  i4 := by kernel_rfl
  i5 := by kernel_rfl
  i9 := by kernel_rfl
  i21 := by kernel_rfl
  i31 := by kernel_rfl
  i40 := by kernel_rfl
  i46 := by kernel_rfl
  i49 := by kernel_rfl
  i51 := by kernel_rfl
  i141 := by kernel_rfl
  i152 := by kernel_rfl
  i154 := by kernel_rfl
  i193 := by kernel_rfl
  i194 := by kernel_rfl
  i196 := by kernel_rfl
  i198 := by kernel_rfl
  i201 := by kernel_rfl
  i226 := by kernel_rfl
  i227 := by kernel_rfl
  m0 := by kernel_rfl
  m6 := by kernel_rfl }
open Go.RowKit Go.Lib in
/-- strings.Fields on ASCII bytes. (The table: 'Lib.TabIs', as strings.TrimSpace's contract asks it.) (LAID: no walk: one application.) -/
theorem Tryd.strings_Fields_laid (s : ByteArray) (w : World) (hs : s.size < 4294967281) (hascii : ∀ (j : Nat) b, s.data.toList[j]? = some b → b.toNat < 128) (htab : Lib.TabIs Tryd.prog w "strings.asciiSpace" .u8 Lib.asciiSpaceTab) :
    Calls Tryd.prog 69 #[.string s] w fun e w' =>
      e = .returned (.slice (some ⟨w.heap.size, 0, none⟩) (Lib.fields s.data.toList).length (Lib.fields s.data.toList).length) ∧ w' = w.alloc (.cells ((Lib.fields s.data.toList).map fun l => Value.string ⟨l.toArray⟩).toArray 9) := Any.strings_Fields_laid Tryd.laysM157 s w hs hascii htab
def Tryd.lays105_ren : Go.Shelf.Ren := ⟨fun | 105 => 47 | 212 => 84 | 99 => 85 | 165 => 86 | 166 => 45 | 170 => 87 | 169 => 48 | 263 => 99 | 264 => 100 | 206 => 101 | 240 => 82 | 241 => 102 | 276 => 97 | 277 => 109 | n => n, fun | 9 => 9 | 3 => 3 | 4 => 4 | 20 => 20 | 0 => 0 | 46 => 98 | 109 => 99 | 5 => 5 | 72 => 68 | 76 => 75 | 51 => 116 | 146 => 117 | 53 => 119 | 148 => 120 | 70 => 65 | 37 => 66 | 75 => 70 | 127 => 103 | 164 => 113 | 80 => 79 | n => n, fun | n => n⟩
theorem Tryd.lays105 : Go.Proofs.Lays.n105 Tryd.prog Tryd.lays105_ren := {
  mixed := by kernel_rfl
  f99 := Tryd.func85.trans (congrArg some (by kernel_rfl))
  f105 := Tryd.func47.trans (congrArg some (by kernel_rfl))
  f165 := Tryd.func86.trans (congrArg some (by kernel_rfl))
  f166 := Tryd.func45.trans (congrArg some (by kernel_rfl))
  f169 := Tryd.func48.trans (congrArg some (by kernel_rfl))
  f170 := Tryd.func87.trans (congrArg some (by kernel_rfl))
  f206 := Tryd.func101.trans (congrArg some (by kernel_rfl))
  f212 := Tryd.func84.trans (congrArg some (by kernel_rfl))
  f240 := Tryd.func82.trans (congrArg some (by kernel_rfl))
  f241 := Tryd.func102.trans (congrArg some (by kernel_rfl))
  f263 := Tryd.func99.trans (congrArg some (by kernel_rfl))
  f264 := Tryd.func100.trans (congrArg some (by kernel_rfl))
  f276 := Tryd.func97.trans (congrArg some (by kernel_rfl))
  f277 := Tryd.func109.trans (congrArg some (by kernel_rfl))
  t0 := Tryd.underlying0
  a0 := Tryd.isAgg0
  z0 := Tryd.sizeOf0
  v0 := Tryd.zeroValue0
  t3 := Tryd.underlying3
  a3 := Tryd.isAgg3
  z3 := Tryd.sizeOf3
  v3 := Tryd.zeroValue3
  t4 := Tryd.underlying4
  a4 := Tryd.isAgg4
  z4 := Tryd.sizeOf4
  v4 := Tryd.zeroValue4
  t5 := Tryd.underlying5
  a5 := Tryd.isAgg5
  z5 := Tryd.sizeOf5
  v5 := Tryd.zeroValue5
  t9 := Tryd.underlying9
  a9 := Tryd.isAgg9
  z9 := Tryd.sizeOf9
  v9 := Tryd.zeroValue9
  t20 := Tryd.underlying20
  a20 := Tryd.isAgg20
  z20 := Tryd.sizeOf20
  v20 := Tryd.zeroValue20
  t37 := Tryd.underlying66
  a37 := Tryd.isAgg66
  z37 := Tryd.sizeOf66
  v37 := Tryd.zeroValue66
  t46 := Tryd.underlying98
  a46 := Tryd.isAgg98
  z46 := Tryd.sizeOf98
  v46 := Tryd.zeroValue98
  t51 := Tryd.underlying116
  a51 := Tryd.isAgg116
  z51 := Tryd.sizeOf116
  v51 := Tryd.zeroValue116
  t53 := Tryd.underlying119
  a53 := Tryd.isAgg119
  z53 := Tryd.sizeOf119
  v53 := Tryd.zeroValue119
  t70 := Tryd.underlying65
  a70 := Tryd.isAgg65
  z70 := Tryd.sizeOf65
  v70 := Tryd.zeroValue65
  t72 := Tryd.underlying68
  a72 := Tryd.isAgg68
  z72 := Tryd.sizeOf68
  v72 := Tryd.zeroValue68
  t75 := Tryd.underlying70
  a75 := Tryd.isAgg70
  z75 := Tryd.sizeOf70
  v75 := Tryd.zeroValue70
  t76 := Tryd.underlying75
  a76 := Tryd.isAgg75
  z76 := Tryd.sizeOf75
  v76 := Tryd.zeroValue75
  t109 := Tryd.underlying99
  a109 := Tryd.isAgg99
  z109 := Tryd.sizeOf99
  v109 := Tryd.zeroValue99
  t127 := Tryd.underlying103
  a127 := Tryd.isAgg103
  z127 := Tryd.sizeOf103
  v127 := Tryd.zeroValue103
  t146 := Tryd.underlying117
  a146 := Tryd.isAgg117
  z146 := Tryd.sizeOf117
  v146 := Tryd.zeroValue117
  t148 := Tryd.underlying120
  a148 := Tryd.isAgg120
  z148 := Tryd.sizeOf120
  v148 := Tryd.zeroValue120
  t164 := Tryd.underlying113
  a164 := Tryd.isAgg113
  z164 := Tryd.sizeOf113
  v164 := Tryd.zeroValue113 }
theorem Tryd.Builder_Extra_105 : Builder.Extra Tryd.prog Tryd.lays105_ren := {
  sizeBuilder := by kernel_rfl
  liesBuilder := by kernel_rfl
  t5 := Tryd.underlying5
  a5 := Tryd.isAgg5
  z5 := Tryd.sizeOf5
  v5 := Tryd.zeroValue5
  infoByte := by kernel_rfl
  cellsByte := by kernel_rfl
  sizeByte := by kernel_rfl
  neB5 := by decide }
open Go.RowKit Go.Lib in
/-- **strings.Repeat: count ≥ 0, the result within one allocation: count copies of s.** (LAID: no walk: one application.) -/
theorem Tryd.strings_Repeat (s : ByteArray) (c : Nat) (w : World) (hc : c ≤ 9223372036854775807) (hlen : s.size * c ≤ 140737488355328) :
    Calls Tryd.prog 47 #[.string s, .int .i64 c] w fun e w' => e = .returned (.string ⟨(Lib.repeatL s.data.toList c).toArray⟩) ∧ Below w.heap.size w w' := Any.strings_Repeat Tryd.lays105 Tryd.Builder_Extra_105 s c w hc hlen
end Go.Proofs
