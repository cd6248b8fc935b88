/- Bu: BuA, BuB, BuC, Shelf. -/
import Derived.Test.YtggeifnbllfmbaaDoorC0
import Derived.Test.YtggeifnbllfmbaaDoorTab
import Derived.Test.YtggeifnbllfmbaaDoorVMd
import Derived.Lib.Strings
import Derived.Lib.Slices
import Derived.Lib.Walk
import Derived.Lib.Builder
import Derived.Lib.UnsafeStr
import Derived.Shelf.Strings.Builder1
import Derived.Shelf.Strings.Builder2
import Derived.Shelf.Small.Strs
import Derived.Shelf.Utf8.RuneCount
import Derived.Shelf.Strings.Search1
import Derived.Shelf.Strings.Search2
import Derived.Shelf.Strings.Search3
import Derived.Shelf.Strings.Count
import Derived.Shelf.LaysM
import Derived.Shelf.Strings.Shaped
import Derived.Shelf.Strings.Split
import Derived.Shelf.Strings.Replace
import Derived.Shelf.Strings.SplitShaped
import Derived.Shelf.Unicode.Decode
import Derived.Shelf.Strings.RuneCount
import Derived.Shelf.Unicode.DecodeSlow
import Derived.Shelf.Unicode.DecodeAny
import Derived.Test.YtggeifnbllfmbaaDoorProg
/- strings.Builder: copyCheck, String, walked over the program (by program, out of tmpl/BuA.lean). -/
set_option linter.unusedSimpArgs false
namespace Go.Vm
open Proofs

set_option maxHeartbeats 1000000 in
set_option maxRecDepth 100000 in
theorem copyCheck_used (b : Nat) (w : World) (h0 : w.cell? ⟨b, 0, none⟩ = some (.pointer (some ⟨b, 0, none⟩))) :
    Calls Tryd.prog 44 #[.pointer (some ⟨b, 0, none⟩)] w fun e w' => e = .returned (.tuple #[]) ∧ w' = w := by
  obtain ⟨j, hj, _⟩ : ∃ j, Tryd.prog.info? 56 = some j ∧ j.size = 2 := Option.map_eq_some_iff.1 (show (Tryd.prog.info? 56).map (·.size) = some 2 from by kernel_rfl)
  go_enter Tryd.func44, Tryd.ntmps44
  go_wp2
  rw [Lib.run_neq_ptr_same w _ Tryd.underlying53 hj]
  go_wp2
  go_end0
  exact ⟨rfl, rfl⟩

set_option maxHeartbeats 1000000 in
set_option maxRecDepth 100000 in
theorem copyCheck_fresh (b c : Nat) (w : World) (h0 : w.cell? ⟨b, 0, none⟩ = some (.pointer none)) (hsh : w.shape? b = some (56, c)) (hc : 0 < c) (hli : liesAt Tryd.prog Tryd.prog.depth 56 (c / Tryd.prog.cellsOf 56) 0 56 1 = true) (hfz : w.frozen? ⟨b, 0, none⟩ = false) :
    Calls Tryd.prog 44 #[.pointer (some ⟨b, 0, none⟩)] w fun e w' => e = .returned (.tuple #[]) ∧ w' = w.setCell ⟨b, 0, none⟩ (.pointer (some ⟨b, 0, none⟩)) := by
  obtain ⟨j, hj, hjs⟩ : ∃ j, Tryd.prog.info? 56 = some j ∧ j.size = 2 := Option.map_eq_some_iff.1 (show (Tryd.prog.info? 56).map (·.size) = some 2 from by kernel_rfl)
  go_enter Tryd.func44, Tryd.ntmps44
  go_wp2
  rw [Lib.run_to_unsafe w ⟨b, 0, none⟩ Tryd.underlying53 Tryd.underlying86 hj (by rw [hjs]; decide) hsh hc]
  simp only [Result.andThen]
  rw [Oper.upon_value]
  go_wp2
  rw [run_callFunc_extern Tryd.func51 (by kernel_rfl) (by kernel_rfl) (by kernel_rfl) (e := Extern.AbiNoEscape.same) (by kernel_rfl)]
  rw [Lib.run_noEscape]
  simp only [Result.andThen]
  rw [Oper.upon_value]
  go_wp2
  rw [Lib.run_from_unsafe w ⟨b, 0, none⟩ Tryd.underlying86 Tryd.underlying53 hj hsh hli]
  simp only [Result.andThen]
  rw [Oper.upon_value]
  go_wp2
  go_end0
  exact ⟨rfl, rfl⟩

theorem lies_self (n : Nat) (hn : 1 ≤ n) : liesAt Tryd.prog Tryd.prog.depth 56 (2 * n / Tryd.prog.cellsOf 56) 0 56 1 = true := by
  obtain ⟨d, hd⟩ : ∃ d, Tryd.prog.depth = d + 1 := ⟨Tryd.prog.depth - 1, by kernel_rfl⟩
  have hc : Tryd.prog.cellsOf 56 = 2 := by kernel_rfl
  have hs : sameLayout Tryd.prog Tryd.prog.depth 56 56 = true := by kernel_rfl
  rw [hc, show 2 * n / 2 = n by omega]
  rw [hd] at hs ⊢
  simp [liesAt, hd, rowAt, hc, hs, hn]

set_option maxHeartbeats 2000000 in
set_option maxRecDepth 100000 in
theorem builderString_row (b g cap : Nat) (cur : Array Value) (l : List UInt8) (w : World) (h0 : l ≠ []) (hbk : w.cell? ⟨b, 1, none⟩ = some (.slice (some ⟨g, 0, none⟩) l.length cap)) (hg : w.heap[g]? = some (.cells cur 5 (0, 0)))
    (hnc : l.length ≤ cap) (hcs : cur.size = cap) (h63 : l.length ≤ 9223372036854775807) (hcell : ∀ j x, l[j]? = some x → w.cell? ((⟨g, 0, none⟩ : Addr).add j) = some (.int .u8 x.toNat)) :
    Calls Tryd.prog 32 #[.pointer (some ⟨b, 0, none⟩)] w fun e w' => e = .returned (.string ⟨l.toArray⟩) ∧ w' = w.drew.freeze ⟨g, 0, none⟩ l.length := by
  have hl0 : l.length ≠ 0 := by simpa using h0
  have c1 : w.drew.cell? ⟨b, 1, none⟩ = some (.slice (some ⟨g, 0, none⟩) l.length cap) := hbk
  have hSD : (Builtin.unsafeSliceData_ #[54] 82 #[.slice (some ⟨g, 0, none⟩) l.length cap]).run Tryd.prog w.drew = .ok (.pointer (some ⟨g, 0, none⟩)) w.drew :=
    Lib.run_unsafeSliceData_row _ _ _ _ _ _ (by omega)
  have hUS : (Builtin.unsafeString_ #[82, 3] 9 #[.pointer (some ⟨g, 0, none⟩), .int .i64 l.length]).run Tryd.prog w.drew = .ok (.string ⟨l.toArray⟩) (w.drew.freeze ⟨g, 0, none⟩ l.length) :=
    Lib.run_unsafeString_row w.drew 82 3 9 5 Tryd.underlying82 (by kernel_rfl) g cur.size (by have hg' : w.drew.heap[g]? = some (.cells cur 5 (0, 0)) := hg; simp [World.shape?, hg']) l h0 (by omega) h63 hcell
  clear hcell hcs hnc hl0 h63
  go_enter Tryd.func32, Tryd.ntmps32
  go_wp2
  go_region
  all_goals (go_wp2; go_ret; exact ⟨rfl, rfl⟩)

set_option maxHeartbeats 2000000 in
set_option maxRecDepth 100000 in
theorem builderString_same (b cap : Nat) (A q : Option Addr) (w : World) (hbk : w.cell? ⟨b, 1, none⟩ = some (.slice A 0 cap))
    (hSD : (Builtin.unsafeSliceData_ #[54] 82 #[.slice A 0 cap]).run Tryd.prog w.drew = .ok (.pointer q) w.drew) :
    Calls Tryd.prog 32 #[.pointer (some ⟨b, 0, none⟩)] w fun e w' => e = .returned (.string ⟨#[]⟩) ∧ w' = w.drew := by
  have hUS : ∀ W, (Builtin.unsafeString_ #[82, 3] 9 #[.pointer q, .int .i64 0]).run Tryd.prog W = .ok (.string .empty) W := fun W => Lib.run_unsafeString_none W _ _ _ q
  have c1 : w.drew.cell? ⟨b, 1, none⟩ = some (.slice A 0 cap) := hbk
  go_enter Tryd.func32, Tryd.ntmps32
  go_wp2
  go_region
  all_goals (go_wp2; go_ret; exact ⟨rfl, rfl⟩)

set_option maxHeartbeats 2000000 in
set_option maxRecDepth 100000 in
theorem builderString_view (b : Nat) (a : Addr) (w : World) (o : Obj) (hlt : b < w.heap.size) (hbk : w.cell? ⟨b, 1, none⟩ = some (.slice (some a) 0 0))
    (hSD : (Builtin.unsafeSliceData_ #[54] 82 #[.slice (some a) 0 0]).run Tryd.prog w.drew = .ok (.pointer (some ⟨w.drew.heap.size, 0, none⟩)) (w.drew.alloc o)) :
    Calls Tryd.prog 32 #[.pointer (some ⟨b, 0, none⟩)] w fun e w' => e = .returned (.string ⟨#[]⟩) ∧ w' = w.drew.alloc o := by
  have hUS : ∀ W q, (Builtin.unsafeString_ #[82, 3] 9 #[.pointer q, .int .i64 0]).run Tryd.prog W = .ok (.string .empty) W := fun W q => Lib.run_unsafeString_none W _ _ _ q
  have c1 : w.drew.cell? ⟨b, 1, none⟩ = some (.slice (some a) 0 0) := hbk
  have c2 : (w.drew.alloc o).cell? ⟨b, 1, none⟩ = some (.slice (some a) 0 0) := by
    have : (w.drew.alloc o).heap[b]? = w.drew.heap[b]? := Lib.alloc_old w.drew _ b hlt
    simp only [World.cell?, this]
    exact hbk
  have c3 : (w.alloc o).drew.cell? ⟨b, 1, none⟩ = some (.slice (some a) 0 0) := c2
  have c0 : w.cell? ⟨b, 1, none⟩ = some (.slice (some a) 0 0) := c1
  go_enter Tryd.func32, Tryd.ntmps32
  go_wp2
  go_region
  all_goals (go_wp2; go_ret; exact ⟨rfl, rfl⟩)

end Go.Vm

/- strings.Builder as the machine of values sees it (by program, out of tmpl/BuB.lean). -/
namespace Go.Vm
open Proofs
set_option maxRecDepth 10000
set_option maxHeartbeats 1000000
set_option linter.unusedSimpArgs false

/-- What a builder's first field holds: nil, or the builder's own address. -/
def bcell (b : Nat) (fr : Bool) : AV := if fr then .d .nilptr else .ptr b 56 0 0
/-- A builder in block b, whose row is block k. -/
def bufB (k : Nat) (s : List UInt8) : AV := if s = [] then .d .nilsl else .bl k 5 (s.map encU)
def bldB (b k : Nat) (fr : Bool) (s : List UInt8) : Blk := .cells 56 [.agg [bcell b fr, bufB k s]]
def rowB (s : List UInt8) : Blk := .tail 5 s.length

theorem argsRel1 {sz : TypeId → Nat} {F : Frz} {ρ : Env0} {n : Nat} {x : AV} {vs : Array Value} (h : ArgsRel sz F ρ n [x] vs) : ∃ a, vs = #[a] ∧ VRel sz F ρ n x a := by
  obtain ⟨h1, h2⟩ := h
  obtain ⟨a, ha, hxa⟩ := h2 0 x rfl
  refine ⟨a, ?_, hxa⟩
  have hs : vs.size = 1 := by simpa using h1.symm
  obtain ⟨i0, e0⟩ := Array.getElem?_eq_some_iff.mp ha
  refine Array.ext (by simp [hs]) fun k hk hk' => ?_
  match k, hk' with
  | 0, _ => exact e0

theorem szB : psz Tryd.prog 56 = 2 := by kernel_rfl
theorem szU : psz Tryd.prog 5 = 1 := by kernel_rfl

/-- Where a builder lies. -/
theorem bld_at {base : Nat} {w0 w : World} {F : Frz} {ρ : Env0} {h : List Blk} (hst : St (psz Tryd.prog) base w0 F ρ h w) {b : Nat} {p bf : AV} (hb : h[b]? = some (.cells 56 [.agg [p, bf]])) {cp : Value} (hp : VRel (psz Tryd.prog) F ρ h.length (.ptr b 56 0 0) cp) :
    ∃ B N c v0 v1, cp = .pointer (some ⟨B, 0, none⟩) ∧ ρ b = .mt B N ∧ base ≤ B ∧ w.heap[B]? = some (.cells c 56 (0, 0)) ∧ (∀ a, a.block = B → F a = none) ∧ 1 ≤ N ∧ c.size = 2 * N ∧ c[0]? = some v0 ∧ c[1]? = some v1 ∧
      VRel (psz Tryd.prog) F ρ h.length p v0 ∧ VRel (psz Tryd.prog) F ρ h.length bf v1 ∧ v0.oneCell' = true ∧ v1.oneCell' = true := by
  obtain ⟨B, N, c, e0, h1, h2, h3, h4, ⟨h5, h6, h7⟩, h8⟩ := hst.blk b _ hb
  subst h7
  obtain ⟨h9, h10⟩ := h8 0 _ rfl
  obtain ⟨v0, a1, a2, a3⟩ := h10 0 p rfl
  obtain ⟨v1, b1, b2, b3⟩ := h10 1 bf rfl
  cases hp with
  | ptr hb' hl =>
    have := hl B N h1
    subst this
    rw [szB] at h6 a1 b1
    exact ⟨B, N, c, v0, v1, by simp, h1, h2, h3, h4, by simpa using h5, by omega, by simpa using a1, by simpa using b1, a2, b2, a3, b3⟩

theorem copyCheck_V {b : Nat} {fr : Bool} {bf : AV} {h : List Blk} (hb : h[b]? = some (.cells 56 [.agg [bcell b fr, bf]])) :
    CallW Tryd.prog 44 [.ptr b 56 0 0] h fun x h' => x = .tup [] ∧ h' = h.set b (.cells 56 [.agg [bcell b false, bf]]) := by
  refine ⟨⟨Tryd.f44, Tryd.func44, by kernel_rfl, by kernel_rfl⟩, fun base w0 F ρ w vs hst ha => ?_⟩
  obtain ⟨cp, rfl, hp⟩ := argsRel1 ha
  obtain ⟨B, N, c, v0, v1, rfl, h1, h2, h3, h4, h5, h6, h7, h8, h9, h10, h11, h12⟩ := bld_at hst hb hp
  have hlt := (List.getElem?_eq_some_iff.mp hb).1
  have c0 : w.cell? ⟨B, 0, none⟩ = some v0 := by simp [World.cell?, h3, h7]
  cases fr with
  | true =>
    have : v0 = .pointer none := by
      simp only [bcell, if_true] at h9
      cases h9 with | d h9 => cases h9; rfl
    subst this
    refine (copyCheck_fresh B c.size w c0 (by simp [World.shape?, h3]) (by omega) (by rw [h6]; exact lies_self N h5) (Lib.frozen_of_heap h3 0)).mono ?_
    rintro e w' ⟨rfl, rfl⟩
    rw [setCell_setBlk h3]
    refine ⟨_, .tup [], _, F, ρ, rfl, Ext.refl _ _ _, hst.rewrite hlt (.inl ⟨N, h1⟩) h2 h4 (blk := .cells 56 [.agg [bcell b false, bf]]) ⟨B, N, c.setIfInBounds 0 (.pointer (some ⟨B, 0, none⟩)), 56, h1, h2, ?_, h4, ⟨by simpa using h5, by rw [szB]; simp; omega, rfl⟩, fun i x hi => ?_⟩, ?_, by simp, rfl, rfl⟩
    · rw [setBlk_get]; simp [(Array.getElem?_eq_some_iff.mp h3).1]
    · cases i with
      | succ i => simp at hi
      | zero =>
        simp at hi
        subst hi
        refine ⟨by rw [szB]; rfl, fun k y hk => ?_⟩
        have hcs : 0 < c.size := by omega
        match k, hk with
        | 0, hk =>
          simp [AV.cells] at hk
          subst hk
          refine ⟨.pointer (some ⟨B, 0, none⟩), by simp [hcs], ?_, rfl⟩
          simp only [bcell, Bool.false_eq_true, if_false]
          refine .ptr hlt (fun B' N' hl => ?_)
          rw [h1] at hl
          cases hl
          simp
        | 1, hk =>
          simp [AV.cells] at hk
          subst hk
          exact ⟨v1, by simpa using h8, h10, h12⟩
        | k + 2, hk => simp [AV.cells] at hk
    · rw [List.length_set]; exact .tup [] #[] rfl (fun _ => .nilIface) (by simp) (by simp)
  | false =>
    have : v0 = .pointer (some ⟨B, 0, none⟩) := by
      simp only [bcell, Bool.false_eq_true, if_false] at h9
      cases h9 with | ptr hb' hl => have := hl B N h1; subst this; simp
    subst this
    refine (copyCheck_used B w c0).mono ?_
    rintro e w' ⟨rfl, rfl⟩
    have hs : h.set b (.cells 56 [.agg [bcell b false, bf]]) = h := by
      obtain ⟨hlt, he⟩ := List.getElem?_eq_some_iff.mp hb
      rw [← he]; exact List.set_getElem_self hlt
    rw [hs]
    exact ⟨_, .tup [], h, F, ρ, rfl, Ext.refl _ _ _, hst, .tup [] #[] rfl (fun _ => .nilIface) (by simp) (by simp), Nat.le_refl _, rfl, rfl⟩

theorem str_empty {sz : TypeId → Nat} {F : Frz} {ρ : Env0} {n : Nat} : VRel sz F ρ n (.d (.str [])) (.string ⟨#[]⟩) := .d (.str [])

theorem bytes_map (s : List UInt8) : flatD (s.map encU) = s.map encU := by
  induction s with
  | nil => rfl
  | cons x s ih => simp only [flatD, List.map_cons, List.flatMap_cons] at ih ⊢; rw [ih]; rfl

theorem string_V {b k : Nat} {fr : Bool} {s : List UInt8} {h : List Blk} (hb : h[b]? = some (bldB b k fr s)) (hk : h[k]? = some (rowB s)) (hs : s.length < 9223372036854775807) :
    CallW Tryd.prog 32 [.ptr b 56 0 0] h fun x h' => x = .d (.str s) ∧ h' = h.set k .gone := by
  refine ⟨⟨Tryd.f32, Tryd.func32, by kernel_rfl, by kernel_rfl⟩, fun base w0 F ρ w vs hst ha => ?_⟩
  obtain ⟨cp, rfl, hp⟩ := argsRel1 ha
  obtain ⟨B, N, c, v0, v1, rfl, h1, h2, h3, h4, h5, h6, h7, h8, h9, h10, h11, h12⟩ := bld_at hst hb hp
  have hkl := (List.getElem?_eq_some_iff.mp hk).1
  by_cases h0 : s = []
  · subst h0
    have hv1 : v1 = .slice none 0 0 := by
      simp only [bufB, if_true] at h10
      cases h10 with | d h10 => cases h10; rfl
    subst hv1
    have c1 : w.cell? ⟨B, 1, none⟩ = some (.slice none 0 0) := by simp [World.cell?, h3, h8]
    refine (builderString_same B 0 none none w c1 rfl).mono ?_
    rintro e w' ⟨rfl, rfl⟩
    exact ⟨_, _, _, F, ρ, rfl, Ext.refl _ _ _, hst.drew.forget k, str_empty, by simp, rfl, rfl⟩
  · simp only [bufB, h0, if_false] at h10
    obtain ⟨A, cap, rfl, h13, h14, h15, h16⟩ := bld_inv hst (xs := s.map encU) (by simpa [rowB] using hk) h10
    simp only [List.length_map] at h8 h13 h14 h15 h16
    have c1 : w.cell? ⟨B, 1, none⟩ = some (.slice A s.length cap) := by simp [World.cell?, h3, h8]
    have hs0 : s.length ≠ 0 := by simpa using h0
    obtain ⟨ad, cur, e0, rfl, hsp, hba, hheap, ⟨hsz, hoff, rfl⟩, hFB⟩ := h16 (by omega)
    obtain ⟨g, off, spot⟩ := ad
    simp only at hsp hoff hba hheap hsz
    subst hsp hoff
    rw [szU] at hsz
    have hrow := FRep.row (xs := s.map encU) (by simpa using h15)
    obtain ⟨_, vs', hrr, hF⟩ := hrow
    obtain ⟨ad', e1, _, hcells⟩ := hF (by simpa using h0)
    cases e1
    have hcell : ∀ j x, s[j]? = some x → w.cell? ((⟨g, 0, none⟩ : Addr).add j) = some (.int .u8 x.toNat) := by
      intro j x hj
      obtain ⟨v, hv, hfr, _⟩ := hrr.2 j (encU x) (by rw [bytes_map]; simp [hj])
      cases hfr
      rw [add_none]
      exact hst.frz _ _ (hcells j _ hv)
    refine (builderString_row B g cap cur s w h0 c1 hheap h13 (by omega) (by omega) hcell).mono ?_
    rintro e w' ⟨rfl, rfl⟩
    refine ⟨_, .d (.str s), h.set k .gone, F, ρ, rfl, Ext.refl _ _ _, hst.drew.freezeRow hkl (by rw [h14]; simp [Loc.conc]; omega) hba _, .d (.str s), by simp, rfl, rfl⟩

end Go.Vm

/- strings.Builder: WriteByte, WriteString, Len (by program, out of tmpl/BuC.lean). -/
namespace Go.Vm
open Proofs
set_option maxRecDepth 20000
set_option maxHeartbeats 1000000
set_option linter.unusedSimpArgs false

/-- (*strings.Builder).WriteString -/
def c29m : VC := (.seq (.reg [⟨(some 4), (.assign (.const (.int .i64 0))), none, false, false⟩,
    ⟨(some 5), (.assign (.const .nilIface)), none, false, false⟩]) (.seq (.reg [⟨(some 6), (.move (.tmp 0)), none, false, false⟩,
    ⟨(some 7), (.call { callee := .value (.func 44), args := #[.tmp 6], argTypes := #[53] }), none, false, false⟩]) (.seq (.reg [⟨(some 8), (.move (.tmp 0)), none, false, false⟩,
    ⟨(some 9), (.move (.tmp 0)), none, false, false⟩,
    ⟨(some 10), (.nilCheck (.tmp 9)), none, false, false⟩,
    ⟨(some 11), (.fieldAddr 56 (.tmp 10) 1), none, false, false⟩,
    ⟨(some 12), (.load 54 (.tmp 11)), none, false, false⟩,
    ⟨(some 13), (.move (.tmp 1)), none, false, false⟩,
    ⟨(some 14), (.call { callee := .builtin .append, args := #[.tmp 12, .tmp 13], argTypes := #[54, 9] }), none, false, true⟩,
    ⟨(some 15), (.nilCheck (.tmp 8)), none, false, false⟩,
    ⟨(some 16), (.fieldAddr 56 (.tmp 15) 1), none, false, false⟩,
    ⟨none, (.store 54 (.tmp 16) (.tmp 14)), none, false, false⟩]) (.seq (.reg [⟨(some 17), (.move (.tmp 1)), none, false, false⟩,
    ⟨(some 18), (.call { callee := .builtin .len, args := #[.tmp 17], argTypes := #[9] }), none, false, false⟩,
    ⟨(some 4), (.assign (.tmp 18)), none, false, false⟩,
    ⟨(some 5), (.assign (.const .nilIface)), none, false, false⟩]) .ret))))
theorem fn29m : FnIs Proofs.Tryd.prog 29 19 (fun t => t == 14) [.tmp 4, .tmp 5] c29m := ⟨Proofs.Tryd.f29, Proofs.Tryd.func29, by kernel_rfl, by kernel_rfl, by kernel_rfl, by kernel_rfl⟩


theorem bell_nil {n : Nat} {x : D} : Bel n (.d x) := .d x

theorem bel_bcell {b n : Nat} (hb : b < n) (fr : Bool) : Bel n (bcell b fr) := by
  cases fr
  · exact .ptr hb
  · exact .d _

theorem sub_set {h : List Blk} {b k : Nat} {X Y : Blk} (hbk : b ≠ k) : (h.set b X).set k Y = (h.set k Y).set b X := List.set_comm _ _ hbk

theorem writeByte_V {b k : Nat} {fr : Bool} {s : List UInt8} {h : List Blk} (c : UInt8) (hb : h[b]? = some (bldB b k fr s)) (hk : h[k]? = some (rowB s)) (hbk : b ≠ k) (hs : s.length + 1 ≤ 140737488355328) :
    CallW Tryd.prog 28 [.ptr b 56 0 0, .d (encU c)] h fun x h' => x = .d .nilif ∧ h' = (h.set b (bldB b k false (s ++ [c]))).set k (rowB (s ++ [c])) := by
  refine callW tb_ok fn28 (by simp) (fun hok => ?_)
  have hbl := (List.getElem?_eq_some_iff.mp hb).1
  have hkl := (List.getElem?_eq_some_iff.mp hk).1
  simp [c28]
  refine callV_of (copyCheck_V (fr := fr) (bf := bufB k s) (by simpa [bldB] using hb)) ?_
  rintro _ _ ⟨rfl, rfl⟩
  by_cases h0 : s = []
  · subst h0
    simp [bufB, bcell, hbl, encU, List.getElem_set, List.getElem_append, List.getElem?_append_left, List.set_append_left]
    have := RShift.retail (P := Tryd.prog) (m := h.length) (T := 56) (e := 5) (v := .d .nilif) (p := bcell b false) (h := h) (b := b) (k := k) (xs := [encU c]) rfl hbl (by simpa [rowB] using hk) hbk (by simp) (bel_bcell hbl false) (.d _) (Nat.le_refl _) hok
    simpa [bldB, bufB, rowB, bcell, encU] using this
  · have hk' : (h.set b (Blk.cells 56 [.agg [.ptr b 56 0 0, .bl k 5 (s.map encU)]]))[k]? = some (.tail 5 s.length) := by rw [List.getElem?_set_ne hbk]; simpa [rowB] using hk
    have hlim : s.length ≤ 140737488355327 := by omega
    simp [bufB, bcell, hbl, encU, h0, List.getElem_set, hbk, Ne.symm hbk, hk', hlim]
    refine rshift_same' ?_ (by simp)
    rw [sub_set hbk, List.set_set]
    simp [bldB, bufB, rowB, bcell, encU, sub_set hbk]


theorem encU_map (t : List UInt8) : (t.map fun c => D.int .u8 (c.toNat : Int)) = t.map encU := rfl

theorem writeString_V {b k : Nat} {fr : Bool} {s : List UInt8} {h : List Blk} (t : List UInt8) (hb : h[b]? = some (bldB b k fr s)) (hk : h[k]? = some (rowB s)) (hbk : b ≠ k) (hs : s.length + t.length ≤ 140737488355328) :
    CallW Tryd.prog 29 [.ptr b 56 0 0, .d (.str t)] h fun x h' => x = .tup [.d (.int .i64 t.length), .d .nilif] ∧ h' = (h.set b (bldB b k false (s ++ t))).set k (rowB (s ++ t)) := by
  have hbl := (List.getElem?_eq_some_iff.mp hb).1
  have hkl := (List.getElem?_eq_some_iff.mp hk).1
  by_cases h0 : s = []
  · subst h0
    by_cases h1 : t = []
    · subst h1
      refine callW tb_ok fn29m (by simp) (fun hok => ?_)
      simp [c29m]
      refine callV_of (copyCheck_V (fr := fr) (bf := bufB k []) (by simpa [bldB] using hb)) ?_
      rintro _ _ ⟨rfl, rfl⟩
      simp [bufB, bcell, hbl, List.getElem_set]
      refine rshift_same' ?_ (by simp)
      have hk2 : (h.set b (bldB b k false []))[k]? = some (rowB []) := by rw [List.getElem?_set_ne hbk]; exact hk
      have : (h.set b (bldB b k false [])).set k (rowB []) = h.set b (bldB b k false []) := by
        obtain ⟨hlt, he⟩ := List.getElem?_eq_some_iff.mp hk2
        rw [← he]; exact List.set_getElem_self hlt
      rw [this]
      simp [bldB, bufB, bcell]
    · refine callW tb_ok fn29 (by simp) (fun hok => ?_)
      have hlim : t.length ≤ 140737488355328 := by simp at hs; omega
      simp [c29]
      refine callV_of (copyCheck_V (fr := fr) (bf := bufB k []) (by simpa [bldB] using hb)) ?_
      rintro _ _ ⟨rfl, rfl⟩
      simp [bufB, bcell, hbl, encU_map, List.getElem_set, List.getElem_append, List.getElem?_append_left, List.set_append_left, hlim]
      have := RShift.retail (P := Tryd.prog) (m := h.length) (T := 56) (e := 5) (v := .tup [.d (.int .i64 t.length), .d .nilif]) (p := bcell b false) (h := h) (b := b) (k := k) (xs := t.map encU) rfl hbl (by simpa [rowB] using hk) hbk (by simpa using h1) (bel_bcell hbl false) (by simp) (Nat.le_refl _) hok
      simpa [bldB, bufB, rowB, bcell, h1] using this
  · refine callW tb_ok fn29 (by simp) (fun hok => ?_)
    simp [c29]
    refine callV_of (copyCheck_V (fr := fr) (bf := bufB k s) (by simpa [bldB] using hb)) ?_
    rintro _ _ ⟨rfl, rfl⟩
    have hk' : (h.set b (Blk.cells 56 [.agg [.ptr b 56 0 0, .bl k 5 (s.map encU)]]))[k]? = some (.tail 5 s.length) := by rw [List.getElem?_set_ne hbk]; simpa [rowB] using hk
    simp [bufB, bcell, hbl, encU_map, h0, List.getElem_set, hbk, Ne.symm hbk, hk', hs]
    refine rshift_same' ?_ (by simp)
    rw [sub_set hbk, List.set_set]
    simp [bldB, bufB, rowB, bcell, h0, sub_set hbk]

theorem len_V {b k : Nat} {fr : Bool} {s : List UInt8} {h : List Blk} (hb : h[b]? = some (bldB b k fr s)) : CallP Tryd.prog 31 [.ptr b 56 0 0] h (.d (.int .i64 s.length)) := by
  refine callW tb_ok fn31 (by simp) (fun hok => ?_)
  have hbl := (List.getElem?_eq_some_iff.mp hb).1
  have hb' := (List.getElem?_eq_some_iff.mp hb).2
  by_cases h0 : s = []
  · subst h0
    simp [c31, hbl, hb', bldB, bufB]
  · simp [c31, hbl, hb', bldB, bufB, h0]

end Go.Vm

/-
  DERIVED: THE SHELF's CONTRACTS AT THIS DUMP, IN PLAIN WORDS (tools/lay-plain.mjs out of 'TrydShelf.lean', which tools/lay-shelf.mjs wrote): THE SAME DECLARATIONS UNDER THE SAME NAMES: 'import', 'namespace', 'open', 'def', 'theorem' AND NOTHING ELSE: no command of the shelf's: FOR A HAND-IN. Each laying: the table of numbers ('.._ren') and one theorem, a field a fact of the dump's own or the kernel's comparison; each contract: ONE APPLICATION.
-/
set_option linter.unusedSimpArgs false
namespace Go.Proofs
open Go.Shelf
def Tryd.lays137_ren : Go.Shelf.Ren := ⟨fun | 137 => 45 | 217 => 52 | 266 => 56 | n => n, fun | 9 => 9 | 5 => 5 | 3 => 3 | n => n, fun | n => n⟩
theorem Tryd.lays137 : Go.Proofs.Lays.n137 Tryd.prog Tryd.lays137_ren := {
  mixed := by kernel_rfl
  f137 := Tryd.func45.trans (congrArg some (by kernel_rfl))
  f217 := Tryd.func52.trans (congrArg some (by kernel_rfl))
  f266 := Tryd.func56.trans (congrArg some (by kernel_rfl))
  t3 := Tryd.underlying3
  a3 := Tryd.isAgg3
  z3 := Tryd.sizeOf3
  v3 := Tryd.zeroValue3
  t5 := Tryd.underlying5
  a5 := Tryd.isAgg5
  z5 := Tryd.sizeOf5
  v5 := Tryd.zeroValue5
  t9 := Tryd.underlying9
  a9 := Tryd.isAgg9
  z9 := Tryd.sizeOf9
  v9 := Tryd.zeroValue9 }
open Go.RowKit in
/-- strings.IndexByte: "IndexByte returns the index of the first instance of c in s, or -1 if c is not present in s.": IT RETURNS 'Lib.indexByte s c'; the world is as it was. (LAID: no walk: one application.) -/
theorem Tryd.strings_IndexByte (s : ByteArray) (c : Int) (w : World) :
    Calls Tryd.prog 45 #[.string s, .int .u8 c] w fun e w' => e = .returned (.int .i64 (Lib.indexByte s.data.toList c.toNat.toUInt8)) ∧ w' = w := Any.strings_IndexByte Tryd.lays137 s c w
def Tryd.lays155_ren : Go.Shelf.Ren := ⟨fun | 155 => 46 | 154 => 53 | 138 => 57 | 165 => 58 | 143 => 59 | 166 => 29 | 197 => 60 | 169 => 32 | 195 => 61 | 218 => 62 | 240 => 44 | 241 => 63 | 219 => 64 | 260 => 65 | 276 => 51 | 277 => 66 | 217 => 52 | 225 => 67 | 224 => 68 | 267 => 69 | 266 => 56 | 314 => 70 | n => n, fun | 9 => 9 | 3 => 3 | 4 => 4 | 72 => 56 | 0 => 0 | 76 => 60 | 105 => 91 | 21 => 21 | 5 => 5 | 70 => 53 | 20 => 20 | 37 => 54 | 75 => 58 | 127 => 82 | 164 => 86 | 46 => 96 | 119 => 97 | 139 => 100 | 138 => 99 | 146 => 102 | 51 => 101 | 80 => 64 | n => n, fun | 1 => 0 | 3 => 1 | 4 => 2 | n => n⟩
theorem Tryd.lays155 : Go.Proofs.Lays.n155 Tryd.prog Tryd.lays155_ren := {
  mixed := by kernel_rfl
  f138 := Tryd.func57.trans (congrArg some (by kernel_rfl))
  f143 := Tryd.func59.trans (congrArg some (by kernel_rfl))
  f154 := Tryd.func53.trans (congrArg some (by kernel_rfl))
  f155 := Tryd.func46.trans (congrArg some (by kernel_rfl))
  f165 := Tryd.func58.trans (congrArg some (by kernel_rfl))
  f166 := Tryd.func29.trans (congrArg some (by kernel_rfl))
  f169 := Tryd.func32.trans (congrArg some (by kernel_rfl))
  f195 := Tryd.func61.trans (congrArg some (by kernel_rfl))
  f197 := Tryd.func60.trans (congrArg some (by kernel_rfl))
  f217 := Tryd.func52.trans (congrArg some (by kernel_rfl))
  f218 := Tryd.func62.trans (congrArg some (by kernel_rfl))
  f219 := Tryd.func64.trans (congrArg some (by kernel_rfl))
  f224 := Tryd.func68.trans (congrArg some (by kernel_rfl))
  f225 := Tryd.func67.trans (congrArg some (by kernel_rfl))
  f240 := Tryd.func44.trans (congrArg some (by kernel_rfl))
  f241 := Tryd.func63.trans (congrArg some (by kernel_rfl))
  f260 := Tryd.func65.trans (congrArg some (by kernel_rfl))
  f266 := Tryd.func56.trans (congrArg some (by kernel_rfl))
  f267 := Tryd.func69.trans (congrArg some (by kernel_rfl))
  f276 := Tryd.func51.trans (congrArg some (by kernel_rfl))
  f277 := Tryd.func66.trans (congrArg some (by kernel_rfl))
  f314 := Tryd.func70.trans (congrArg some (by kernel_rfl))
  t0 := Tryd.underlying0
  a0 := Tryd.isAgg0
  z0 := Tryd.sizeOf0
  v0 := Tryd.zeroValue0
  t3 := Tryd.underlying3
  a3 := Tryd.isAgg3
  z3 := Tryd.sizeOf3
  v3 := Tryd.zeroValue3
  t4 := Tryd.underlying4
  a4 := Tryd.isAgg4
  z4 := Tryd.sizeOf4
  v4 := Tryd.zeroValue4
  t5 := Tryd.underlying5
  a5 := Tryd.isAgg5
  z5 := Tryd.sizeOf5
  v5 := Tryd.zeroValue5
  t9 := Tryd.underlying9
  a9 := Tryd.isAgg9
  z9 := Tryd.sizeOf9
  v9 := Tryd.zeroValue9
  t20 := Tryd.underlying20
  a20 := Tryd.isAgg20
  z20 := Tryd.sizeOf20
  v20 := Tryd.zeroValue20
  t21 := Tryd.underlying21
  a21 := Tryd.isAgg21
  z21 := Tryd.sizeOf21
  v21 := Tryd.zeroValue21
  t37 := Tryd.underlying54
  a37 := Tryd.isAgg54
  z37 := Tryd.sizeOf54
  v37 := Tryd.zeroValue54
  t46 := Tryd.underlying96
  a46 := Tryd.isAgg96
  z46 := Tryd.sizeOf96
  v46 := Tryd.zeroValue96
  t51 := Tryd.underlying101
  a51 := Tryd.isAgg101
  z51 := Tryd.sizeOf101
  v51 := Tryd.zeroValue101
  t70 := Tryd.underlying53
  a70 := Tryd.isAgg53
  z70 := Tryd.sizeOf53
  v70 := Tryd.zeroValue53
  t72 := Tryd.underlying56
  a72 := Tryd.isAgg56
  z72 := Tryd.sizeOf56
  v72 := Tryd.zeroValue56
  t75 := Tryd.underlying58
  a75 := Tryd.isAgg58
  z75 := Tryd.sizeOf58
  v75 := Tryd.zeroValue58
  t76 := Tryd.underlying60
  a76 := Tryd.isAgg60
  z76 := Tryd.sizeOf60
  v76 := Tryd.zeroValue60
  t105 := Tryd.underlying91
  a105 := Tryd.isAgg91
  z105 := Tryd.sizeOf91
  v105 := Tryd.zeroValue91
  t119 := Tryd.underlying97
  a119 := Tryd.isAgg97
  z119 := Tryd.sizeOf97
  t127 := Tryd.underlying82
  a127 := Tryd.isAgg82
  z127 := Tryd.sizeOf82
  v127 := Tryd.zeroValue82
  t138 := Tryd.underlying99
  a138 := Tryd.isAgg99
  z138 := Tryd.sizeOf99
  v138 := Tryd.zeroValue99
  t139 := Tryd.underlying100
  a139 := Tryd.isAgg100
  z139 := Tryd.sizeOf100
  v139 := Tryd.zeroValue100
  t146 := Tryd.underlying102
  a146 := Tryd.isAgg102
  z146 := Tryd.sizeOf102
  v146 := Tryd.zeroValue102
  t164 := Tryd.underlying86
  a164 := Tryd.isAgg86
  z164 := Tryd.sizeOf86
  v164 := Tryd.zeroValue86
  g1 := by kernel_rfl
  g3 := by kernel_rfl
  g4 := by kernel_rfl }
theorem Tryd.Builder_Extra_155 : Builder.Extra Tryd.prog Tryd.lays155_ren := {
  sizeBuilder := by kernel_rfl
  liesBuilder := by kernel_rfl
  t5 := Tryd.underlying5
  a5 := Tryd.isAgg5
  z5 := Tryd.sizeOf5
  v5 := Tryd.zeroValue5
  infoByte := by kernel_rfl
  cellsByte := by kernel_rfl
  sizeByte := by kernel_rfl
  neB5 := by decide }
open Go.RowKit Go.Lib in
/-- strings.ReplaceAll: "ReplaceAll returns a copy of the string s with all non-overlapping instances of old replaced by new.": AT AN old THAT IS NOT EMPTY: 'Lib.replaceAll s old new'. (LAID: no walk: one application.) -/
theorem Tryd.strings_ReplaceAll (s old new : ByteArray) (m : Int) (w : World) (hs : s.size < 4294967281) (hm : w.cell? ⟨0, 0, none⟩ = some (.int .i64 m)) (h1 : 1 ≤ old.size) (hlen : s.size + Lib.countB s old * new.size ≤ 140737488355328) :
    Calls Tryd.prog 46 #[.string s, .string old, .string new] w fun e w' =>
      e = .returned (.string ⟨(Lib.replaceAll s.data.toList old.data.toList new.data.toList).toArray⟩) ∧ Below w.heap.size w w' := Any.strings_ReplaceAll Tryd.lays155 Tryd.Builder_Extra_155 s old new m w hs hm h1 hlen
end Go.Proofs
