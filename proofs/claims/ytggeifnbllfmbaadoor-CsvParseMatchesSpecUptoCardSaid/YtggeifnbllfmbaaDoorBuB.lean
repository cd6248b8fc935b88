/- strings.Builder as the machine of values sees it (by program, out of tmpl/BuB.lean). -/
import Derived.Test.YtggeifnbllfmbaaDoorBuA
namespace Go.Vm
open Proofs
set_option maxRecDepth 10000
set_option maxHeartbeats 1000000
set_option linter.unusedSimpArgs false

/-- What a builder's first field holds: nil, or the builder's own address. -/
def bcell (b : Nat) (fr : Bool) : AV := if fr then .d .nilptr else .ptr b 56 0 0
/-- A builder in block b, whose row is block k. -/
def bufB (k : Nat) (s : List UInt8) : AV := if s = [] then .d .nilsl else .bl k 5 (s.map encU)
def bldB (b k : Nat) (fr : Bool) (s : List UInt8) : Blk := .cells 56 [.agg [bcell b fr, bufB k s]]
def rowB (s : List UInt8) : Blk := .tail 5 s.length

theorem argsRel1 {sz : TypeId → Nat} {F : Frz} {ρ : Env0} {n : Nat} {x : AV} {vs : Array Value} (h : ArgsRel sz F ρ n [x] vs) : ∃ a, vs = #[a] ∧ VRel sz F ρ n x a := by
  obtain ⟨h1, h2⟩ := h
  obtain ⟨a, ha, hxa⟩ := h2 0 x rfl
  refine ⟨a, ?_, hxa⟩
  have hs : vs.size = 1 := by simpa using h1.symm
  obtain ⟨i0, e0⟩ := Array.getElem?_eq_some_iff.mp ha
  refine Array.ext (by simp [hs]) fun k hk hk' => ?_
  match k, hk' with
  | 0, _ => exact e0

theorem szB : psz Tryd.prog 56 = 2 := by kernel_rfl
theorem szU : psz Tryd.prog 5 = 1 := by kernel_rfl

/-- Where a builder lies. -/
theorem bld_at {base : Nat} {w0 w : World} {F : Frz} {ρ : Env0} {h : List Blk} (hst : St (psz Tryd.prog) base w0 F ρ h w) {b : Nat} {p bf : AV} (hb : h[b]? = some (.cells 56 [.agg [p, bf]])) {cp : Value} (hp : VRel (psz Tryd.prog) F ρ h.length (.ptr b 56 0 0) cp) :
    ∃ B N c v0 v1, cp = .pointer (some ⟨B, 0, none⟩) ∧ ρ b = .mt B N ∧ base ≤ B ∧ w.heap[B]? = some (.cells c 56 (0, 0)) ∧ (∀ a, a.block = B → F a = none) ∧ 1 ≤ N ∧ c.size = 2 * N ∧ c[0]? = some v0 ∧ c[1]? = some v1 ∧
      VRel (psz Tryd.prog) F ρ h.length p v0 ∧ VRel (psz Tryd.prog) F ρ h.length bf v1 ∧ v0.oneCell' = true ∧ v1.oneCell' = true := by
  obtain ⟨B, N, c, e0, h1, h2, h3, h4, ⟨h5, h6, h7⟩, h8⟩ := hst.blk b _ hb
  subst h7
  obtain ⟨h9, h10⟩ := h8 0 _ rfl
  obtain ⟨v0, a1, a2, a3⟩ := h10 0 p rfl
  obtain ⟨v1, b1, b2, b3⟩ := h10 1 bf rfl
  cases hp with
  | ptr hb' hl =>
    have := hl B N h1
    subst this
    rw [szB] at h6 a1 b1
    exact ⟨B, N, c, v0, v1, by simp, h1, h2, h3, h4, by simpa using h5, by omega, by simpa using a1, by simpa using b1, a2, b2, a3, b3⟩

theorem copyCheck_V {b : Nat} {fr : Bool} {bf : AV} {h : List Blk} (hb : h[b]? = some (.cells 56 [.agg [bcell b fr, bf]])) :
    CallW Tryd.prog 44 [.ptr b 56 0 0] h fun x h' => x = .tup [] ∧ h' = h.set b (.cells 56 [.agg [bcell b false, bf]]) := by
  refine ⟨⟨Tryd.f44, Tryd.func44, by kernel_rfl, by kernel_rfl⟩, fun base w0 F ρ w vs hst ha => ?_⟩
  obtain ⟨cp, rfl, hp⟩ := argsRel1 ha
  obtain ⟨B, N, c, v0, v1, rfl, h1, h2, h3, h4, h5, h6, h7, h8, h9, h10, h11, h12⟩ := bld_at hst hb hp
  have hlt := (List.getElem?_eq_some_iff.mp hb).1
  have c0 : w.cell? ⟨B, 0, none⟩ = some v0 := by simp [World.cell?, h3, h7]
  cases fr with
  | true =>
    have : v0 = .pointer none := by
      simp only [bcell, if_true] at h9
      cases h9 with | d h9 => cases h9; rfl
    subst this
    refine (copyCheck_fresh B c.size w c0 (by simp [World.shape?, h3]) (by omega) (by rw [h6]; exact lies_self N h5) (Lib.frozen_of_heap h3 0)).mono ?_
    rintro e w' ⟨rfl, rfl⟩
    rw [setCell_setBlk h3]
    refine ⟨_, .tup [], _, F, ρ, rfl, Ext.refl _ _ _, hst.rewrite hlt (.inl ⟨N, h1⟩) h2 h4 (blk := .cells 56 [.agg [bcell b false, bf]]) ⟨B, N, c.setIfInBounds 0 (.pointer (some ⟨B, 0, none⟩)), 56, h1, h2, ?_, h4, ⟨by simpa using h5, by rw [szB]; simp; omega, rfl⟩, fun i x hi => ?_⟩, ?_, by simp, rfl, rfl⟩
    · rw [setBlk_get]; simp [(Array.getElem?_eq_some_iff.mp h3).1]
    · cases i with
      | succ i => simp at hi
      | zero =>
        simp at hi
        subst hi
        refine ⟨by rw [szB]; rfl, fun k y hk => ?_⟩
        have hcs : 0 < c.size := by omega
        match k, hk with
        | 0, hk =>
          simp [AV.cells] at hk
          subst hk
          refine ⟨.pointer (some ⟨B, 0, none⟩), by simp [hcs], ?_, rfl⟩
          simp only [bcell, Bool.false_eq_true, if_false]
          refine .ptr hlt (fun B' N' hl => ?_)
          rw [h1] at hl
          cases hl
          simp
        | 1, hk =>
          simp [AV.cells] at hk
          subst hk
          exact ⟨v1, by simpa using h8, h10, h12⟩
        | k + 2, hk => simp [AV.cells] at hk
    · rw [List.length_set]; exact .tup [] #[] rfl (fun _ => .nilIface) (by simp) (by simp)
  | false =>
    have : v0 = .pointer (some ⟨B, 0, none⟩) := by
      simp only [bcell, Bool.false_eq_true, if_false] at h9
      cases h9 with | ptr hb' hl => have := hl B N h1; subst this; simp
    subst this
    refine (copyCheck_used B w c0).mono ?_
    rintro e w' ⟨rfl, rfl⟩
    have hs : h.set b (.cells 56 [.agg [bcell b false, bf]]) = h := by
      obtain ⟨hlt, he⟩ := List.getElem?_eq_some_iff.mp hb
      rw [← he]; exact List.set_getElem_self hlt
    rw [hs]
    exact ⟨_, .tup [], h, F, ρ, rfl, Ext.refl _ _ _, hst, .tup [] #[] rfl (fun _ => .nilIface) (by simp) (by simp), Nat.le_refl _, rfl, rfl⟩

theorem str_empty {sz : TypeId → Nat} {F : Frz} {ρ : Env0} {n : Nat} : VRel sz F ρ n (.d (.str [])) (.string ⟨#[]⟩) := .d (.str [])

theorem bytes_map (s : List UInt8) : flatD (s.map encU) = s.map encU := by
  induction s with
  | nil => rfl
  | cons x s ih => simp only [flatD, List.map_cons, List.flatMap_cons] at ih ⊢; rw [ih]; rfl

theorem string_V {b k : Nat} {fr : Bool} {s : List UInt8} {h : List Blk} (hb : h[b]? = some (bldB b k fr s)) (hk : h[k]? = some (rowB s)) (hs : s.length < 9223372036854775807) :
    CallW Tryd.prog 32 [.ptr b 56 0 0] h fun x h' => x = .d (.str s) ∧ h' = h.set k .gone := by
  refine ⟨⟨Tryd.f32, Tryd.func32, by kernel_rfl, by kernel_rfl⟩, fun base w0 F ρ w vs hst ha => ?_⟩
  obtain ⟨cp, rfl, hp⟩ := argsRel1 ha
  obtain ⟨B, N, c, v0, v1, rfl, h1, h2, h3, h4, h5, h6, h7, h8, h9, h10, h11, h12⟩ := bld_at hst hb hp
  have hkl := (List.getElem?_eq_some_iff.mp hk).1
  by_cases h0 : s = []
  · subst h0
    have hv1 : v1 = .slice none 0 0 := by
      simp only [bufB, if_true] at h10
      cases h10 with | d h10 => cases h10; rfl
    subst hv1
    have c1 : w.cell? ⟨B, 1, none⟩ = some (.slice none 0 0) := by simp [World.cell?, h3, h8]
    refine (builderString_same B 0 none none w c1 rfl).mono ?_
    rintro e w' ⟨rfl, rfl⟩
    exact ⟨_, _, _, F, ρ, rfl, Ext.refl _ _ _, hst.drew.forget k, str_empty, by simp, rfl, rfl⟩
  · simp only [bufB, h0, if_false] at h10
    obtain ⟨A, cap, rfl, h13, h14, h15, h16⟩ := bld_inv hst (xs := s.map encU) (by simpa [rowB] using hk) h10
    simp only [List.length_map] at h8 h13 h14 h15 h16
    have c1 : w.cell? ⟨B, 1, none⟩ = some (.slice A s.length cap) := by simp [World.cell?, h3, h8]
    have hs0 : s.length ≠ 0 := by simpa using h0
    obtain ⟨ad, cur, e0, rfl, hsp, hba, hheap, ⟨hsz, hoff, rfl⟩, hFB⟩ := h16 (by omega)
    obtain ⟨g, off, spot⟩ := ad
    simp only at hsp hoff hba hheap hsz
    subst hsp hoff
    rw [szU] at hsz
    have hrow := FRep.row (xs := s.map encU) (by simpa using h15)
    obtain ⟨_, vs', hrr, hF⟩ := hrow
    obtain ⟨ad', e1, _, hcells⟩ := hF (by simpa using h0)
    cases e1
    have hcell : ∀ j x, s[j]? = some x → w.cell? ((⟨g, 0, none⟩ : Addr).add j) = some (.int .u8 x.toNat) := by
      intro j x hj
      obtain ⟨v, hv, hfr, _⟩ := hrr.2 j (encU x) (by rw [bytes_map]; simp [hj])
      cases hfr
      rw [add_none]
      exact hst.frz _ _ (hcells j _ hv)
    refine (builderString_row B g cap cur s w h0 c1 hheap h13 (by omega) (by omega) hcell).mono ?_
    rintro e w' ⟨rfl, rfl⟩
    refine ⟨_, .d (.str s), h.set k .gone, F, ρ, rfl, Ext.refl _ _ _, hst.drew.freezeRow hkl (by rw [h14]; simp [Loc.conc]; omega) hba _, .d (.str s), by simp, rfl, rfl⟩

end Go.Vm
