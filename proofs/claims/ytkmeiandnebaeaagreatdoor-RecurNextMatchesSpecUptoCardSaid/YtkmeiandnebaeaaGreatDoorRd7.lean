/- recur: the library's functions. -/
import Derived.Test.YtkmeiandnebaeaaGreatDoorRd6
import Derived.Test.YtkmeiandnebaeaaGreatDoorShelf
import Derived.Test.YtkmeiandnebaeaaGreatDoorVmU
import Derived.Lib.Space
import Derived.Lib.Join
namespace Go.Vm
open Proofs
set_option maxRecDepth 20000
set_option maxHeartbeats 1000000
set_option linter.unusedSimpArgs false

theorem glob_pow {base : Nat} {w0 w : World} (hg : GlobOk base w0) (hw : ∀ q, q < base → w.heap[q]? = w0.heap[q]?) : Lib.TabIs Tryz.prog w "internal/strconv.uint64pow10" .u64 Lib.pow10Tab := by
  obtain ⟨h0, _, _, t, fz, h4⟩ := hg
  have hn : Tryz.prog.globalNamed "internal/strconv.uint64pow10" = some 2 := by kernel_rfl
  unfold Lib.TabIs World.var?
  rw [hn]
  simp only [Option.bind_some, hw 2 (by omega), h4]
theorem glob_space {base : Nat} {w0 w : World} (hg : GlobOk base w0) (hw : ∀ q, q < base → w.heap[q]? = w0.heap[q]?) : Lib.TabIs Tryz.prog w "strings.asciiSpace" .u8 Lib.asciiSpaceTab := by
  obtain ⟨h0, _, ⟨t, fz, h4⟩, _⟩ := hg
  have hn : Tryz.prog.globalNamed "strings.asciiSpace" = some 0 := by kernel_rfl
  unfold Lib.TabIs World.var?
  rw [hn]
  simp only [Option.bind_some, hw 0 (by omega), h4]

theorem bsize (s : List UInt8) : (ByteArray.mk s.toArray).size = s.length := by show s.toArray.size = _; simp

theorem itoa_V (n : Int) (h0 : -9223372036854775808 ≤ n) (h1 : n ≤ 9223372036854775807) (h : List Blk) : CallP Tryz.prog 46 [.d (.int .i64 n)] h (.d (.str (Lib.itoa n))) := by
  refine callP_below (ds := [.int .i64 n]) (r := .str (Lib.itoa n)) ⟨Tryz.f46, Tryz.func46, by kernel_rfl, by kernel_rfl⟩ rfl rfl (fun base w0 w hg hb hw => ?_)
  refine (Tryz.strconv_Itoa n h0 h1 w (glob_pow hg hw)).mono ?_
  rintro e w' ⟨rfl, k, os, rfl⟩
  refine ⟨rfl, ⟨rfl, rfl, rfl, ?_, fun q hq => ?_⟩⟩
  · simp [Sort.grow, World.drewN]
  · simp only [Sort.grow, World.drewN]
    rw [Array.getElem?_append_left hq]

theorem flats_str : ∀ l : List (List UInt8), D.flats (l.map encS) = true
  | [] => rfl
  | x :: l => by simp only [List.map_cons, D.flats, flats_str l]; rfl

theorem fields_V (s : List UInt8) (hs : s.length ≤ 1000000) (ha : ∀ b ∈ s, b.toNat < 128) (h : List Blk) : CallP Tryz.prog 80 [.d (.str s)] h (.d (.sl 9 ((Lib.fields s).map encS))) := by
  refine callP_row (ds := [.str s]) (xs := (Lib.fields s).map encS) (e := 9) ⟨Tryz.f80, Tryz.func80, by kernel_rfl, by kernel_rfl⟩ rfl (flats_str _) (by kernel_rfl) (fun base w0 w hg hb hw => ?_)
  refine (Tryz.strings_Fields ⟨s.toArray⟩ w (by rw [bsize]; omega) (fun j b hj => ha b (List.mem_of_getElem? (by simpa using hj))) (glob_space hg hw)).mono ?_
  rintro e w' ⟨rfl, rfl⟩
  refine ⟨by simp, ?_⟩
  congr 2
  simp [encS, D.val]

theorem join_V (xs : List (List UInt8)) (sep : List UInt8) (hn : xs.length ≤ 1000000) (hl : (Lib.join xs sep).length ≤ 1000000000) (h : List Blk) : CallP Tryz.prog 54 [.d (.sl 9 (xs.map encS)), .d (.str sep)] h (.d (.str (Lib.join xs sep))) := by
  refine ⟨⟨Tryz.f54, Tryz.func54, by kernel_rfl, by kernel_rfl⟩, fun base w0 F ρ w vs hst ha => ?_⟩
  obtain ⟨v0, hv0, hr0⟩ := ha.2 0 _ rfl
  obtain ⟨v1, hv1, hr1⟩ := ha.2 1 _ rfl
  have hvs : vs = #[v0, v1] := by
    refine Array.ext (by simpa using ha.1.symm) fun i hi hi' => ?_
    have : i = 0 ∨ i = 1 := by simp at hi'; omega
    rcases this with rfl | rfl
    · simpa using (Array.getElem?_eq_some_iff.mp hv0).2
    · simpa using (Array.getElem?_eq_some_iff.mp hv1).2
  subst hvs
  have hs1 := hr1.d_inv
  cases hs1 with
  | str _ =>
  have hs0 := hr0.d_inv
  have hsz : psz Tryz.prog 9 = 1 := by kernel_rfl
  have fin : ∀ {e : Ending} {w' : World}, e = .returned (.string ⟨(Lib.join xs sep).toArray⟩) → RowKit.Below w.heap.size w w' → ∃ v x h' F' ρ', e = .returned v ∧ Ext h.length F ρ F' ρ' ∧ St (psz Tryz.prog) base w0 F' ρ' h' w' ∧ VRel (psz Tryz.prog) F' ρ' h'.length x v ∧ h.length ≤ h'.length ∧ (x = .d (.str (Lib.join xs sep)) ∧ h' = h) := by
    rintro e w' rfl hb
    exact ⟨_, .d (.str (Lib.join xs sep)), h, F, ρ, rfl, Ext.refl _ _ _, hst.below ⟨hb.os, hb.tape, hb.output⟩ hb.size hb.block, .d (.str _), Nat.le_refl _, rfl, rfl⟩
  cases xs with
  | nil =>
    cases hs0 with
    | sl _ _ A ad cap val hA hc hl' hF hr ho =>
    exact (Tryz.strings_Join_none A cap ⟨sep.toArray⟩ w).mono fun e w' ⟨h1, h2⟩ => fin (by rw [h1]; rfl) (by rw [h2]; exact RowKit.Below.refl _ _)
  | cons x0 xr =>
    generalize hxs : x0 :: xr = xs at *
    have hne : xs.map encS ≠ [] := by rw [← hxs]; simp
    generalize hm : xs.map encS = ds at hs0 hne
    cases hs0 with
    | sl _ _ A ad cap val hA hc hl' hF hr ho =>
    obtain ⟨rfl, hsp⟩ := hA hne
    have hlen : ds.length = xs.length := by rw [← hm]; simp
    have hcell : ∀ (j : Nat) (x : ByteArray), (xs.map fun s => (⟨s.toArray⟩ : ByteArray))[j]? = some x → w.cell? ⟨ad.block, ad.off + j, none⟩ = some (.string x) := by
      intro j x hx
      rw [List.getElem?_map, Option.map_eq_some_iff] at hx
      obtain ⟨s, hs, rfl⟩ := hx
      have hd : ds[j]? = some (.str s) := by rw [← hm, List.getElem?_map, hs]; rfl
      have h1 := hF j (.str s) 0 (.str s) hd rfl
      have h2 := hr j (.str s) 0 (.str s) hd rfl
      rw [hsz] at h1
      have h3 := hst.frz _ _ h1
      rw [show ad.off + (j * 1 + 0) = ad.off + j from by omega] at h3
      rw [h3]
      generalize val j 0 = u at h2
      cases h2 with
      | str _ => rfl
    have hbk : ad.block < w.heap.size := by
      have := hcell 0 ⟨x0.toArray⟩ (by rw [← hxs]; rfl)
      unfold World.cell? at this
      cases hq : w.heap[ad.block]? with
      | none => rw [hq] at this; simp at this
      | some b => exact (Array.getElem?_eq_some_iff.mp hq).1
    have had : (⟨ad.block, ad.off, none⟩ : Addr) = ad := by cases ad; simp at hsp; subst hsp; rfl
    have hj : (xs.map fun s => (⟨s.toArray⟩ : ByteArray)).map (·.data.toList) = xs := by simp [List.map_map, Function.comp_def]
    have hc2 := Tryz.strings_Join ad.block ad.off cap (xs.map fun s => (⟨s.toArray⟩ : ByteArray)) ⟨sep.toArray⟩ w hcell hbk (by simp; omega) (by simp; omega) (by rw [hj]; simp; omega)
    rw [hj, had] at hc2
    simp only [List.length_map, hlen] at hc2 ⊢
    exact hc2.mono fun e w' ⟨h1, h2⟩ => fin (by rw [h1]) h2

end Go.Vm
