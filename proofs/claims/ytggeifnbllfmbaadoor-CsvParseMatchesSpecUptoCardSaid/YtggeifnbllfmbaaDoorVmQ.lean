/- Blocks become data, and are forgotten. -/
import Derived.Test.YtggeifnbllfmbaaDoorVmH
set_option linter.unusedSimpArgs false
namespace Go.Vm
variable {P : Program} {base : Nat} {w0 : World} {m nt : Nat} {F : Frz} {ρ : Env0} {env env' : Env} {a : Act} {w w' : World} {n : Nat} {tab : Tab} {sz : TypeId → Nat} {h : List Blk}

/-- All cells of a block are known. -/
def frzAll (F : Frz) (B : Nat) (c : Array Value) : Frz := fun a => if a.block = B ∧ a.spot = none then c[a.off]? else F a

theorem St.freeze (hst : St sz base w0 F ρ h w) {b : Nat} {e : TypeId} {ds : List D} (hb : h[b]? = some (.cells e (ds.map AV.d))) :
    ∃ F', F.le F' ∧ St sz base w0 F' ρ (h.set b .gone) w ∧ ∀ {n off len : Nat} {v : Value}, VRel sz F ρ n (.ref b e off len) v → off + len ≤ ds.length → FRep sz F' (.sl e ((ds.drop off).take len)) v := by
  obtain ⟨B, N, c, e0, h1, h2, h3, h4, h5, h6⟩ := hst.blk b _ hb
  have hlt := (List.getElem?_eq_some_iff.mp hb).1
  have hle : F.le (frzAll F B c) := by
    intro y v hy
    unfold frzAll
    split
    · rename_i hc; rw [h4 y hc.1] at hy; cases hy
    · exact hy
  have hx : Ext h.length F ρ (frzAll F B c) ρ := ⟨hle, fun _ _ => Loc.ext_refl _⟩
  have hbc : (ρ b).conc = some B := by rw [h1]; rfl
  refine ⟨frzAll F B c, hle, ⟨fun y v hy => ?_, fun b' x hb' => ?_, fun b1 b2 B' l1 l2 => hst.dist b1 b2 B' (by simpa using l1) (by simpa using l2), hst.old, hst.hb, fun b1 B' l1 => hst.lt b1 B' (by simpa using l1)⟩, ?_⟩
  · unfold frzAll at hy
    split at hy
    · rename_i hc
      simp only [World.cell?, hc.1, h3, hc.2, if_true]
      exact hy
    · exact hst.frz y v hy
  · rw [List.length_set]
    by_cases e1 : b' = b
    · subst e1
      rw [List.getElem?_set_self hlt] at hb'
      cases hb'
      trivial
    · rw [List.getElem?_set_ne (Ne.symm e1)] at hb'
      have hlt' := (List.getElem?_eq_some_iff.mp hb').1
      refine (hst.blk b' x hb').mono hx rfl (Nat.le_refl _) (fun _ _ _ h => h) (fun r hr y hy => ?_)
      unfold frzAll
      split
      · rename_i hc
        exact absurd (hst.dist b' b B hlt' hlt (by rw [hr, ← hy, hc.1]) hbc) e1
      · rfl
  · intro n off len v hv hol
    cases hv with
    | @ref _ _ _ _ cap A hbn hA0 hl hc =>
      have hA : len ≠ 0 → A = some ⟨B, off * sz e, none⟩ := fun hne => (hl B N h1).1 (by omega)
      have hlen : ((ds.drop off).take len).length = len := by simp; omega
      have key : ∀ (i : Nat) (x : D) (k : Nat) (y : D), ((ds.drop off).take len)[i]? = some x → x.cells[k]? = some y → ∃ u, c[(off + i) * sz e + k]? = some u ∧ FRep sz F y u ∧ u.oneCell' = true ∧ i < len := by
        intro i x k y hi hk
        have hil : i < len := by have := (List.getElem?_eq_some_iff.mp hi).1; rw [hlen] at this; exact this
        rw [List.getElem?_take_of_lt hil, List.getElem?_drop] at hi
        obtain ⟨u, h7, h8, h9⟩ := (h6 (off + i) (.d x) (by simp [hi])).2 k (.d y) (by simp only [AV.cells, List.getElem?_map, hk, Option.map_some])
        exact ⟨u, h7, h8.d_inv, h9, hil⟩
      conv => arg 4; rw [← hlen]
      refine .sl e _ A ⟨B, off * sz e, none⟩ cap (fun i k => (c[(off + i) * sz e + k]?).getD .nilIface) (fun hne => ⟨hA (by intro e0; subst e0; simp at hne), rfl⟩) (by rw [hlen]; exact hc) (fun i x hi => ?_) (fun i x k y hi hk => ?_) (fun i x k y hi hk => ?_) (fun i x k y hi hk => ?_)
      · have hil : i < len := by have := (List.getElem?_eq_some_iff.mp hi).1; rw [hlen] at this; exact this
        rw [List.getElem?_take_of_lt hil, List.getElem?_drop] at hi
        have := (h6 (off + i) (.d x) (by simp [hi])).1
        simpa only [AV.cells, List.length_map] using this
      · obtain ⟨u, h7, _⟩ := key i x k y hi hk
        unfold frzAll
        rw [if_pos ⟨rfl, rfl⟩]
        show c[off * sz e + (i * sz e + k)]? = _
        rw [show off * sz e + (i * sz e + k) = (off + i) * sz e + k from by rw [Nat.add_mul]; omega, h7]
        rfl
      · obtain ⟨u, h7, h8, _⟩ := key i x k y hi hk
        rw [h7]; exact h8.mono hle
      · obtain ⟨u, h7, _, h9, _⟩ := key i x k y hi hk
        rw [h7]; exact h9

theorem St.forget (hst : St sz base w0 F ρ h w) (k : Nat) : St sz base w0 F ρ (h.set k .gone) w := by
  refine ⟨hst.frz, fun b x hx => ?_, fun b b' B h1 h2 => hst.dist b b' B (by simpa using h1) (by simpa using h2), hst.old, hst.hb, fun b B h1 => hst.lt b B (by simpa using h1)⟩
  rw [List.length_set]
  by_cases e : k = b
  · subst e
    by_cases hk : k < h.length
    · rw [List.getElem?_set_self hk] at hx; cases hx; trivial
    · rw [List.getElem?_eq_none (by simp; omega)] at hx; cases hx
  · rw [List.getElem?_set_ne e] at hx
    exact hst.blk b x hx

/-- Some bytes of a builder's row are frozen: the row is forgotten. -/
theorem St.freezeAt (hst : St sz base w0 F ρ h w) {k g : Nat} (hk : k < h.length) (hc : (ρ k).conc = some g) (hg : base ≤ g) (o len : Nat) : St sz base w0 F ρ (h.set k .gone) (w.freeze ⟨g, o, none⟩ len) := by
  unfold World.freeze
  split
  · exact hst.forget k
  have hcell : ∀ y, World.cell? { w with heap := w.heap.modify g fun
      | .cells c elem (lo, hi) => .cells c elem (if lo == hi then (o, o + len) else (min lo o, max hi (o + len)))
      | x => x } y = w.cell? y := by
    intro y
    simp only [World.cell?, Array.getElem?_modify]
    by_cases e : g = y.block
    · subst e
      rw [if_pos rfl]
      cases hh : w.heap[y.block]? with
      | none => rfl
      | some o => cases o <;> rfl
    · rw [if_neg e]
  have hoth : ∀ r, r ≠ g → (w.heap.modify g fun
      | .cells c elem (lo, hi) => .cells c elem (if lo == hi then (o, o + len) else (min lo o, max hi (o + len)))
      | x => x)[r]? = w.heap[r]? := by
    intro r hr
    rw [Array.getElem?_modify, if_neg (Ne.symm hr)]
  refine ⟨fun y v hy => (hcell y).trans (hst.frz y v hy), fun b x hx => ?_, fun b b' B h1 h2 => hst.dist b b' B (by simpa using h1) (by simpa using h2), ⟨hst.old.1, fun r hr => ?_⟩, by simpa using hst.hb, fun b B h1 c1 => ?_⟩
  · rw [List.length_set]
    by_cases e : k = b
    · subst e
      rw [List.getElem?_set_self hk] at hx; cases hx; trivial
    · rw [List.getElem?_set_ne e] at hx
      have hlt := (List.getElem?_eq_some_iff.mp hx).1
      refine (hst.blk b x hx).mono (Ext.refl _ _ _) rfl (Nat.le_refl _) (fun r ob hr ho => ?_) (fun _ _ _ _ => rfl)
      exact (hoth r (fun e' => e (hst.dist k b g hk hlt hc (by rw [hr, e'])))).trans ho
  · exact (hoth r (by omega)).trans (hst.old.2 r hr)
  · have := hst.lt b B (by simpa using h1) c1
    simpa using this

theorem St.freezeRow (hst : St sz base w0 F ρ h w) {k g : Nat} (hk : k < h.length) (hc : (ρ k).conc = some g) (hg : base ≤ g) (len : Nat) : St sz base w0 F ρ (h.set k .gone) (w.freeze ⟨g, 0, none⟩ len) :=
  hst.freezeAt hk hc hg 0 len

end Go.Vm
