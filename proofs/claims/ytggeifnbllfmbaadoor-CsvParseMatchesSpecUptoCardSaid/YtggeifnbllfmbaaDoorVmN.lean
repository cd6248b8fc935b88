/- Blocks get other names. -/
import Derived.Test.YtggeifnbllfmbaaDoorVmS
set_option linter.unusedSimpArgs false
namespace Go.Vm
variable {P : Program} {base : Nat} {w0 : World} {m nt : Nat} {F : Frz} {ρ : Env0} {w : World} {n : Nat} {sz : TypeId → Nat} {h : List Blk}

/-- A value, and how it is seen when block b is what block σ b was. -/
inductive Ren (σ : Nat → Nat) (n : Nat) : AV → AV → Prop
  | sub {x : AV} {d : D} (h : Sub x (.d d)) : Ren σ n x (.d d)
  | unk (x : AV) : Ren σ n x .unk
  | bl {b : Nat} {e : TypeId} {xs : List D} (hb : b < n) : Ren σ n (.bl (σ b) e xs) (.bl b e xs)
  | ref {b : Nat} {e : TypeId} {o l : Nat} (hb : b < n) : Ren σ n (.ref (σ b) e o l) (.ref b e o l)
  | ptr {b : Nat} {e : TypeId} {i o : Nat} (hb : b < n) : Ren σ n (.ptr (σ b) e i o) (.ptr b e i o)
  | map {b : Nat} (hb : b < n) : Ren σ n (.map (σ b)) (.map b)
  | fp {e : TypeId} {xs : List D} {i o : Nat} : Ren σ n (.fp e xs i o) (.fp e xs i o)
  | z0 {e : TypeId} : Ren σ n (.z0 e) (.z0 e)

theorem Ren.rel {σ : Nat → Nat} {n' : Nat} {x y : AV} {v : Value} (hr : Ren σ n' x y) (hv : VRel sz F ρ n x v) : VRel sz F (fun b => ρ (σ b)) n' y v := by
  cases hr with
  | sub h => exact .d (h.rel hv).d_inv
  | unk x => exact .unk v
  | bl hb => cases hv with | bl _ h hl hw hc => exact .bl hb h hl hw hc
  | ref hb => cases hv with | ref _ hA hl hc => exact .ref hb hA hl hc
  | ptr hb => cases hv with | ptr _ hl => exact .ptr hb hl
  | map hb => cases hv with | map _ hl => exact .map hb hl
  | fp => cases hv with | fp h hi => exact .fp h hi
  | z0 => cases hv with | z0 => exact .z0

theorem BlkRel.ren {σ : Nat → Nat} {n' b : Nat} {x : Blk} (hσ : ∀ b, b < m → σ b = b) (hn : m ≤ n') (hb : BlkRel sz base F ρ n w (σ b) x) (hx : BlkBel m x) : BlkRel sz base F (fun b => ρ (σ b)) n' w b x := by
  have hE : Ext m F ρ F (fun b => ρ (σ b)) := ⟨Frz.le_refl _, fun b hb => by show (ρ b).ext (ρ (σ b)); rw [hσ b hb]; exact Loc.ext_refl _⟩
  have hc := hb.cut hx
  cases x with
  | cells e xs =>
    obtain ⟨B, N, c, e0, h1, h2, h3, h4, h5, h6⟩ := hc
    refine ⟨B, N, c, e0, h1, h2, h3, h4, h5, fun i x hi => ⟨(h6 i x hi).1, fun j y hj => ?_⟩⟩
    obtain ⟨v, h7, h8, h9⟩ := (h6 i x hi).2 j y hj
    exact ⟨v, h7, h8.mono hE hn, h9⟩
  | tail e hw => exact hc
  | map es =>
    obtain ⟨r, mm, h1, h2, h3, h4, h5⟩ := hc
    refine ⟨r, mm, h1, h2, h3, h4, fun i k' x hi => ?_⟩
    obtain ⟨en, h6, h7, h8, h9⟩ := h5 i k' x hi
    exact ⟨en, h6, h7, h8, h9.mono hE hn⟩
  | gone => trivial

/-- Blocks get other names: block b is what block σ b was. -/
theorem Shift.ren {s s' : Slots} {h h' : List Blk} (σ : Nat → Nat) (hσm : ∀ b, b < m → σ b = b) (hlen : m ≤ h'.length) (hinj : ∀ b b', b < h'.length → b' < h'.length → σ b = σ b' → b = b') (hσ : ∀ b, b < h'.length → σ b < h.length)
    (hblk : ∀ b x, h'[b]? = some x → x = .gone ∨ h[σ b]? = some x ∧ BlkBel m x) (hs : ∀ kv ∈ s', ∃ v, look s kv.1 = some v ∧ Ren σ h'.length v kv.2) : Shift P m nt ⟨s, h⟩ ⟨s', h'⟩ := by
  intro base w0 F ρ a w hr
  refine ⟨F, fun b => ρ (σ b), ⟨Frz.le_refl _, fun b hb => by show (ρ b).ext (ρ (σ b)); rw [hσm b hb]; exact Loc.ext_refl _⟩, ⟨hr.st.frz, fun b x hx => ?_, fun b b' B h1 h2 c1 c2 => ?_, hr.st.old, hr.st.hb, fun b B h1 c1 => ?_⟩, fun i v hi => ?_, hr.size, hr.defers, hlen⟩
  · rcases hblk b x hx with rfl | ⟨h1, h2⟩
    · trivial
    · exact (hr.st.blk _ _ h1).ren hσm hlen h2
  · exact hinj b b' h1 h2 (hr.st.dist _ _ B (hσ b h1) (hσ b' h2) c1 c2)
  · exact hr.st.lt _ B (hσ b h1) c1
  · obtain ⟨u, h1, h2⟩ := hs _ (look_mem hi)
    obtain ⟨cv, h4, h5⟩ := hr.slots i u h1
    exact ⟨cv, h4, h2.rel h5⟩

@[simp] theorem ren_d {σ : Nat → Nat} {x : D} : Ren σ n (.d x) (.d x) := .sub (.refl _)

end Go.Vm
