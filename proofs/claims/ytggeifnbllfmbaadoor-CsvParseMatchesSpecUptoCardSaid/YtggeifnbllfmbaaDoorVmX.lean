/- Contracts of the kit's form, seen as calls of the machine of values. -/
import Derived.Test.YtggeifnbllfmbaaDoorVmF
set_option linter.unusedSimpArgs false
namespace Go.Vm
variable {P : Program} {h : List Blk}

theorem argsRel2 {sz : TypeId → Nat} {F : Frz} {ρ : Env0} {n : Nat} {x y : AV} {vs : Array Value} (h : ArgsRel sz F ρ n [x, y] vs) : ∃ a b, vs = #[a, b] ∧ VRel sz F ρ n x a ∧ VRel sz F ρ n y b := by
  obtain ⟨h1, h2⟩ := h
  obtain ⟨a, ha, hxa⟩ := h2 0 x rfl
  obtain ⟨b, hb, hyb⟩ := h2 1 y rfl
  refine ⟨a, b, ?_, hxa, hyb⟩
  have hs : vs.size = 2 := by simpa using h1.symm
  obtain ⟨i0, e0⟩ := Array.getElem?_eq_some_iff.mp ha
  obtain ⟨i1, e1⟩ := Array.getElem?_eq_some_iff.mp hb
  refine Array.ext (by simp [hs]) fun k hk hk' => ?_
  match k, hk' with
  | 0, _ => exact e0
  | 1, _ => exact e1

/-- A function of two texts that leaves the world as it is. -/
theorem callP_str2 {f : FuncId} {r : List UInt8 → List UInt8 → D} {cv : List UInt8 → List UInt8 → Value} (hE : Enters P f)
    (hc : ∀ (a b : ByteArray) (w : World), Calls P f #[.string a, .string b] w fun e w' => e = .returned (cv a.data.toList b.data.toList) ∧ w' = w)
    (hr : ∀ a b sz F, FRep sz F (r a b) (cv a b)) (a b : List UInt8) (h : List Blk) : CallP P f [.d (.str a), .d (.str b)] h (.d (r a b)) := by
  refine ⟨hE, fun base w0 F ρ w vs hst ha => ?_⟩
  obtain ⟨x, y, rfl, hx, hy⟩ := argsRel2 ha
  have := hx.str_inv; subst this
  have := hy.str_inv; subst this
  refine (hc _ _ w).mono ?_
  rintro e w' ⟨rfl, rfl⟩
  exact ⟨_, _, h, F, ρ, rfl, Ext.refl _ _ _, hst, .d (hr _ _ _ _), Nat.le_refl _, rfl, rfl⟩

end Go.Vm
