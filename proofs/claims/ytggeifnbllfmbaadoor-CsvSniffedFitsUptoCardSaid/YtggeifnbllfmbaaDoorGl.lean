/- What the package-level variables hold. -/
import Derived.WalkKit
namespace Go.Vm

/-- internal/bytealg.MaxLen holds a number. -/
def GlobOk (base : Nat) (w : World) : Prop := ∃ m : Int, 0 < base ∧ w.cell? ⟨0, 0, none⟩ = some (.int .i64 m)

theorem GlobOk.mono {base base' : Nat} {w w' : World} (h : GlobOk base w) (hb : base ≤ base') (hw : ∀ r, r < base → w'.heap[r]? = w.heap[r]?) : GlobOk base' w' := by
  obtain ⟨m, h1, h2⟩ := h
  refine ⟨m, by omega, ?_⟩
  simp only [World.cell?, hw _ h1] at h2 ⊢
  exact h2

end Go.Vm
