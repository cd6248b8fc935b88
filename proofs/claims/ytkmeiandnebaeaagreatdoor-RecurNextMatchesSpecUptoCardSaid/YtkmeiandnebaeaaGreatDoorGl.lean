/- What the package-level variables hold. -/
import Derived.WalkKit
import Derived.Lib.Space
import Derived.Lib.ItoaNum
namespace Go.Vm

/-- internal/bytealg.MaxLen holds a number; strings.asciiSpace and internal/strconv.uint64pow10 hold their tables. -/
def GlobOk (base : Nat) (w : World) : Prop := 4 ≤ base ∧ (∃ m : Int, w.cell? ⟨3, 0, none⟩ = some (.int .i64 m)) ∧
  (∃ t fz, w.heap[0]? = some (.cells (Lib.asciiSpaceTab.map fun z => Value.int .u8 z).toArray t fz)) ∧
  ∃ t fz, w.heap[2]? = some (.cells (Lib.pow10Tab.map fun z => Value.int .u64 z).toArray t fz)

theorem GlobOk.mono {base base' : Nat} {w w' : World} (h : GlobOk base w) (hb : base ≤ base') (hw : ∀ r, r < base → w'.heap[r]? = w.heap[r]?) : GlobOk base' w' := by
  obtain ⟨h0, ⟨m, h2⟩, h3, h4⟩ := h
  refine ⟨by omega, ⟨m, ?_⟩, ?_, ?_⟩
  · simp only [World.cell?, hw 3 (by omega)] at h2 ⊢
    exact h2
  · rw [hw 0 (by omega)]; exact h3
  · rw [hw 2 (by omega)]; exact h4

end Go.Vm
