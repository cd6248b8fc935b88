/- A nil slice in a block is the begin of a row that is built. -/
import Derived.Test.YtkmeiandnebaeaaGreatDoorVMd
set_option linter.unusedSimpArgs false
namespace Go.Vm
variable {P : Program} {base : Nat} {w0 : World} {m nt : Nat} {F : Frz} {ρ : Env0} {w w' : World} {n : Nat} {sz : TypeId → Nat} {h : List Blk}

theorem Shift.openC {T e : TypeId} {s : Slots} {h : List Blk} {b : Nat} (hb : h[b]? = some (.cells T [.d .nilsl])) : Shift P m nt ⟨s, h⟩ ⟨s, h.set b (.cells T [.bl h.length e []]) ++ [.tail e 0]⟩ := by
  intro base w0 F ρ a w hr
  have hb' := (List.getElem?_eq_some_iff.mp hb).1
  have hx' : Ext h.length F ρ F (upd ρ h.length (.bld (.slice none 0 0) 0)) := Ext.upd _ _ _ _
  have hl : ∀ X : Blk, (h.set b X).length = h.length := fun X => by simp
  refine ⟨F, upd ρ h.length (.bld (.slice none 0 0) 0), hx'.weak hr.le, ⟨hr.st.frz, fun b' y hy => ?_, fun b1 b2 B h1 h2 c1 c2 => ?_, hr.st.old, hr.st.hb, fun b1 B h1 c1 => ?_⟩, fun i v hi => ?_, hr.size, hr.defers, by have := hr.le; simp; exact Nat.le_trans this (Nat.le_succ _)⟩
  · simp only [List.length_append, List.length_set, List.length_singleton]
    by_cases e1 : b' = h.length
    · subst e1
      rw [List.getElem?_append_right (by simp)] at hy
      simp at hy
      subst hy
      exact ⟨none, 0, upd_same _ _ _, Nat.le_refl _, fun h => absurd rfl h⟩
    · have hlt : b' < h.length := by
        have := (List.getElem?_eq_some_iff.mp hy).1
        simp at this; omega
      rw [List.getElem?_append_left (by simpa using hlt)] at hy
      by_cases e2 : b' = b
      · subst e2
        rw [List.getElem?_set_self hb'] at hy
        cases hy
        have := (hr.st.blk b' _ hb).mono hx' (upd_ne e1) (Nat.le_succ _) (fun _ _ _ h => h) (fun _ _ _ _ => rfl)
        obtain ⟨B, N, c, e0, q1, q2, q3, q4, q5, q6⟩ := this
        refine ⟨B, N, c, e0, q1, q2, q3, q4, q5, fun i z hz => ?_⟩
        cases i with
        | succ i => simp at hz
        | zero =>
          simp at hz
          subst hz
          obtain ⟨q7, q8⟩ := q6 0 _ rfl
          refine ⟨q7, fun j y hj => ?_⟩
          cases j with
          | succ j => simp [AV.cells] at hj
          | zero =>
            simp [AV.cells] at hj
            subst hj
            obtain ⟨u, u1, u2, u3⟩ := q8 0 (.d .nilsl) rfl
            refine ⟨u, u1, ?_, u3⟩
            cases u2 with | d h5 => cases h5 with
            | nilsl => exact .bl (by simp) (sl_empty e none 0) (upd_same _ _ _) (by simp) (fun _ => rfl)
      · rw [List.getElem?_set_ne (Ne.symm e2)] at hy
        exact (hr.st.blk b' y hy).mono hx' (upd_ne e1) (Nat.le_succ _) (fun _ _ _ h => h) (fun _ _ _ _ => rfl)
  · simp only [List.length_append, List.length_set, List.length_singleton] at h1 h2
    by_cases e1 : b1 = h.length
    · subst e1; rw [upd_same] at c1; simp [Loc.conc] at c1
    · by_cases e2 : b2 = h.length
      · subst e2; rw [upd_same] at c2; simp [Loc.conc] at c2
      · rw [upd_ne e1] at c1; rw [upd_ne e2] at c2
        exact hr.st.dist b1 b2 B (by show b1 < h.length; omega) (by show b2 < h.length; omega) c1 c2
  · simp only [List.length_append, List.length_set, List.length_singleton] at h1
    by_cases e1 : b1 = h.length
    · subst e1; rw [upd_same] at c1; simp [Loc.conc] at c1
    · rw [upd_ne e1] at c1
      exact hr.st.lt b1 B (by show b1 < h.length; omega) c1
  · obtain ⟨cv, h4, h5⟩ := hr.slots i v hi
    exact ⟨cv, h4, h5.mono hx' (by simp)⟩

end Go.Vm
