/- Meeting points: what is shown once for several ways that come together. -/
import Derived.Test.YtkmeiandnebaeaaGreatDoorVMd
namespace Go.Vm
set_option linter.unusedSimpArgs false
variable {P : Program} {m nt : Nat} {env : Env} {tab : Tab}

theorem W_mono : ∀ {c : VC} {Q Q' : Exit → Env → Prop} {env : Env}, (∀ e x, Q e x → Q' e x) → W P tab m nt c Q env → W P tab m nt c Q' env
  | .skip, _, _, _, h, hw => h _ _ hw
  | .reg ops, _, _, _, h, hw => by
    unfold W at hw ⊢
    split at hw
    · rename_i hr
      rw [if_pos hr]
      obtain ⟨kp, h1, h2⟩ := hw
      exact ⟨kp, h1, wOps_mono (h _) h2⟩
    · rename_i hr
      rw [if_neg hr]
      exact wOps_mono (h _) hw
  | .seq a b, Q, Q', _, h, hw => by
    unfold W at hw ⊢
    refine W_mono ?_ hw
    intro e x q
    cases e <;> first | exact W_mono h q | exact h _ _ q
  | .cond c x y, _, _, _, h, hw => by
    unfold W at hw ⊢
    split at hw
    · exact ⟨fun q => W_mono h (hw.1 q), fun q => W_mono h (hw.2 q)⟩
    · exact ⟨fun q => W_mono h (hw.1 q), fun q => W_mono h (hw.2 q)⟩
    · exact hw.elim
  | .block id b, Q, Q', _, h, hw => by
    unfold W at hw ⊢
    refine W_mono ?_ hw
    intro e x q
    unfold blockQ at q ⊢
    split at q
    · split at q
      · rename_i e1; rw [if_pos e1]; exact h _ _ q
      · rename_i e1; rw [if_neg e1]; exact h _ _ q
    · exact h _ _ q
  | .loop b, Q, Q', _, h, hw => by
    unfold W at hw ⊢
    obtain ⟨ι, inv, μ, i, h1, h2⟩ := hw
    refine ⟨ι, inv, μ, i, h1, fun i => W_mono ?_ (h2 i)⟩
    intro e x q
    cases e <;> first | exact h _ _ q | exact q
  | .exit id, _, _, _, h, hw => h _ _ hw
  | .ret, _, _, _, h, hw => h _ _ hw
  | .bad, _, _, _, _, hw => hw.elim

/-- Two ways come together: J says what holds there. -/
theorem condJ {b : Bool} {x y : VC} {N : Env → Prop} {Q : Exit → Env → Prop} (J : Env → Prop) (hJ : ∀ e, J e → N e) (h : condV P tab m nt b x y (thenQ J Q) env) : condV P tab m nt b x y (thenQ N Q) env := by
  refine ⟨fun q => W_mono ?_ (h.1 q), fun q => W_mono ?_ (h.2 q)⟩ <;>
  · intro e x q
    cases e <;> first | exact hJ _ q | exact q
theorem W_seqJ {a b : VC} {Q : Exit → Env → Prop} (J : Env → Prop) (h : W P tab m nt a (thenQ J Q) env) (hJ : ∀ e, J e → W P tab m nt b Q e) : W P tab m nt (.seq a b) Q env := by
  unfold W
  refine W_mono ?_ h
  intro e x q
  cases e <;> first | exact hJ _ q | exact q

end Go.Vm
