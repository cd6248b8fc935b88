import Derived.Test.YtjjpkeajlgbleaaDoorDt25
import Derived.Test.YtjjpkeajlgbleaaDoorDt19
namespace Go.Vm
open Proofs
set_option maxRecDepth 20000
set_option linter.unusedSimpArgs false
def widT : List UInt8 := [52, 50, 50, 50, 50, 50, 51, 52, 50, 49, 48, 48]
theorem let_cases {e : UInt8} (he : letL.contains e = true) (h37 : e ≠ 37) :
    (∃ k : Nat, k < 10 ∧ letR e = k ∧ nsP e = none ∧ widP e ≤ 4 ∧ widT[k]? = some (UInt8.ofNat (widP e + 48))) ∨ (letR e = 10 ∧ nsP e = some dayNames) ∨ (letR e = 11 ∧ nsP e = some monthNames) := by
  simp only [letL, List.contains_eq_mem, List.mem_cons, List.not_mem_nil, or_false, decide_eq_true_eq] at he
  rcases he with rfl | rfl | rfl | rfl | rfl | rfl | rfl | rfl | rfl | rfl | rfl | rfl | rfl
  · exact .inl ⟨0, by decide⟩
  · exact .inl ⟨1, by decide⟩
  · exact .inl ⟨2, by decide⟩
  · exact .inl ⟨3, by decide⟩
  · exact .inl ⟨4, by decide⟩
  · exact .inl ⟨5, by decide⟩
  · exact .inl ⟨6, by decide⟩
  · exact .inl ⟨7, by decide⟩
  · exact .inl ⟨8, by decide⟩
  · exact .inl ⟨9, by decide⟩
  · exact .inr (.inl (by decide))
  · exact .inr (.inr (by decide))
  · exact absurd rfl h37
/-- A name of three letters at the head of a text. -/
theorem nameS_word : ∀ (ns : List (List UInt8)) (i : Nat) (l : List UInt8), (∀ x ∈ ns, x.length = 3) →
    nameS ns i l = if 3 ≤ l.length ∧ 0 ≤ wordS ns (l.take 3) i then ((wordS ns (l.take 3) i + 1, true), l.drop 3) else ((0, false), l)
  | [], i, l, _ => by simp [nameS, wordS]
  | s :: ns, i, l, h => by
    have hs : s.length = 3 := h s (List.mem_cons_self ..)
    have ih := nameS_word ns (i + 1) l fun x hx => h x (List.mem_cons_of_mem _ hx)
    have hw : wordS (s :: ns) (l.take 3) i = if s = l.take 3 then (i : Int) else wordS ns (l.take 3) (i + 1) := rfl
    generalize wordS (s :: ns) (l.take 3) i = wv at hw ⊢
    simp only [nameS]
    by_cases hp : s.isPrefixOf l = true
    · have hp' := List.isPrefixOf_iff_prefix.mp hp
      have hl : 3 ≤ l.length := by have := hp'.length_le; omega
      have ht : s = l.take 3 := by rw [← hs]; exact List.prefix_iff_eq_take.mp hp'
      rw [if_pos ht] at hw
      subst hw
      rw [if_pos hp, if_pos ⟨hl, by omega⟩, hs]
    · have ht : ¬ s = l.take 3 := fun ht => hp (List.isPrefixOf_iff_prefix.mpr (by rw [ht]; exact List.take_prefix 3 l))
      rw [if_neg ht] at hw
      subst hw
      rw [if_neg hp]
      rw [show ((i : Int) + 1) = ((i + 1 : Nat) : Int) from by omega]
      exact ih
end Go.Vm
