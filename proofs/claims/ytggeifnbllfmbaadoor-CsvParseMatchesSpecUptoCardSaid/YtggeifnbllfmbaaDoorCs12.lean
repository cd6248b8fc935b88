/- csv: the law of texts that join. -/
import Derived.Test.YtggeifnbllfmbaaDoorCs11
namespace Go.Vm
open Proofs
set_option maxRecDepth 20000
set_option maxHeartbeats 1000000
set_option linter.unusedSimpArgs false

theorem printS_ok {rows : List (List (List UInt8))} {d : Dia} (h : ¬ (printS rows d).2.1 ≠ 0) : printS rows d = (tableText d rows, (0, 0)) ∧ ¬ (diaFault d).1 ≠ 0 ∧ ¬ (tabFault rows (-2)).1 ≠ 0 ∧ (tableText d rows).length ≤ 4000 := by
  unfold printS at h ⊢
  by_cases h1 : (diaFault d).1 ≠ 0
  · rw [if_pos h1] at h; exact absurd h1 h
  rw [if_neg h1] at h ⊢
  by_cases h2 : (tabFault rows (-2)).1 ≠ 0
  · rw [if_pos h2] at h; exact absurd h2 h
  rw [if_neg h2] at h ⊢
  by_cases h3 : 4000 < (tableText d rows).length
  · rw [if_pos h3] at h; simp at h
  rw [if_neg h3]
  exact ⟨rfl, h1, h2, by omega⟩

theorem idxFrom_neg {α : Type} {p : α → Bool} : ∀ {l : List α} {n : Nat}, (¬ 0 ≤ idxFrom p n l) ↔ ∀ x ∈ l, ¬ p x = true
  | [], n => by simp [idxFrom]
  | x :: l, n => by
    rw [idxFrom]
    by_cases h : p x = true
    · rw [if_pos h]
      constructor
      · intro h1; omega
      · intro h1; exact absurd h (h1 x (by simp))
    · rw [if_neg h, idxFrom_neg (l := l)]
      constructor
      · intro h1 y hy
        rcases List.mem_cons.mp hy with rfl | hy
        · exact h
        · exact h1 y hy
      · intro h1 y hy; exact h1 y (by simp [hy])
theorem tabFault_none {rows : List (List (List UInt8))} {k : Int} (h : ¬ (tabFault rows k).1 ≠ 0) : ∀ r ∈ rows, ¬ r = [] := by
  unfold tabFault at h
  by_cases h1 : 200 < rows.length ∨ 1000 < total rows
  · rw [if_pos h1] at h; simp at h
  · rw [if_neg h1] at h
    by_cases h2 : 0 ≤ idxFrom (fun r => decide (r = [])) 0 rows
    · rw [if_pos h2] at h; simp at h
    · intro r hr
      have := idxFrom_neg.mp h2 r hr
      simpa using this
theorem tabFault_join {a b : List (List (List UInt8))} {k : Int} (ha : ∀ r ∈ a, ¬ r = []) (hb : ∀ r ∈ b, ¬ r = []) : tabFault (a ++ b) k = (2, k) ∨ tabFault (a ++ b) k = (0, 0) := by
  unfold tabFault
  by_cases h1 : 200 < (a ++ b).length ∨ 1000 < total (a ++ b)
  · rw [if_pos h1]; exact .inl rfl
  · rw [if_neg h1, if_neg]
    · exact .inr rfl
    · rw [idxFrom_neg]
      intro r hr
      rcases List.mem_append.mp hr with hr | hr
      · simpa using ha r hr
      · simpa using hb r hr

theorem law7 (a b : List (List (List UInt8))) (d : Dia) (hl : a.length < 2000000) (ht : total a < 2000000000000) (hr : ∀ r ∈ a, ∀ s ∈ r, s.length ≤ 1048576)
    (hl2 : b.length < 2000000) (ht2 : total b < 2000000000000) (hr2 : ∀ r ∈ b, ∀ s ∈ r, s.length ≤ 1048576) (h : List Blk) :
    CallP Tryd.prog 7 [.d (.sl 39 (a.map encR)), .d (.sl 39 (b.map encR)), .d (encDia d)] h (.d (.bool true)) := by
  refine callW tb_ok fn7 (by simp) (fun hok => ?_)
  simp (disch := first | omega | (simp; done) | (simp; omega)) [ltT, ltF, leT, leF, eqT', eqF, ltTn, leTn, ltFn, leFn, wrapI, mid, c7]
  refine (print_V a d hl ht hr _).useV ?_
  simp (disch := first | omega | (simp; done) | (simp; omega)) [ltT, ltF, leT, leF, eqT', eqF, ltTn, leTn, ltFn, leFn, wrapI, mid]
  refine (print_V b d hl2 ht2 hr2 _).useV ?_
  by_cases h1 : (printS a d).2.1 ≠ 0
  · simp (disch := first | omega | (simp; done) | (simp; omega)) [ltT, ltF, leT, leF, eqT', eqF, ltTn, leTn, ltFn, leFn, wrapI, mid, h1]
    refine (tabled_V _).useV ?_
    simp (disch := first | omega | (simp; done) | (simp; omega)) [ltT, ltF, leT, leF, eqT', eqF, ltTn, leTn, ltFn, leFn, wrapI, mid]
    exact rshift_d hok
  by_cases h2 : (printS b d).2.1 ≠ 0
  · simp (disch := first | omega | (simp; done) | (simp; omega)) [ltT, ltF, leT, leF, eqT', eqF, ltTn, leTn, ltFn, leFn, wrapI, mid, h1, h2]
    refine (tabled_V _).useV ?_
    simp (disch := first | omega | (simp; done) | (simp; omega)) [ltT, ltF, leT, leF, eqT', eqF, ltTn, leTn, ltFn, leFn, wrapI, mid]
    exact rshift_d hok
  obtain ⟨ea, d1, f1, la⟩ := printS_ok h1
  obtain ⟨eb, _, f2, lb⟩ := printS_ok h2
  obtain ⟨_, ra, ta⟩ := tabFault_ok f1
  obtain ⟨_, rb, tb'⟩ := tabFault_ok f2
  clear h1 h2
  rw [ea, eb]
  simp (disch := first | omega | (simp; done) | (simp; omega)) [ltT, ltF, leT, leF, eqT', eqF, ltTn, leTn, ltFn, leFn, wrapI, mid]
  have hcall := print_V (a ++ b) d (by simp; omega) (by rw [total_app]; omega) (fun r hr' => by rcases List.mem_append.mp hr' with h | h; exact hr r h; exact hr2 r h)
  have hjoin : (printS (a ++ b) d = ([], (2, -2)) ∨ printS (a ++ b) d = ([], (14, -3))) ∨ printS (a ++ b) d = (tableText d a ++ tableText d b, (0, 0)) := by
    unfold printS
    rw [if_neg d1]
    rcases tabFault_join (k := -2) (tabFault_none f1) (tabFault_none f2) with e | e
    · rw [e]; exact .inl (.inl rfl)
    · rw [e, if_neg (by simp)]
      split
      · exact .inl (.inr rfl)
      · rw [tableText_app]; exact .inr rfl
  simp only [List.map_append] at hcall
  refine CallP.useV (CallP.subs (hcall _) ⟨.bl _ _ _, .refl _, trivial⟩) ?_
  rcases hjoin with (e | e) | e
  · rw [e]
    simp (disch := first | omega | (simp; done) | (simp; omega)) [ltT, ltF, leT, leF, eqT', eqF, ltTn, leTn, ltFn, leFn, wrapI, mid]
    refine (tabled_V _).useV ?_
    simp (disch := first | omega | (simp; done) | (simp; omega)) [ltT, ltF, leT, leF, eqT', eqF, ltTn, leTn, ltFn, leFn, wrapI, mid]
    exact rshift_d hok
  · rw [e]
    simp (disch := first | omega | (simp; done) | (simp; omega)) [ltT, ltF, leT, leF, eqT', eqF, ltTn, leTn, ltFn, leFn, wrapI, mid]
    refine (tabled_V _).useV ?_
    simp (disch := first | omega | (simp; done) | (simp; omega)) [ltT, ltF, leT, leF, eqT', eqF, ltTn, leTn, ltFn, leFn, wrapI, mid]
    exact rshift_d hok
  · rw [e]
    simp (disch := first | omega | (simp; done) | (simp; omega)) [ltT, ltF, leT, leF, eqT', eqF, ltTn, leTn, ltFn, leFn, wrapI, mid]
    refine (tabled_V _).useV ?_
    simp (disch := first | omega | (simp; done) | (simp; omega)) [ltT, ltF, leT, leF, eqT', eqF, ltTn, leTn, ltFn, leFn, wrapI, mid]
    exact rshift_d hok

end Go.Vm
