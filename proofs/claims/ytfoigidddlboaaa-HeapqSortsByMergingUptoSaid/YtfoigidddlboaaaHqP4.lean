/- Plain laws: merging. -/
import Derived.Test.YtfoigidddlboaaaHqP3
import Derived.Test.YtfoigidddlboaaaHqX
namespace Go.Vm
set_option maxRecDepth 10000
set_option linter.unusedSimpArgs false

/-- A list that is not empty and before whose first element none is less. -/
def MinAt {α : Type} (less : α → α → Bool) (ls : List (List α)) (l : List α) : Prop := l ≠ [] ∧ ∀ l' ∈ ls, headLt less l l' = false

theorem exists_min {α : Type} {less : α → α → Bool} (hirr : ∀ a, less a a = false) (htr : ∀ a b c, less a b = true → less b c = true → less a c = true) :
    ∀ (ls : List (List α)), (∃ l ∈ ls, l ≠ []) → ∃ l ∈ ls, MinAt less ls l
  | [], h => by obtain ⟨l, hl, _⟩ := h; cases hl
  | l :: ls, h => by
    by_cases hr : ∃ l' ∈ ls, l' ≠ []
    · obtain ⟨m, hm, hne, hmin⟩ := exists_min hirr htr ls hr
      cases hc : headLt less m l with
      | false => exact ⟨m, List.mem_cons_of_mem _ hm, hne, fun l' hl' => by
          rcases List.mem_cons.mp hl' with e | e
          · rw [e]; exact hc
          · exact hmin l' e⟩
      | true =>
        cases l with
        | nil => cases m <;> simp [headLt] at hc
        | cons x xs =>
          cases m with
          | nil => exact absurd rfl hne
          | cons y ys =>
            refine ⟨x :: xs, by simp, by simp, fun l' hl' => ?_⟩
            rcases List.mem_cons.mp hl' with e | e
            · rw [e]; exact hirr x
            · have := hmin l' e
              cases l' with
              | nil => rfl
              | cons z zs =>
                simp only [headLt] at hc this ⊢
                cases hzx : less z x with
                | false => rfl
                | true => rw [htr z x y hzx hc] at this; cases this
    · have hall : ∀ l' ∈ ls, l' = [] := fun l' hl' => Classical.byContradiction fun hne => hr ⟨l', hl', hne⟩
      obtain ⟨l0, hl0, hne0⟩ := h
      rcases List.mem_cons.mp hl0 with e | e
      · subst e
        refine ⟨l0, by simp, hne0, fun l' hl' => ?_⟩
        rcases List.mem_cons.mp hl' with e | e
        · rw [e]; cases l0 with
          | nil => rfl
          | cons x xs => exact hirr x
        · rw [hall l' e]; rfl
      · exact absurd (hall l0 e) hne0

theorem any_headLt {α : Type} {less : α → α → Bool} (hirr : ∀ a, less a a = false) {pre rest : List (List α)} {l : List α} : (pre ++ rest).any (headLt less l) = (pre ++ l :: rest).any (headLt less l) := by
  have : headLt less l l = false := by cases l with
    | nil => rfl
    | cons x xs => exact hirr x
  simp [this]

/-- least finds the first list that is least. -/
theorem least_first {α : Type} {less : α → α → Bool} (hirr : ∀ a, less a a = false) {ls : List (List α)} : ∀ (rest pre : List (List α)) (f : Int), pre ++ rest = ls → (∃ l ∈ rest, MinAt less ls l) →
    ∃ k l, leastFrom less f pre rest = ((pre.length + k : Nat) : Int) ∧ rest[k]? = some l ∧ MinAt less ls l ∧ ∀ j, j < k → ∀ l', rest[j]? = some l' → ¬ MinAt less ls l'
  | [], _, _, _, h => by obtain ⟨l, hl, _⟩ := h; cases hl
  | l :: rest, pre, f, he, h => by
    have step : ∀ f', ¬ MinAt less ls l → leastFrom less f pre (l :: rest) = leastFrom less f' (pre ++ [l]) rest →
        ∃ k l0, leastFrom less f pre (l :: rest) = ((pre.length + k : Nat) : Int) ∧ (l :: rest)[k]? = some l0 ∧ MinAt less ls l0 ∧ ∀ j, j < k → ∀ l', (l :: rest)[j]? = some l' → ¬ MinAt less ls l' := by
      intro f' hn hstep
      obtain ⟨l0, hl0, hm0⟩ := h
      have : ∃ l ∈ rest, MinAt less ls l := by
        rcases List.mem_cons.mp hl0 with e | e
        · rw [e] at hm0; exact absurd hm0 hn
        · exact ⟨l0, e, hm0⟩
      obtain ⟨k, l1, h1, h2, h3, h4⟩ := least_first hirr rest (pre ++ [l]) f' (by simpa using he) this
      refine ⟨k + 1, l1, by rw [hstep, h1]; simp; omega, by simpa using h2, h3, fun j hj l' hl' => ?_⟩
      cases j with
      | zero => simp at hl'; subst hl'; exact hn
      | succ j => exact h4 j (by omega) l' (by simpa using hl')
    by_cases hne : l = []
    · exact step f (fun h => h.1 hne) (by rw [leastFrom, if_pos hne])
    · cases hany : (pre ++ rest).any (headLt less l) with
      | true =>
        refine step (if f < 0 then (pre.length : Int) else f) (fun hm => ?_) (by rw [leastFrom, if_neg hne]; simp only [hany, if_true])
        rw [any_headLt hirr, he] at hany
        obtain ⟨l', hl', ht⟩ := List.any_eq_true.mp hany
        rw [hm.2 l' hl'] at ht
        cases ht
      | false =>
        refine ⟨0, l, by rw [leastFrom, if_neg hne]; simp [hany], by simp, ⟨hne, fun l' hl' => ?_⟩, fun j hj => absurd hj (by omega)⟩
        rw [any_headLt hirr, he] at hany
        exact List.any_eq_false.mp hany l' hl' |> fun h => by simpa using h

theorem least_spec {α : Type} {less : α → α → Bool} (hirr : ∀ a, less a a = false) (htr : ∀ a b c, less a b = true → less b c = true → less a c = true) {ls : List (List α)} (h : ∃ l ∈ ls, l ≠ []) :
    ∃ (k : Nat) (l : List α), leastFrom less (-1) [] ls = (k : Int) ∧ ls[k]? = some l ∧ MinAt less ls l ∧ ∀ j, j < k → ∀ l', ls[j]? = some l' → ¬ MinAt less ls l' := by
  obtain ⟨k, l, h1, h2⟩ := least_first hirr ls [] (-1) rfl (exists_min hirr htr ls h)
  exact ⟨k, l, by simpa using h1, h2⟩

theorem least_empty {α : Type} {less : α → α → Bool} : ∀ {rest pre : List (List α)}, (∀ l ∈ rest, l = []) → leastFrom less (-1) pre rest = -1
  | [], _, _ => rfl
  | l :: rest, pre, h => by rw [leastFrom, if_pos (h l (by simp))]; exact least_empty (fun l hl => h l (List.mem_cons_of_mem _ hl))

/-! The reference's choice. -/

def lessP (a b : Int × Int) : Bool := decide (a.1 < b.1)

theorem pick_spec : ∀ (rest pre : List (List (Int × Int))) (k v : Int),
    ((k < 0 ∧ ∀ l ∈ pre, l = []) ∨ ∃ k' x r, k = ((k' : Nat) : Int) ∧ pre[k']? = some (x :: r) ∧ x.1 = v ∧ (∀ l' ∈ pre, headLt lessP (x :: r) l' = false) ∧ ∀ j, j < k' → ∀ y r', pre[j]? = some (y :: r') → x.1 < y.1) →
    ((pickF pre.length k v rest < 0 ∧ ∀ l ∈ pre ++ rest, l = []) ∨ ∃ k' x r, pickF pre.length k v rest = ((k' : Nat) : Int) ∧ (pre ++ rest)[k']? = some (x :: r) ∧ (∀ l' ∈ pre ++ rest, headLt lessP (x :: r) l' = false) ∧ ∀ j, j < k' → ∀ y r', (pre ++ rest)[j]? = some (y :: r') → x.1 < y.1)
  | [], pre, k, v, h => by
    rcases h with ⟨h1, h2⟩ | ⟨k', x, r, h1, h2, h3, h4, h5⟩
    · exact .inl ⟨by simpa [pickF] using h1, by simpa using h2⟩
    · exact .inr ⟨k', x, r, by simpa [pickF] using h1, by simpa using h2, by simpa using h4, by simpa using h5⟩
  | [] :: rest, pre, k, v, h => by
    have happ : pre ++ [] :: rest = (pre ++ [[]]) ++ rest := by simp
    have hlen : pre.length + 1 = (pre ++ [([] : List (Int × Int))]).length := by simp
    rw [happ]
    simp only [pickF]
    rw [hlen]
    refine pick_spec rest _ k v ?_
    rcases h with ⟨h1, h2⟩ | ⟨k', x, r, h1, h2, h3, h4, h5⟩
    · exact .inl ⟨h1, fun l hl => by
        rcases List.mem_append.mp hl with e | e
        · exact h2 l e
        · exact List.mem_singleton.mp e⟩
    · have hk' := (List.getElem?_eq_some_iff.mp h2).1
      refine .inr ⟨k', x, r, h1, by rw [List.getElem?_append_left hk']; exact h2, h3, fun l' hl' => ?_, fun j hj y r' hy => ?_⟩
      · rcases List.mem_append.mp hl' with e | e
        · exact h4 l' e
        · rw [List.mem_singleton.mp e]; rfl
      · rw [List.getElem?_append_left (by omega)] at hy
        exact h5 j hj y r' hy
  | (x :: l) :: rest, pre, k, v, h => by
    have happ : pre ++ (x :: l) :: rest = (pre ++ [x :: l]) ++ rest := by simp
    have hlen : pre.length + 1 = (pre ++ [x :: l]).length := by simp
    rw [happ]
    simp only [pickF]
    rw [hlen]
    split
    · rename_i hc
      refine pick_spec rest _ pre.length x.1 (.inr ⟨pre.length, x, l, rfl, by simp, rfl, fun l' hl' => ?_, fun j hj y r' hy => ?_⟩)
      · rcases List.mem_append.mp hl' with e | e
        · cases l' with
          | nil => rfl
          | cons y r' =>
            rcases h with ⟨h1, h2⟩ | ⟨k', x0, r, h1, h2, h3, h4, h5⟩
            · have := h2 _ e; cases this
            · have := h4 _ e
              simp only [headLt, lessP, decide_eq_false_iff_not] at this ⊢
              omega
        · rw [List.mem_singleton.mp e]; simp [headLt, lessP]
      · rw [List.getElem?_append_left hj] at hy
        have hm := List.mem_of_getElem? hy
        rcases h with ⟨h1, h2⟩ | ⟨k', x0, r, h1, h2, h3, h4, h5⟩
        · have := h2 _ hm; cases this
        · have := h4 _ hm
          simp only [headLt, lessP, decide_eq_false_iff_not] at this
          omega
    · rename_i hc
      rcases h with ⟨h1, h2⟩ | ⟨k', x0, r, h1, h2, h3, h4, h5⟩
      · exact absurd (.inl h1) hc
      · have hk' := (List.getElem?_eq_some_iff.mp h2).1
        refine pick_spec rest _ k v (.inr ⟨k', x0, r, h1, by rw [List.getElem?_append_left hk']; exact h2, h3, fun l' hl' => ?_, fun j hj y r' hy => ?_⟩)
        · rcases List.mem_append.mp hl' with e | e
          · exact h4 l' e
          · rw [List.mem_singleton.mp e]
            simp only [headLt, lessP, decide_eq_false_iff_not]
            omega
        · rw [List.getElem?_append_left (by omega)] at hy
          exact h5 j hj y r' hy

theorem lessP_irr (a : Int × Int) : lessP a a = false := by simp [lessP]
theorem lessP_tr (a b c : Int × Int) (h : lessP a b = true) (h' : lessP b c = true) : lessP a c = true := by simp only [lessP, decide_eq_true_eq] at *; omega

theorem choice_eq (ls : List (List (Int × Int))) : (leastFrom lessP (-1) [] ls < 0 ∧ pickF 0 (-1) 0 ls < 0) ∨ ∃ k : Nat, leastFrom lessP (-1) [] ls = k ∧ pickF 0 (-1) 0 ls = k ∧ ∃ x r, ls[k]? = some (x :: r) := by
  rcases pick_spec ls [] (-1) 0 (.inl ⟨by omega, by simp⟩) with ⟨h1, h2⟩ | ⟨k', x, r, h1, h2, h3, h4⟩
  · exact .inl ⟨by rw [least_empty (by simpa using h2)]; omega, by simpa using h1⟩
  · simp only [List.nil_append, List.length_nil] at h1 h2 h3 h4
    obtain ⟨k, l, h5, h6, h7, h8⟩ := least_spec lessP_irr lessP_tr (ls := ls) ⟨x :: r, List.mem_of_getElem? h2, by simp⟩
    have hkk : k = k' := by
      rcases Nat.lt_trichotomy k k' with h | h | h
      · cases l with
        | nil => exact absurd rfl h7.1
        | cons y r' =>
          have e1 := h4 k h y r' h6
          have e2 := h7.2 _ (List.mem_of_getElem? h2)
          simp only [headLt, lessP, decide_eq_false_iff_not] at e2
          omega
      · exact h
      · exact absurd ⟨by simp, h3⟩ (h8 k' h _ h2)
    subst hkk
    exact .inr ⟨k, h5, h1, x, r, h2⟩

theorem merge_mix : ∀ (n : Nat) (ls : List (List (Int × Int))), mergeF lessP n ls = mixF n ls
  | 0, _ => rfl
  | n + 1, ls => by
    simp only [mergeF, mixF]
    rcases choice_eq ls with ⟨h1, h2⟩ | ⟨k, h1, h2, _⟩
    · rw [if_pos h1, if_pos h2]
    · rw [if_neg (by omega), if_neg (by omega), h1, h2, merge_mix]

/-! Merging what is sorted. -/

theorem merge_srt : ∀ (n : Nat) (ls : List (List Ent)), total ls = n → (∀ l ∈ ls, Srt l) → (mergeF aheadB n ls).Perm ls.flatten ∧ Srt (mergeF aheadB n ls)
  | 0, ls, h, _ => by
    have : ls.flatten = [] := by
      have : ∀ (ls : List (List Ent)), total ls = 0 → ls.flatten = [] := by
        intro ls
        induction ls with
        | nil => intro _; rfl
        | cons l ls ih =>
          intro h
          simp only [total] at h
          have h1 : l = [] := List.eq_nil_of_length_eq_zero (by omega)
          rw [List.flatten_cons, h1, ih (by omega)]; rfl
      exact this ls h
    rw [this]
    exact ⟨.refl _, .nil⟩
  | n + 1, ls, h, hs => by
    have hex : ∃ l ∈ ls, l ≠ [] := Classical.byContradiction fun hn => by
      have := total_zero (ls := ls) (fun l hl => Classical.byContradiction fun hne => hn ⟨l, hl, hne⟩)
      omega
    obtain ⟨k, l, h1, h2, h3, _⟩ := least_spec (less := aheadB) ahead_irr (fun _ _ _ => ahead_trans) hex
    cases l with
    | nil => exact absurd rfl h3.1
    | cons x r =>
      have hk := (List.getElem?_eq_some_iff.mp h2).1
      have hts := total_set h2
      have hperm : (x :: (ls.set k r).flatten).Perm ls.flatten := by
        have e : ls = ls.take k ++ (x :: r) :: ls.drop (k + 1) := by
          rw [← (List.getElem?_eq_some_iff.mp h2).2, ← List.drop_eq_getElem_cons hk, List.take_append_drop]
        rw [List.set_eq_take_append_cons_drop, if_pos hk]
        conv => rhs; rw [e]
        simp only [List.flatten_append, List.flatten_cons, List.cons_append]
        exact List.perm_middle.symm
      have hs' : ∀ l ∈ ls.set k r, Srt l := by
        intro l hl
        rcases List.mem_or_eq_of_mem_set hl with e | e
        · exact hs l e
        · rw [e]; exact (List.pairwise_cons.mp (hs _ (List.mem_of_getElem? h2))).2
      obtain ⟨h5, h6⟩ := merge_srt n (ls.set k r) (by omega) hs'
      simp only [mergeF, h1, Int.toNat_natCast]
      rw [if_neg (by omega)]
      have hd : ls.getD k [] = x :: r := by simp [List.getD, h2]
      simp only [hd, List.headD_cons, List.drop_succ_cons, List.drop_zero]
      refine ⟨(h5.cons x).trans hperm, List.pairwise_cons.mpr ⟨fun y hy => ?_, h6⟩⟩
      have hy' := hperm.mem_iff.mp (List.mem_cons_of_mem _ (h5.mem_iff.mp hy))
      obtain ⟨l', hl', hyl⟩ := List.mem_flatten.mp hy'
      cases l' with
      | nil => cases hyl
      | cons z zs =>
        have e1 : aheadB z x = false := h3.2 _ hl'
        rcases List.mem_cons.mp hyl with e | e
        · rw [e]; exact e1
        · exact le_trans' e1 ((List.pairwise_cons.mp (hs _ hl')).1 y e)

end Go.Vm
