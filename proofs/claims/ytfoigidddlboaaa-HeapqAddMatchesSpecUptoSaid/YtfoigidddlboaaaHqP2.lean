/- Plain laws: heaps. -/
import Derived.Test.YtfoigidddlboaaaHqP1
namespace Go.Vm
set_option maxRecDepth 10000
set_option linter.unusedSimpArgs false

abbrev g (l : List Ent) (i : Nat) : Ent := l.getD i default

theorem g_swap {l : List Ent} {i k : Nat} (hi : i < l.length) (hk : k < l.length) (j : Nat) : g (swapE l i k) j = if j = k then g l i else if j = i then g l k else g l j := by
  simp only [g, swapE, List.getD, List.getElem?_set, List.length_set]
  by_cases h1 : k = j
  · subst h1; simp [hk]
  · by_cases h2 : i = j
    · subst h2; simp [h1, Ne.symm h1, hi]
    · simp [h1, h2, Ne.symm h1, Ne.symm h2]

theorem perm_swap {l : List Ent} {i k : Nat} (hi : i < l.length) (hk : k < l.length) : (swapE l i k).Perm l := by
  have h := Array.swap_perm (xs := l.toArray) (i := i) (j := k) (by simpa using hi) (by simpa using hk)
  have e : swapE l i k = (l.toArray.swap i k (by simpa using hi) (by simpa using hk)).toList := by
    simp only [swapE, Array.swap_def, Array.toList_set, List.getD, List.getElem?_eq_getElem hi, List.getElem?_eq_getElem hk, Option.getD_some, List.getElem_toArray]
  rw [e]
  simpa using h.toList

structure Dn (n s : Nat) (l : List Ent) (i : Nat) : Prop where
  ok : ∀ j, 0 < j → j < n → s ≤ (j - 1) / 2 → (j - 1) / 2 ≠ i → aheadB (g l j) (g l ((j - 1) / 2)) = false
  gp : 0 < i → s ≤ (i - 1) / 2 → ∀ j, 0 < j → j < n → (j - 1) / 2 = i → aheadB (g l j) (g l ((i - 1) / 2)) = false

def HeapFrom (n s : Nat) (l : List Ent) : Prop := ∀ j, 0 < j → j < n → s ≤ (j - 1) / 2 → aheadB (g l j) (g l ((j - 1) / 2)) = false

theorem kid_or (n : Nat) (l : List Ent) (i : Nat) : kidE n l i = 2 * i + 1 ∨ kidE n l i = 2 * i + 2 ∧ 2 * i + 2 < n := by
  unfold kidE
  split
  · rename_i h; exact .inr ⟨rfl, h.1⟩
  · exact .inl rfl

theorem kid_least {n : Nat} {l : List Ent} {i j : Nat} (hj : (j - 1) / 2 = i) (h0 : 0 < j) (hn : j < n) : aheadB (g l j) (g l (kidE n l i)) = false := by
  have hjc : j = 2 * i + 1 ∨ j = 2 * i + 2 := by omega
  unfold kidE
  simp only [cmp_lt]
  split
  · rename_i h
    rcases hjc with e | e
    · rw [e]; exact ahead_asymm h.2
    · rw [e]; exact ahead_irr _
  · rename_i h
    rcases hjc with e | e
    · rw [e]; exact ahead_irr _
    · rw [e]
      cases hh : aheadB (g l (2 * i + 2)) (g l (2 * i + 1)) with
      | false => rfl
      | true => exact absurd ⟨by omega, hh⟩ h

theorem down_heap {n s : Nat} : ∀ (f : Nat) (l : List Ent) (i : Nat), Dn n s l i → n ≤ l.length → n ≤ i + f → HeapFrom n s (downF n f l i)
  | 0, l, i, hd, hl, hf => fun j h0 hj hs => hd.ok j h0 hj hs (by omega)
  | f + 1, l, i, hd, hl, hf => by
    simp only [downF]
    split
    · exact fun j h0 hj hs => hd.ok j h0 hj hs (by omega)
    · rename_i hn
      have hk := kid_or n l i
      obtain ⟨c, hc⟩ : ∃ c, c = kidE n l i := ⟨_, rfl⟩
      rw [← hc] at hk ⊢
      have hci : (c - 1) / 2 = i := by omega
      have hcn : c < n := by omega
      have hc0 : 0 < c := by omega
      have hleast : ∀ j, (j - 1) / 2 = i → 0 < j → j < n → aheadB (g l j) (g l c) = false := fun j h1 h2 h3 => by rw [hc]; exact kid_least h1 h2 h3
      split
      · rename_i hge
        have hge' : aheadB (g l c) (g l i) = false := by
          cases h : aheadB (g l c) (g l i) with
          | false => rfl
          | true => have := (cmp_lt _ _).mpr h; exact absurd hge (by simp only [g] at this; omega)
        intro j h0 hj hs
        by_cases hji : (j - 1) / 2 = i
        · rw [hji]; exact le_trans' hge' (hleast j hji h0 hj)
        · exact hd.ok j h0 hj hs hji
      · rename_i hlt
        have hlt' : aheadB (g l c) (g l i) = true := (cmp_lt _ _).mp (by simp only [g]; omega)
        have hg := g_swap (l := l) (i := i) (k := c) (by omega) (by omega)
        refine down_heap f _ c ⟨fun j h0 hj hs hne => ?_, fun _ hs j h0 hj hjc => ?_⟩ (by rw [length_swapE]; exact hl) (by omega)
        · rw [hg j, hg ((j - 1) / 2), if_neg hne]
          by_cases e1 : j = c
          · rw [if_pos e1, if_pos (by rw [e1]; exact hci)]
            exact ahead_asymm hlt'
          · rw [if_neg e1]
            by_cases e2 : (j - 1) / 2 = i
            · rw [if_pos e2, if_neg (by omega)]
              exact hleast j e2 h0 hj
            · rw [if_neg e2]
              by_cases e3 : j = i
              · rw [if_pos e3]
                subst e3
                exact hd.gp h0 hs c hc0 hcn hci
              · rw [if_neg e3]
                exact hd.ok j h0 hj hs e2
        · rw [hci] at hs ⊢
          rw [hg j, hg i, if_neg (by omega), if_neg (by omega), if_neg (by omega), if_pos rfl]
          have := hd.ok j h0 hj (by omega) (by omega)
          rw [hjc] at this
          exact this

theorem down_perm {n : Nat} : ∀ (f : Nat) (l : List Ent) (i : Nat), n ≤ l.length → (downF n f l i).Perm l
  | 0, _, _, _ => .refl _
  | f + 1, l, i, hl => by
    simp only [downF]
    split
    · exact .refl _
    · rename_i hn
      have hk := kid_or n l i
      split
      · exact .refl _
      · exact (down_perm f _ _ (by rw [length_swapE]; exact hl)).trans (perm_swap (by omega) (by omega))

theorem up_heap {n : Nat} : ∀ (f : Nat) (l : List Ent) (i : Nat), i < n → n ≤ l.length → i ≤ f → (∀ j, 0 < j → j < n → j ≠ i → aheadB (g l j) (g l ((j - 1) / 2)) = false) →
    (0 < i → ∀ j, 0 < j → j < n → (j - 1) / 2 = i → aheadB (g l j) (g l ((i - 1) / 2)) = false) → Heap n (upF f l i)
  | 0, l, i, hi, hl, hf, h1, h2 => fun j h0 hj => h1 j h0 hj (by omega)
  | f + 1, l, i, hi, hl, hf, h1, h2 => by
    simp only [upF]
    split
    · rename_i e; exact fun j h0 hj => h1 j h0 hj (by omega)
    · rename_i hi0
      obtain ⟨p, hp⟩ : ∃ p, p = (i - 1) / 2 := ⟨_, rfl⟩
      rw [← hp] at h2 ⊢
      split
      · rename_i hlt
        have hlt' : aheadB (g l i) (g l p) = true := (cmp_lt _ _).mp hlt
        have hg := g_swap (l := l) (i := i) (k := p) (by omega) (by omega)
        refine up_heap f _ p (by omega) (by rw [length_swapE]; exact hl) (by omega) (fun j h0 hj hne => ?_) (fun hp0 j h0 hj hjp => ?_)
        · rw [hg j, hg ((j - 1) / 2), if_neg hne]
          by_cases e1 : j = i
          · rw [if_pos e1, if_pos (by rw [e1, hp])]
            exact ahead_asymm hlt'
          · rw [if_neg e1]
            by_cases e2 : (j - 1) / 2 = p
            · rw [if_pos e2]
              have h3 := h1 j h0 hj e1
              rw [e2] at h3
              exact le_trans' (ahead_asymm hlt') h3
            · rw [if_neg e2]
              by_cases e3 : (j - 1) / 2 = i
              · rw [if_pos e3]
                exact h2 (by omega) j h0 hj e3
              · rw [if_neg e3]
                exact h1 j h0 hj e1
        · have hpp := h1 p hp0 (by omega) (by omega)
          rw [hg j, hg ((p - 1) / 2), if_neg (show ¬ j = p by omega), if_neg (show ¬ (p - 1) / 2 = p by omega), if_neg (show ¬ (p - 1) / 2 = i by omega)]
          split
          · exact hpp
          · rename_i e1
            have h3 := h1 j h0 hj e1
            rw [hjp] at h3
            exact le_trans' hpp h3
      · rename_i hge
        intro j h0 hj
        by_cases e : j = i
        · subst e
          rw [← hp]
          cases h : aheadB (g l j) (g l p) with
          | false => rfl
          | true => exact absurd ((cmp_lt _ _).mpr h) hge
        · exact h1 j h0 hj e

theorem heap_dn {n : Nat} {l : List Ent} (h : Heap n l) (i : Nat) : Dn n 0 l i :=
  ⟨fun j h0 hj _ _ => h j h0 hj, fun hi0 _ j h0 hj hji => by
    have h1 := h j h0 hj
    rw [hji] at h1
    exact le_trans' (h i hi0 (by omega)) h1⟩

theorem up_perm : ∀ (f : Nat) (l : List Ent) (i : Nat), i < l.length → (upF f l i).Perm l
  | 0, _, _, _ => .refl _
  | f + 1, l, i, hl => by
    simp only [upF]
    split
    · exact .refl _
    · split
      · exact (up_perm f _ _ (by rw [length_swapE]; omega)).trans (perm_swap (by omega) (by omega))
      · exact .refl _

/-- A heap but for one entry. -/
structure But (n : Nat) (l : List Ent) (i : Nat) : Prop where
  ok : ∀ j, 0 < j → j < n → j ≠ i → (j - 1) / 2 ≠ i → aheadB (g l j) (g l ((j - 1) / 2)) = false
  gp : 0 < i → ∀ j, 0 < j → j < n → (j - 1) / 2 = i → aheadB (g l j) (g l ((i - 1) / 2)) = false

theorem up_dn {n f : Nat} {l : List Ent} {i : Nat} (hi : i < n) (hl : n ≤ l.length) (hf : i ≤ f) (h : But n l i) : Dn n 0 (upF f l i) i := by
  cases f with
  | zero => exact ⟨fun j h0 hj _ hne => h.ok j h0 hj (by omega) hne, fun h0 _ j => h.gp h0 j⟩
  | succ f =>
    simp only [upF]
    split
    · exact ⟨fun j h0 hj _ hne => h.ok j h0 hj (by omega) hne, fun h0 _ j => h.gp h0 j⟩
    · rename_i hi0
      obtain ⟨p, hp⟩ : ∃ p, p = (i - 1) / 2 := ⟨_, rfl⟩
      have hgp := h.gp
      rw [← hp] at hgp ⊢
      split
      · rename_i hlt
        have hlt' : aheadB (g l i) (g l p) = true := (cmp_lt _ _).mp hlt
        have hg := g_swap (l := l) (i := i) (k := p) (by omega) (by omega)
        refine heap_dn (up_heap f _ p (by omega) (by rw [length_swapE]; exact hl) (by omega) (fun j h0 hj hne => ?_) (fun hp0 j h0 hj hjp => ?_)) i
        · rw [hg j, hg ((j - 1) / 2), if_neg hne]
          by_cases e1 : j = i
          · rw [if_pos e1, if_pos (by rw [e1, hp])]
            exact ahead_asymm hlt'
          · rw [if_neg e1]
            by_cases e2 : (j - 1) / 2 = p
            · rw [if_pos e2]
              have h3 := h.ok j h0 hj e1 (by omega)
              rw [e2] at h3
              exact le_trans' (ahead_asymm hlt') h3
            · rw [if_neg e2]
              by_cases e3 : (j - 1) / 2 = i
              · rw [if_pos e3]
                exact hgp (by omega) j h0 hj e3
              · rw [if_neg e3]
                exact h.ok j h0 hj e1 e3
        · have hpp := h.ok p hp0 (by omega) (by omega) (by omega)
          rw [hg j, hg ((p - 1) / 2), if_neg (show ¬ j = p by omega), if_neg (show ¬ (p - 1) / 2 = p by omega), if_neg (show ¬ (p - 1) / 2 = i by omega)]
          split
          · exact hpp
          · rename_i e1
            have h3 := h.ok j h0 hj e1 (by omega)
            rw [hjp] at h3
            exact le_trans' hpp h3
      · rename_i hge
        refine ⟨fun j h0 hj _ hne => ?_, fun h0 _ j h1 h2 h3 => by rw [← hp]; exact hgp h0 j h1 h2 h3⟩
        by_cases e : j = i
        · subst e
          rw [← hp]
          cases h : aheadB (g l j) (g l p) with
          | false => rfl
          | true => exact absurd ((cmp_lt _ _).mpr h) hge
        · exact h.ok j h0 hj e hne

theorem settle_heap {n : Nat} {l : List Ent} {i : Nat} (hi : i < n) (hl : n ≤ l.length) (h : But n l i) : Heap n (settleF n l i) := by
  have := down_heap n _ i (up_dn hi hl (Nat.le_refl i) h) (by rw [length_upF]; exact hl) (by omega)
  exact fun j h0 hj => this j h0 hj (by omega)

theorem settle_perm {n : Nat} {l : List Ent} {i : Nat} (hi : i < n) (hl : n ≤ l.length) : (settleF n l i).Perm l :=
  (down_perm n _ i (by rw [length_upF]; exact hl)).trans (up_perm i l i (by omega))

/-! What lies behind the active entries does not matter. -/

theorem g_app {l t : List Ent} {i : Nat} (h : i < l.length) : (l ++ t).getD i default = l.getD i default := by
  simp only [List.getD, List.getElem?_append_left h]
theorem swap_app {l t : List Ent} {i k : Nat} (hi : i < l.length) (hk : k < l.length) : swapE (l ++ t) i k = swapE l i k ++ t := by
  simp only [swapE, g_app hi, g_app hk]
  rw [List.set_append_left _ _ hi, List.set_append_left _ _ (by simpa using hk)]
theorem up_app {t : List Ent} : ∀ (f : Nat) (l : List Ent) (i : Nat), i < l.length → upF f (l ++ t) i = upF f l i ++ t
  | 0, _, _, _ => rfl
  | f + 1, l, i, hi => by
    simp only [upF]
    rw [g_app hi, g_app (show (i - 1) / 2 < l.length by omega), swap_app hi (by omega)]
    split
    · rfl
    · split
      · rw [up_app f _ _ (by rw [length_swapE]; omega)]
      · rfl
theorem kid_app {n : Nat} {l t : List Ent} {i : Nat} (hn : n ≤ l.length) (h : ¬ n ≤ 2 * i + 1) : kidE n (l ++ t) i = kidE n l i := by
  unfold kidE
  by_cases h2 : 2 * i + 2 < n
  · rw [g_app (show 2 * i + 2 < l.length by omega), g_app (show 2 * i + 1 < l.length by omega)]
  · simp [h2]
theorem down_app {n : Nat} {t : List Ent} : ∀ (f : Nat) (l : List Ent) (i : Nat), n ≤ l.length → downF n f (l ++ t) i = downF n f l i ++ t
  | 0, _, _, _ => rfl
  | f + 1, l, i, hl => by
    simp only [downF]
    split
    · rfl
    · rename_i hn
      rw [kid_app hl hn]
      have hk := kid_or n l i
      rw [g_app (show kidE n l i < l.length by omega), g_app (show i < l.length by omega), swap_app (by omega) (by omega)]
      split
      · rfl
      · rw [down_app f _ _ (by rw [length_swapE]; exact hl)]
theorem settle_app {n : Nat} {l t : List Ent} {i : Nat} (hi : i < n) (hl : n ≤ l.length) : settleF n (l ++ t) i = settleF n l i ++ t := by
  unfold settleF
  rw [up_app i l i (by omega), down_app n _ i (by rw [length_upF]; exact hl)]

/-! Building. -/

theorem heap_build {n : Nat} : ∀ (i : Nat) (l : List Ent), n ≤ l.length → HeapFrom n i l → Heap n (heapF n i l) ∧ (heapF n i l).Perm l
  | 0, l, _, h => ⟨fun j h0 hj => h j h0 hj (by omega), .refl _⟩
  | i + 1, l, hl, h => by
    simp only [heapF]
    have hd := down_heap (s := i) n l i ⟨fun j h0 hj hs hne => h j h0 hj (by omega), fun h0 hs => absurd hs (by omega)⟩ hl (by omega)
    obtain ⟨h1, h2⟩ := heap_build i (downF n n l i) (by rw [length_downF]; exact hl) hd
    exact ⟨h1, h2.trans (down_perm n l i hl)⟩

theorem heap_built (l : List Ent) : Heap l.length (heapF l.length (l.length / 2) l) ∧ (heapF l.length (l.length / 2) l).Perm l :=
  heap_build _ l (Nat.le_refl _) (fun j h0 hj hs => absurd hs (by omega))

/-- The root of a heap is ahead of all, or equal. -/
theorem heap_min {n : Nat} {l : List Ent} (h : Heap n l) : ∀ i, i < n → aheadB (g l i) (g l 0) = false := by
  intro i
  induction i using Nat.strongRecOn with
  | ind i ih =>
    intro hi
    rcases Nat.eq_zero_or_pos i with e | h0
    · subst e; exact ahead_irr _
    · exact le_trans' (ih ((i - 1) / 2) (by omega) (by omega)) (h i h0 hi)

end Go.Vm
