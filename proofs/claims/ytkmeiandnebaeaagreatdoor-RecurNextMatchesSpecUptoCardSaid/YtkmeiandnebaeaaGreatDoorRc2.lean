/- recur: giving the days of a rule; the laws in plain words. -/
import Derived.Test.YtkmeiandnebaeaaGreatDoorRc1
namespace Go.Vm
set_option linter.unusedSimpArgs false
set_option linter.unusedVariables false
set_option maxHeartbeats 4000000

/-- The days are given to a function with a state, until it wants no more. -/
def runG {σ : Type} (y : σ → Int → σ × Bool) (s last count : Int) : List Int → Int × σ → Bool × (Int × σ)
  | [], x => (true, x)
  | n :: l, x =>
    if n < s then runG y s last count l x
    else if last < n ∨ (0 < count ∧ x.1 = count) then (false, x)
    else if (y x.2 n).2 = true then runG y s last count l (x.1 + 1, (y x.2 n).1) else (false, (x.1, (y x.2 n).1))

theorem runG_app {σ : Type} (y : σ → Int → σ × Bool) (s last count : Int) : ∀ (a b : List Int) (x : Int × σ), runG y s last count (a ++ b) x = if (runG y s last count a x).1 = true then runG y s last count b (runG y s last count a x).2 else runG y s last count a x
  | [], b, x => by simp [runG]
  | n :: a, b, x => by
    simp only [List.cons_append, runG]
    split
    · exact runG_app y s last count a b x
    · split
      · simp
      · split
        · exact runG_app y s last count a b _
        · simp

theorem runG_late {σ : Type} {y : σ → Int → σ × Bool} {s last count : Int} {l : List Int} (x : Int × σ) (h : ∀ n ∈ l, s ≤ n ∧ last < n) : (runG y s last count l x).2 = x := by
  cases l with
  | nil => rfl
  | cons n l =>
    have := h n (List.mem_cons_self ..)
    unfold runG
    rw [if_neg (by omega), if_pos (.inl this.2)]

/-- The state at the end. -/
noncomputable def eachS {σ : Type} (y : σ → Int → σ × Bool) (r : Ru) (s : Int) (st : σ) : σ := (runG y s (lastS r s) r.count (preS r s bigN) (0, st)).2.2

theorem lastS_le (r : Ru) (s : Int) : lastS r s ≤ maxD ∧ lastS r s ≤ s + 20000 := by unfold lastS; split <;> omega

theorem each_stop {σ : Type} {y : σ → Int → σ × Bool} {r : Ru} {s : Int} {st : σ} (hs : 1 ≤ s) {k : Nat} (hk : k + 1 ≤ bigN) {b : Bool} {x : Int × σ} (h : runG y s (lastS r s) r.count (preS r s (k + 1)) (0, st) = (b, x))
    (hb : b = false ∨ lastS r s < pf r.unit s (k + 1)) : eachS y r s st = x.2 := by
  unfold eachS
  obtain ⟨j, hj⟩ : ∃ j, bigN = k + 1 + j := ⟨bigN - (k + 1), by omega⟩
  rw [hj, preS_split, runG_app, h]
  cases b with
  | false => rfl
  | true =>
    rcases hb with hb | hb
    · cases hb
    · simp only [if_true]
      rw [runG_late]
      intro n hn
      have h1 := mem_sufS hn
      have h2 := (pf_start (u := r.unit) hs).2
      have h3 := pf_le r.unit s (a := 1) (b := ((k + 1 : Nat) : Int)) (by omega)
      rw [show ((k + 1 : Nat) : Int) = (k : Int) + 1 from by omega] at h1 h3
      omega

/-- List's function. -/
def yL (most : Nat) (out : List Int) (n : Int) : List Int × Bool := if out.length = most then (out, false) else (out ++ [n], true)

theorem inc_tail {n : Int} {l : List Int} (h : (n :: l).Pairwise (· < ·)) : (∀ m ∈ l, n < m) ∧ l.Pairwise (· < ·) := List.pairwise_cons.mp h

theorem run_list (r : Ru) (s last : Int) (most : Nat) : ∀ (l out : List Int), l.Pairwise (· < ·) → out.length ≤ mostS r most →
    (runG (yL most) s last r.count l ((out.length : Int), out)).2.2 = out ++ (l.filter fun n => decide (s ≤ n ∧ n ≤ last)).take (mostS r most - out.length)
  | [], out, _, _ => by simp [runG]
  | n :: l, out, hl, ho => by
    obtain ⟨h1, h2⟩ := inc_tail hl
    unfold runG
    by_cases c1 : n < s
    · rw [if_pos c1, run_list r s last most l out h2 ho, List.filter_cons_of_neg (by simp; omega)]
    · rw [if_neg c1]
      by_cases c2 : last < n
      · rw [if_pos (.inl c2)]
        have : (n :: l).filter (fun n => decide (s ≤ n ∧ n ≤ last)) = [] := by
          rw [List.filter_eq_nil_iff]
          intro m hm
          rcases List.mem_cons.mp hm with rfl | hm
          · simp; omega
          · have := h1 m hm; simp; omega
        rw [this]; simp
      · by_cases c3 : 0 < r.count ∧ (out.length : Int) = r.count
        · rw [if_pos (.inr c3)]
          have : mostS r most - out.length = 0 := by unfold mostS at ho ⊢; rw [if_pos c3.1]; omega
          rw [this]; simp
        · rw [if_neg (fun q => q.elim c2 c3)]
          unfold yL
          simp only
          by_cases c4 : out.length = most
          · rw [if_pos c4, if_neg (by simp)]
            have : mostS r most - out.length = 0 := by unfold mostS at ho ⊢; split <;> omega
            rw [this]; simp
          · rw [if_neg c4, if_pos rfl]
            have hlt : out.length < mostS r most := by
              unfold mostS at ho ⊢
              split
              · rename_i c5; rw [if_pos c5] at ho; have : ¬ (out.length : Int) = r.count := fun e => c3 ⟨c5, e⟩; omega
              · rename_i c5; rw [if_neg c5] at ho; omega
            have ih := run_list r s last most l (out ++ [n]) h2 (by simp; omega)
            have e1 : ((out.length : Int) + 1, (if out.length = most then (out, false) else (out ++ [n], true)).1) = (((out ++ [n]).length : Int), out ++ [n]) := by rw [if_neg c4]; simp
            have e2 : ((out.length : Int) + 1) = ((out ++ [n]).length : Int) := by simp
            rw [e2]
            refine ih.trans ?_
            rw [List.filter_cons_of_pos (by simp; omega)]
            obtain ⟨q, hq⟩ : ∃ q, mostS r most - out.length = q + 1 := ⟨mostS r most - out.length - 1, by omega⟩
            rw [hq, List.take_succ_cons, List.append_assoc]
            have : mostS r most - (out ++ [n]).length = q := by simp; omega
            rw [this]; rfl

theorem each_list (r : Ru) (s : Int) (most : Nat) : eachS (yL most) r s [] = listS r s most := by
  have := run_list r s (lastS r s) most (preS r s bigN) [] (preS_inc r s bigN) (by simp)
  simpa [eachS, listS, allS] using this

/-- Next's function. -/
def yN (after : Int) (f : Int) (n : Int) : Int × Bool := ((if after < n then n else f), decide ((if after < n then n else f) = 0))
/-- The first one behind a day, or 0. -/
def nextOf (after : Int) (l : List Int) : Int := (l.find? fun n => decide (after < n)).getD 0

theorem run_next (r : Ru) (s last after : Int) (hs : 1 ≤ s) : ∀ (l : List Int) (g : Nat), l.Pairwise (· < ·) → (0 < r.count → (g : Int) ≤ r.count) →
    (runG (yN after) s last r.count l ((g : Int), 0)).2.2 = nextOf after (if 0 < r.count then (l.filter fun n => decide (s ≤ n ∧ n ≤ last)).take (r.count.toNat - g) else (l.filter fun n => decide (s ≤ n ∧ n ≤ last)))
  | [], g, _, _ => by simp [runG, nextOf]
  | n :: l, g, hl, hg => by
    obtain ⟨h1, h2⟩ := inc_tail hl
    unfold runG
    by_cases c1 : n < s
    · rw [if_pos c1, run_next r s last after hs l g h2 hg, List.filter_cons_of_neg (by simp; omega)]
    · rw [if_neg c1]
      by_cases c2 : last < n
      · rw [if_pos (.inl c2)]
        have : (n :: l).filter (fun n => decide (s ≤ n ∧ n ≤ last)) = [] := by
          rw [List.filter_eq_nil_iff]
          intro m hm
          rcases List.mem_cons.mp hm with rfl | hm
          · simp; omega
          · have := h1 m hm; simp; omega
        rw [this]; simp [nextOf]
      · by_cases c3 : 0 < r.count ∧ (g : Int) = r.count
        · rw [if_pos (.inr c3), if_pos c3.1]
          have : r.count.toNat - g = 0 := by omega
          rw [this]; simp [nextOf]
        · rw [if_neg (fun q => q.elim c2 c3), List.filter_cons_of_pos (by simp; omega)]
          unfold yN
          simp only
          have ih := run_next r s last after hs l (g + 1) h2 (fun hc => by have := hg hc; have : ¬ (g : Int) = r.count := fun e => c3 ⟨hc, e⟩; omega)
          by_cases c4 : after < n
          · rw [if_pos c4, if_neg (by simp; omega)]
            unfold nextOf
            by_cases c5 : 0 < r.count
            · rw [if_pos c5]
              have := hg c5
              have : ¬ (g : Int) = r.count := fun e => c3 ⟨c5, e⟩
              obtain ⟨q, hq⟩ : ∃ q, r.count.toNat - g = q + 1 := ⟨r.count.toNat - g - 1, by omega⟩
              rw [hq, List.take_succ_cons, List.find?_cons_of_pos (by simpa using c4)]; rfl
            · rw [if_neg c5, List.find?_cons_of_pos (by simpa using c4)]; rfl
          · rw [if_neg c4, if_pos (by simp)]
            unfold nextOf at ih ⊢
            rw [show (g : Int) + 1 = ((g + 1 : Nat) : Int) from by omega]
            refine ih.trans ?_
            by_cases c5 : 0 < r.count
            · rw [if_pos c5, if_pos c5]
              have := hg c5
              have : ¬ (g : Int) = r.count := fun e => c3 ⟨c5, e⟩
              obtain ⟨q, hq⟩ : ∃ q, r.count.toNat - g = q + 1 := ⟨r.count.toNat - g - 1, by omega⟩
              rw [hq, List.take_succ_cons, List.find?_cons_of_neg (by simpa using c4)]
              rw [show r.count.toNat - (g + 1) = q from by omega]
            · rw [if_neg c5, if_neg c5, List.find?_cons_of_neg (by simpa using c4)]

theorem inc_len {a b : Int} : ∀ {l : List Int}, l.Pairwise (· < ·) → (∀ n ∈ l, a ≤ n ∧ n ≤ b) → (l.length : Int) ≤ max 0 (b - a + 1)
  | [], _, _ => by simp; omega
  | n :: l, hl, h => by
    obtain ⟨h1, h2⟩ := inc_tail hl
    have h3 := h n (List.mem_cons_self ..)
    have := inc_len (a := n + 1) (b := b) h2 (fun m hm => by have := h1 m hm; have := h m (List.mem_cons_of_mem _ hm); omega)
    simp only [List.length_cons]
    omega
theorem allS_len (r : Ru) (s : Int) : (allS r s).length ≤ 20001 := by
  have := inc_len (a := s) (b := lastS r s) (allS_inc r s) (fun n hn => by simpa using (List.mem_filter.mp hn).2)
  have := (lastS_le r s).2
  omega
/-- All days of a rule. -/
noncomputable def daysS (r : Ru) (s : Int) : List Int := if 0 < r.count then (allS r s).take r.count.toNat else allS r s
theorem list_all (r : Ru) (s : Int) : listS r s 20001 = daysS r s := by
  have h := allS_len r s
  unfold listS daysS mostS
  split
  · rw [List.take_eq_take_iff]; omega
  · exact List.take_of_length_le h
theorem each_next (r : Ru) (s after : Int) (hs : 1 ≤ s) : eachS (yN after) r s 0 = nextOf after (daysS r s) := by
  have := run_next r s (lastS r s) after hs (preS r s bigN) 0 (preS_inc r s bigN) (fun h => by omega)
  simpa [eachS, daysS, allS] using this

theorem list_take (r : Ru) (s : Int) (most : Nat) : listS r s most = (daysS r s).take most := by
  unfold listS daysS mostS
  split
  · rw [List.take_take]
  · rfl
theorem days_inc (r : Ru) (s : Int) : (daysS r s).Pairwise (· < ·) := by
  unfold daysS
  split
  · exact (allS_inc r s).sublist (List.take_sublist _ _)
  · exact allS_inc r s

/-- The reference: the days of the first periods, with a count. -/
def refS (r : Ru) (s : Int) (most : Nat) (k : Nat) : List Int := ((preS r s k).filter fun n => decide (s ≤ n ∧ n ≤ lastS r s)).take (mostS r most)
theorem filter_late {r : Ru} {s : Int} {k j : Nat} (h : lastS r s < pf r.unit s k) : (sufS r s k j).filter (fun n => decide (s ≤ n ∧ n ≤ lastS r s)) = [] := by
  rw [List.filter_eq_nil_iff]
  intro n hn
  have := mem_sufS hn
  simp; omega
theorem ref_end {r : Ru} {s : Int} {most k : Nat} (hs : 1 ≤ s) (h : lastS r s < pf r.unit s k ∨ mostS r most ≤ (refS r s most k).length) (hk : k ≤ bigN ∨ lastS r s < pf r.unit s k) : refS r s most k = listS r s most := by
  rcases Nat.le_total k bigN with h1 | h1
  · obtain ⟨j, hj⟩ : ∃ j, bigN = k + j := ⟨bigN - k, by omega⟩
    unfold refS at h ⊢
    unfold listS allS
    rw [hj, preS_split, List.filter_append]
    rcases h with h | h
    · rw [filter_late h, List.append_nil]
    · rw [List.take_append_of_le_length]
      simp only [List.length_take] at h
      omega
  · obtain ⟨j, hj⟩ : ∃ j, k = bigN + j := ⟨k - bigN, by omega⟩
    have hb : lastS r s < pf r.unit s bigN := by
      have h2 := pf_grow (u := r.unit) hs bigN
      have h3 := (lastS_le r s).1
      have h4 := bigN_eq
      unfold maxD at *
      omega
    unfold refS listS allS
    rw [hj, preS_split, List.filter_append, filter_late hb, List.append_nil]

theorem gS_off {r : Ru} {s : Int} {k : Nat} (h : ¬ (k : Int) % r.step = 0) : gS r s k = [] := if_neg h
theorem preS_step {r : Ru} {s : Int} {k : Nat} (h1 : 1 ≤ r.step) (h : (k : Int) % r.step = 0) : ∀ j : Nat, ((j + 1 : Nat) : Int) ≤ r.step → preS r s (k + (j + 1)) = preS r s k ++ gS r s k
  | 0, _ => rfl
  | j + 1, hj => by
    have ih := preS_step (s := s) h1 h j (by omega)
    rw [← Nat.add_assoc, preS, ih, gS_off (k := k + (j + 1)), List.append_nil]
    intro e
    have e1 : ((k + (j + 1) : Nat) : Int) % r.step = ((j + 1 : Nat) : Int) % r.step := by
      rw [show ((k + (j + 1) : Nat) : Int) = (k : Int) + ((j + 1 : Nat) : Int) from by omega, Int.add_emod, h, Int.zero_add, Int.emod_emod]
    rw [e1, Int.emod_eq_of_lt (by omega) (by omega)] at e
    omega

end Go.Vm
