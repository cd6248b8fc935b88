/- csv: selecting columns of selected columns is selecting them at once. -/
import Derived.Test.YtggeifnbllfmbaaDoorCs12
namespace Go.Vm
open Proofs
set_option maxRecDepth 20000
set_option maxHeartbeats 1000000
set_option linter.unusedSimpArgs false

theorem posS_get {l : List (List UInt8)} {s : List UInt8} : ∀ {n : Nat}, 0 ≤ idxFrom (fun x => decide (x = s)) n l → ∃ k : Nat, idxFrom (fun x => decide (x = s)) n l = n + k ∧ l[k]? = some s := by
  induction l with
  | nil => intro n h; simp [idxFrom] at h
  | cons x l ih =>
    intro n h
    rw [idxFrom] at h ⊢
    by_cases hx : x = s
    · rw [if_pos (by simpa using hx)]
      exact ⟨0, by simp, by simp [hx]⟩
    · rw [if_neg (by simpa using hx)] at h ⊢
      obtain ⟨k, h1, h2⟩ := ih h
      exact ⟨k + 1, by rw [h1]; omega, by simpa using h2⟩
theorem posS_mem {l : List (List UInt8)} {s : List UInt8} : 0 ≤ posS l s ↔ s ∈ l := by
  constructor
  · intro h
    obtain ⟨k, _, h2⟩ := posS_get h
    exact List.mem_of_getElem? h2
  · intro h
    unfold posS
    by_cases h0 : 0 ≤ idxFrom (fun x => decide (x = s)) 0 l
    · exact h0
    · exact absurd (decide_eq_true rfl) (idxFrom_neg.mp h0 s h)
theorem pick_pos {l : List (List UInt8)} {s : List UInt8} (h : 0 ≤ posS l s) (f : List UInt8 → List UInt8) : pick (l.map f) (posS l s) = f s := by
  obtain ⟨k, h1, h2⟩ := posS_get h
  have hk : posS l s = k := by unfold posS; rw [h1]; simp
  have hlt : k < l.length := (List.getElem?_eq_some_iff.mp h2).1
  rw [hk, pick, if_pos (by simp; omega)]
  simp [h2]
theorem repFrom_neg : ∀ (l pre : List (List UInt8)), (∀ (p : List (List UInt8)) x r, l = p ++ x :: r → x ∉ pre ++ p) → repFrom pre l = -1
  | [], _, _ => rfl
  | x :: l, pre, h => by
    rw [repFrom, if_neg, repFrom_neg l (pre ++ [x])]
    · intro p y r e
      have := h (x :: p) y r (by rw [e]; rfl)
      simpa using this
    · rw [posS_mem]
      have := h [] x l rfl
      simpa using this

/-- What selecting gives where it finds no fault. -/
structure SelOk (head : List (List UInt8)) (more : List (List (List UInt8))) (names : List (List UInt8)) : Prop where
  tab : ¬ (tabFault (head :: more) (-1)).1 ≠ 0
  rep : ¬ 0 ≤ repFrom [] head
  ne : names ≠ []
  mem : ∀ s ∈ names, s ∈ head
  size : names.length * (more.length + 1) ≤ 1000
theorem sel_ok {rows : List (List (List UInt8))} {names : List (List UInt8)} (h : ¬ (selectS rows names).2.1 ≠ 0) : ∃ head more, rows = head :: more ∧ SelOk head more names ∧ selectS rows names = (rows.map fun r => names.map fun s => pick r (posS head s), (0, 0)) := by
  rw [selectS.eq_def] at h ⊢
  by_cases h1 : (tabFault rows (-1)).1 ≠ 0
  · rw [if_pos h1] at h; exact absurd h1 h
  rw [if_neg h1] at h ⊢
  cases rows with
  | nil => simp at h
  | cons head more =>
    simp only at h ⊢
    by_cases h2 : 0 ≤ repFrom [] head
    · rw [if_pos h2] at h; simp at h
    rw [if_neg h2] at h ⊢
    by_cases h3 : names = []
    · rw [if_pos h3] at h; simp at h
    rw [if_neg h3] at h ⊢
    by_cases h4 : 0 ≤ missFrom head names
    · rw [if_pos h4] at h; simp at h
    rw [if_neg h4] at h ⊢
    by_cases h5 : 1000 < names.length * (more.length + 1)
    · rw [if_pos h5] at h; simp at h
    rw [if_neg h5]
    exact ⟨head, more, rfl, ⟨h1, h2, h3, fun s hs => posS_mem.mp (posS_nonneg h4 hs), by omega⟩, rfl⟩
theorem miss_neg {head names : List (List UInt8)} (h : ∀ s ∈ names, s ∈ head) : ¬ 0 ≤ missFrom head names := by
  unfold missFrom
  rw [idxFrom_neg]
  intro s hs
  have := posS_mem.mpr (h s hs)
  simp; omega
theorem sel_of {head : List (List UInt8)} {more : List (List (List UInt8))} {names : List (List UInt8)} (t : ¬ (tabFault (head :: more) (-1)).1 ≠ 0) (r : ¬ 0 ≤ repFrom [] head) (m : ∀ s ∈ names, s ∈ head) :
    selectS (head :: more) names = if names = [] then ([], (10, -2)) else if 1000 < names.length * (more.length + 1) then ([], (14, -3)) else ((head :: more).map fun r => names.map fun s => pick r (posS head s), (0, 0)) := by
  rw [selectS.eq_def, if_neg t]
  simp only
  rw [if_neg r, if_neg (miss_neg m)]
theorem total_map {f : List (List UInt8) → List (List UInt8)} {n : Nat} : ∀ {rows : List (List (List UInt8))}, (∀ r, (f r).length = n) → total (rows.map f) = n * rows.length
  | [], _ => by simp [total]
  | r :: rows, h => by
    have := total_map (rows := rows) h
    simp only [List.map_cons, total, this, h r, List.length_cons, Nat.mul_add]
    omega

theorem selects_twice {rows : List (List (List UInt8))} {names fewer : List (List UInt8)} (h : ¬ (selectS rows names).2.1 ≠ 0) (hd : ∀ (p : List (List UInt8)) x r, names = p ++ x :: r → x ∉ p) (hf : ∀ s ∈ fewer, s ∈ names) :
    selectS (selectS rows names).1 fewer = selectS rows fewer := by
  obtain ⟨head, more, rfl, ok, e⟩ := sel_ok h
  rw [e]
  obtain ⟨_, hl, ht⟩ := tabFault_ok ok.tab
  obtain ⟨f, hfd⟩ : ∃ f : List (List UInt8) → List (List UInt8), f = fun r => names.map fun s => pick r (posS head s) := ⟨_, rfl⟩
  have hlen : ∀ r, (f r).length = names.length := fun r => by rw [hfd]; simp
  have hhead : f head = names := by
    rw [hfd]
    simp only
    conv => rhs; rw [← List.map_id names]
    apply List.map_congr_left
    intro s hs
    have := pick_pos (posS_mem.mpr (ok.mem s hs)) id
    simpa using this
  have hnl : 0 < names.length := List.length_pos_iff.mpr ok.ne
  have hmap : (head :: more).map f = names :: more.map f := by rw [List.map_cons, hhead]
  have htab : ¬ (tabFault (names :: more.map f) (-1)).1 ≠ 0 := by
    have h1 : total (names :: more.map f) = names.length * (more.length + 1) := by rw [← hmap, total_map hlen]; simp
    unfold tabFault
    have hs := ok.size
    rw [if_neg (by rw [h1]; simp only [List.length_cons, List.length_map] at hl ⊢; omega), if_neg]
    · simp
    · rw [idxFrom_neg]
      intro r hr
      have : r.length = names.length := by
        rcases List.mem_cons.mp hr with rfl | hr
        · rfl
        · obtain ⟨r', _, rfl⟩ := List.mem_map.mp hr
          exact hlen r'
      have hne : r ≠ [] := fun e => by rw [e] at this; simp at this; omega
      simpa using hne
  have hrep : ¬ 0 ≤ repFrom [] names := by
    rw [repFrom_neg names [] (fun p x r e => by simpa using hd p x r e)]
    omega
  simp only
  rw [← hfd, hmap, sel_of htab hrep hf, sel_of ok.tab ok.rep (fun s hs => ok.mem s (hf s hs))]
  simp only [List.length_map]
  split
  · rfl
  · split
    · rfl
    · rw [← hmap, List.map_map]
      congr 1
      apply List.map_congr_left
      intro r _
      apply List.map_congr_left
      intro s hs
      simp only [Function.comp_apply, hfd]
      exact pick_pos (posS_mem.mpr (hf s hs)) (fun s => pick r (posS head s))

theorem sel_bad {rows : List (List (List UInt8))} {names : List (List UInt8)} (h : (selectS rows names).2.1 ≠ 0) : (selectS rows names).1 = [] := by
  rw [selectS.eq_def] at h ⊢
  by_cases h1 : (tabFault rows (-1)).1 ≠ 0
  · rw [if_pos h1]
  rw [if_neg h1] at h ⊢
  cases rows with
  | nil => rfl
  | cons head more =>
    simp only at h ⊢
    by_cases h2 : 0 ≤ repFrom [] head
    · rw [if_pos h2]
    rw [if_neg h2] at h ⊢
    by_cases h3 : names = []
    · rw [if_pos h3]
    rw [if_neg h3] at h ⊢
    by_cases h4 : 0 ≤ missFrom head names
    · rw [if_pos h4]
    rw [if_neg h4] at h ⊢
    by_cases h5 : 1000 < names.length * (more.length + 1)
    · rw [if_pos h5]
    rw [if_neg h5] at h
    exact absurd rfl h
theorem sel_len (rows : List (List (List UInt8))) (names : List (List UInt8)) : (selectS rows names).1.length ≤ rows.length ∧ ∀ r ∈ (selectS rows names).1, r.length = names.length := by
  by_cases h : (selectS rows names).2.1 ≠ 0
  · rw [sel_bad h]; simp
  · obtain ⟨head, more, _, _, e⟩ := sel_ok h
    rw [e]
    refine ⟨by simp, fun r hr => ?_⟩
    obtain ⟨r', _, rfl⟩ := List.mem_map.mp hr
    simp
theorem total_same {n : Nat} : ∀ {rows : List (List (List UInt8))}, (∀ r ∈ rows, r.length = n) → total rows = n * rows.length
  | [], _ => by simp [total]
  | r :: rows, h => by
    have := total_same (rows := rows) (fun r hr => h r (by simp [hr]))
    simp only [total, this, h r (by simp), List.length_cons, Nat.mul_add]
    omega
theorem distinct_snoc {p : List (List UInt8)} {x : List UInt8} (h : ∀ (q : List (List UInt8)) y r, p = q ++ y :: r → y ∉ q) (hx : x ∉ p) : ∀ (q : List (List UInt8)) y r, p ++ [x] = q ++ y :: r → y ∉ q := by
  intro q y r e
  rcases List.eq_nil_or_concat r with rfl | ⟨r', z, rfl⟩
  · have e2 : p ++ [x] = q ++ [y] := e
    have h1 := List.append_inj' e2 rfl
    obtain ⟨rfl, h2⟩ := h1
    simp only [List.cons.injEq, and_true] at h2
    rw [← h2]; exact hx
  · have e2 : p ++ [x] = (q ++ y :: r') ++ [z] := by rw [e]; simp
    have h1 := List.append_inj' e2 rfl
    exact h q y r' h1.1

theorem law8 (rows : List (List (List UInt8))) (names fewer : List (List UInt8)) (hl : rows.length < 2000000) (ht : total rows < 2000000000000) (hn : names.length < 2000000) (hf : fewer.length < 2000000) (h : List Blk) :
    CallP Tryd.prog 8 [.d (.sl 39 (rows.map encR)), .d (encR names), .d (encR fewer)] h (.d (.bool true)) := by
  refine callW tb_ok fn8 (by simp) (fun hok => ?_)
  simp (disch := first | omega | (simp; done) | (simp; omega)) [ltT, ltF, leT, leF, eqT', eqF, ltTn, leTn, ltFn, leFn, wrapI, mid, c8]
  refine (select_V rows names hl ht hn _).useV ?_
  by_cases h1 : (selectS rows names).2.1 ≠ 0
  · rw [sel_bad h1]
    simp (disch := first | omega | (simp; done) | (simp; omega)) [ltT, ltF, leT, leF, eqT', eqF, ltTn, leTn, ltFn, leFn, wrapI, mid, h1]
    refine (tabled_V _).useV ?_
    simp (disch := first | omega | (simp; done) | (simp; omega)) [ltT, ltF, leT, leF, eqT', eqF, ltTn, leTn, ltFn, leFn, wrapI, mid]
    exact rshift_d hok
  obtain ⟨head, more, hrows, hsok, e⟩ := sel_ok h1
  obtain ⟨hsl, hsr⟩ := sel_len rows names
  have e2 : selectS rows names = ((selectS rows names).1, (0, 0)) := by rw [e]
  have htl : total (selectS rows names).1 ≤ 1000000000 := by
    rw [total_same hsr]
    have h2 := hsok.size
    have h3 : (selectS rows names).1.length ≤ more.length + 1 := by rw [hrows] at hsl ⊢; simpa using hsl
    have := Nat.mul_le_mul_left names.length h3
    omega
  obtain ⟨L, hL⟩ : ∃ L, L = (selectS rows names).1 := ⟨_, rfl⟩
  have hcode : (selectS rows names).2 = (0, 0) := by rw [e]
  rw [hcode, ← hL]
  simp (disch := first | omega | (simp; done) | (simp; omega)) [ltT, ltF, leT, leF, eqT', eqF, ltTn, leTn, ltFn, leFn, wrapI, mid]
  refine W_loopA (ι := List (List UInt8) × List (List UInt8)) (fun p => p.1 ++ p.2 = names ∧ ∀ (q : List (List UInt8)) y r, p.1 = q ++ y :: r → y ∉ q) (fun p => ⟨[(0, .d (.sl 39 (rows.map encR))), (1, .d (encR names)), (2, .d (encR fewer)), (7, .d (.sl 39 (L.map encR))), (9, .d (.int .i64 p.1.length))],
    h ++ [.cells 26 [.d (encF (0, 0))]]⟩) (fun p => p.2.length) ([], names) ⟨rfl, by simp⟩ (Shift.slots' rfl (by simp)) ?_
  rintro ⟨pn, rn⟩ ⟨hx, hd⟩ A hA
  simp only at hx hd
  cases rn with
  | cons x rn =>
    have hlen : names.length = pn.length + (rn.length + 1) := by rw [← hx]; simp
    have hcall := hasString_V names pn.length x
    rw [← hx] at hcall
    simp only [encR, encS, List.map_append, List.map_cons] at hcall
    rw [← hx]
    simp (disch := first | omega | (simp; done) | (simp; omega)) [ltT, ltF, leT, leF, eqT', eqF, ltTn, leTn, ltFn, leFn, wrapI, mid, encR, encS]
    refine (hcall _ (by rw [hx]; omega)).useV ?_
    rw [List.take_left]
    by_cases h2 : x ∈ pn
    · simp (disch := first | omega | (simp; done) | (simp; omega)) [ltT, ltF, leT, leF, eqT', eqF, ltTn, leTn, ltFn, leFn, wrapI, mid, h2]
      refine (tabled_V _).useV ?_
      simp (disch := first | omega | (simp; done) | (simp; omega)) [ltT, ltF, leT, leF, eqT', eqF, ltTn, leTn, ltFn, leFn, wrapI, mid]
      exact rshift_d hok
    · simp (disch := first | omega | (simp; done) | (simp; omega)) [ltT, ltF, leT, leF, eqT', eqF, ltTn, leTn, ltFn, leFn, wrapI, mid, h2]
      exact hA (pn ++ [x], rn) _ ⟨by simpa using hx, distinct_snoc hd h2⟩ (by simp) (Shift.slots' rfl (by simp [encR, encS, ← hx]))
  | nil =>
    simp only [List.append_nil] at hx
    subst hx
    simp (disch := first | omega | (simp; done) | (simp; omega)) [ltT, ltF, leT, leF, eqT', eqF, ltTn, leTn, ltFn, leFn, wrapI, mid, encR]
    refine W_loopA (ι := List (List UInt8) × List (List UInt8)) (fun p => p.1 ++ p.2 = fewer ∧ ∀ s ∈ p.1, s ∈ pn) (fun p => ⟨[(0, .d (.sl 39 (rows.map encR))), (1, .d (encR pn)), (2, .d (encR fewer)), (7, .d (.sl 39 (L.map encR))), (10, .d (.int .i64 p.1.length))],
      h ++ [.cells 26 [.d (encF (0, 0))]]⟩) (fun p => p.2.length) ([], fewer) ⟨rfl, by simp⟩ (Shift.slots' rfl (by simp [encR])) ?_
    rintro ⟨pf, rf⟩ ⟨hx, hs⟩ A2 hA2
    simp only at hx hs
    cases rf with
    | cons x rf =>
      have hlen : fewer.length = pf.length + (rf.length + 1) := by rw [← hx]; simp
      rw [← hx]
      simp (disch := first | omega | (simp; done) | (simp; omega)) [ltT, ltF, leT, leF, eqT', eqF, ltTn, leTn, ltFn, leFn, wrapI, mid, encR, encS]
      refine (hasString_V pn pn.length x _ (by omega)).useV ?_
      rw [List.take_length]
      by_cases h2 : x ∈ pn
      · simp (disch := first | omega | (simp; done) | (simp; omega)) [ltT, ltF, leT, leF, eqT', eqF, ltTn, leTn, ltFn, leFn, wrapI, mid, h2]
        refine hA2 (pf ++ [x], rf) _ ⟨by simpa using hx, fun s h3 => ?_⟩ (by simp) (Shift.slots' rfl (by simp [encR, encS, ← hx]))
        rcases List.mem_append.mp h3 with h3 | h3
        · exact hs s h3
        · rw [List.mem_singleton] at h3; rw [h3]; exact h2
      · simp (disch := first | omega | (simp; done) | (simp; omega)) [ltT, ltF, leT, leF, eqT', eqF, ltTn, leTn, ltFn, leFn, wrapI, mid, h2]
        refine (tabled_V _).useV ?_
        simp (disch := first | omega | (simp; done) | (simp; omega)) [ltT, ltF, leT, leF, eqT', eqF, ltTn, leTn, ltFn, leFn, wrapI, mid]
        exact rshift_d hok
    | nil =>
      simp only [List.append_nil] at hx
      subst hx
      have htw := selects_twice h1 hd hs
      rw [← hL] at htw
      obtain ⟨ml, mr⟩ := sel_len rows pf
      simp (disch := first | omega | (simp; done) | (simp; omega)) [ltT, ltF, leT, leF, eqT', eqF, ltTn, leTn, ltFn, leFn, wrapI, mid, encR]
      refine (select_V L pf (by rw [hL]; omega) (by rw [hL]; omega) hf _).useV ?_
      rw [htw]
      simp (disch := first | omega | (simp; done) | (simp; omega)) [ltT, ltF, leT, leF, eqT', eqF, ltTn, leTn, ltFn, leFn, wrapI, mid, encR]
      refine (select_V rows pf hl ht hf _).useV ?_
      simp (disch := first | omega | (simp; done) | (simp; omega)) [ltT, ltF, leT, leF, eqT', eqF, ltTn, leTn, ltFn, leFn, wrapI, mid]
      refine (sameTable_V (selectS rows pf).1 (selectS rows pf).1 _ (by omega) (by omega) (fun r hr => by rw [mr r hr]; omega) (fun r hr => by rw [mr r hr]; omega)).useV ?_
      simp (disch := first | omega | (simp; done) | (simp; omega)) [ltT, ltF, leT, leF, eqT', eqF, ltTn, leTn, ltFn, leFn, wrapI, mid]
      refine (tabled_V _).useV ?_
      simp (disch := first | omega | (simp; done) | (simp; omega)) [ltT, ltF, leT, leF, eqT', eqF, ltTn, leTn, ltFn, leFn, wrapI, mid]
      exact rshift_d hok

end Go.Vm
