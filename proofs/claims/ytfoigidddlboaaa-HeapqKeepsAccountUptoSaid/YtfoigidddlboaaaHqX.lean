/- Mixed, first. -/
import Derived.Test.YtfoigidddlboaaaHqMP
namespace Go.Vm
open Proofs
set_option maxRecDepth 10000
set_option maxHeartbeats 1000000
set_option linter.unusedSimpArgs false

theorem first_V' (a b : Int × Int) (h : List Blk) : CallP Try.prog 16 [.d (encF a), .d (encF b)] h (.d (.bool (decide (a.1 < b.1)))) := by
  refine callW tb_ok fn16 (by simp) (fun hok => ?_)
  simp [c16]
  exact rshift_d hok


/-- The first list whose first number is the least one. -/
def pickF : Nat → Int → Int → List (List (Int × Int)) → Int
  | _, k, _, [] => k
  | i, k, v, [] :: r => pickF (i + 1) k v r
  | i, k, v, (x :: _) :: r => if k < 0 ∨ x.1 < v then pickF (i + 1) i x.1 r else pickF (i + 1) k v r

def mixF : Nat → List (List (Int × Int)) → List (Int × Int)
  | 0, _ => []
  | n + 1, ls => if pickF 0 (-1) 0 ls < 0 then [] else
      let k := (pickF 0 (-1) 0 ls).toNat
      (ls.getD k []).headD default :: mixF n (ls.set k ((ls.getD k []).drop 1))

theorem pickF_none : ∀ (rest : List (List (Int × Int))) (i : Nat) (k v : Int), pickF i k v rest < 0 → k < 0 ∧ ∀ l ∈ rest, l = []
  | [], i, k, v, h => ⟨by simpa [pickF] using h, by simp⟩
  | [] :: rest, i, k, v, h => by
    have := pickF_none rest _ _ _ (by simpa only [pickF] using h)
    exact ⟨this.1, by simpa using this.2⟩
  | (x :: l) :: rest, i, k, v, h => by
    simp only [pickF] at h
    split at h
    · have := (pickF_none rest _ _ _ h).1; omega
    · have := (pickF_none rest _ _ _ h).1; omega

theorem pickF_at : ∀ (rest pre : List (List (Int × Int))) (k v : Int), (0 ≤ k → ∃ l, (pre ++ rest)[k.toNat]? = some l ∧ l ≠ []) → 0 ≤ pickF pre.length k v rest →
    ∃ l, (pre ++ rest)[(pickF pre.length k v rest).toNat]? = some l ∧ l ≠ []
  | [], pre, k, v, hf, h => by simp only [pickF] at h ⊢; exact hf h
  | [] :: rest, pre, k, v, hf, h => by
    have happ : pre ++ [] :: rest = (pre ++ [[]]) ++ rest := by simp
    have hlen : pre.length + 1 = (pre ++ [([] : List (Int × Int))]).length := by simp
    simp only [pickF] at h ⊢
    rw [happ] at hf ⊢
    rw [hlen] at h ⊢
    exact pickF_at rest _ _ _ hf h
  | (x :: l) :: rest, pre, k, v, hf, h => by
    have happ : pre ++ (x :: l) :: rest = (pre ++ [x :: l]) ++ rest := by simp
    have hlen : pre.length + 1 = (pre ++ [x :: l]).length := by simp
    simp only [pickF] at h ⊢
    rw [happ] at hf ⊢
    rw [hlen] at h ⊢
    split
    · rename_i hc
      rw [if_pos hc] at h
      exact pickF_at rest _ _ _ (fun _ => ⟨x :: l, by simp, by simp⟩) h
    · rename_i hc
      rw [if_neg hc] at h
      exact pickF_at rest _ _ _ hf h

theorem mixF_none (n : Nat) {ls : List (List (Int × Int))} (h : pickF 0 (-1) 0 ls < 0) : mixF n ls = [] := by
  cases n with
  | zero => rfl
  | succ n => rw [mixF, if_pos h]

theorem mixF_some {ls : List (List (Int × Int))} {x : Int × Int} {r : List (Int × Int)} {k : Nat} (h : pickF 0 (-1) 0 ls = (k : Int)) (hk : ls[k]? = some (x :: r)) :
    mixF (total ls) ls = x :: mixF (total (ls.set k r)) (ls.set k r) := by
  have ht := total_set hk
  rw [← ht, mixF, if_neg (by omega)]
  simp [h, hk]

/-- What is left of the lists. -/
def restL (ls : List (List (Int × Int))) (at' : List Nat) : List (List (Int × Int)) := List.zipWith (fun l a => l.drop a) ls at'

theorem restL_get {ls : List (List (Int × Int))} {at' : List Nat} {i a : Nat} {l : List (Int × Int)} (h1 : ls[i]? = some l) (h2 : at'[i]? = some a) : (restL ls at')[i]? = some (l.drop a) := by
  simp [restL, List.getElem?_zipWith, h1, h2]

theorem restL_set {ls : List (List (Int × Int))} {at' : List Nat} {k a : Nat} {l : List (Int × Int)} (h1 : ls[k]? = some l) (h2 : at'[k]? = some a) : restL ls (at'.set k (a + 1)) = (restL ls at').set k (l.drop (a + 1)) := by
  apply List.ext_getElem?
  intro j
  by_cases hj : j = k
  · subst hj
    have := (List.getElem?_eq_some_iff.mp h2).1
    have := (List.getElem?_eq_some_iff.mp h1).1
    rw [restL_get h1 (a := a + 1) (by rw [List.getElem?_set_self (by omega)]), List.getElem?_set_self (by simp [restL]; omega)]
  · rw [List.getElem?_set_ne (Ne.symm hj)]
    simp only [restL, List.getElem?_zipWith, List.getElem?_set_ne (Ne.symm hj)]

theorem total_ge {α : Type} : ∀ {ls : List (List α)} {k : Nat} {l : List α}, ls[k]? = some l → l.length ≤ total ls
  | [], k, l, h => by simp at h
  | x :: ls, 0, l, h => by simp at h; subst h; simp [total]
  | x :: ls, k + 1, l, h => by have := total_ge (ls := ls) (k := k) (l := l) (by simpa using h); simp [total]; omega

theorem drop_head {α : Type} {l : List α} {a : Nat} {x : α} {r : List α} (h : l.drop a = x :: r) : l[a]? = some x ∧ a < l.length ∧ l.drop (a + 1) = r := by
  have h1 : (l.drop a)[0]? = some x := by rw [h]; rfl
  rw [List.getElem?_drop, Nat.add_zero] at h1
  refine ⟨h1, (List.getElem?_eq_some_iff.mp h1).1, ?_⟩
  rw [show a + 1 = a + 1 from rfl, ← List.drop_drop, h]
  rfl

theorem mixed_V (lists : List (List (Int × Int))) (hl : lists.length < 10000000) (ht : total lists < 2000000000000) (h : List Blk) :
    CallP Try.prog 17 [.d (.sl 33 (lists.map encLF))] h (.d (encLF (mixF (total lists) lists))) := by
  refine callW tb_ok fn17 (by simp) (fun hok => ?_)
  have hfit : (8 : Int) * lists.length ≤ 281474976710656 := by omega
  have hfit2 : (lists.length : Int) ≤ 9223372036854775807 := by omega
  simp [c17, hfit, hfit2]
  refine W_loopA (ι := List Nat × List (Int × Int)) (fun p => p.2 ++ mixF (total (restL lists p.1)) (restL lists p.1) = mixF (total lists) lists ∧ p.1.length = lists.length ∧ total (restL lists p.1) + p.2.length = total lists ∧
      ∀ (i a : Nat) l, p.1[i]? = some a → lists[i]? = some l → a ≤ l.length)
    (fun p => ⟨[(0, .d (.sl 33 (lists.map encLF))), (3, .ref h.length 3 0 lists.length), (4, .bl (h.length + 1) 35 (p.2.map encF))], h ++ [.cells 3 (p.1.map fun (a : Nat) => .d (.int .i64 a)), .tail 35 p.2.length]⟩) (fun p => total (restL lists p.1))
    (List.replicate lists.length 0, []) ?_ ?_ ?_
  · have : restL lists (List.replicate lists.length 0) = lists := by
      apply List.ext_getElem?
      intro j
      by_cases hj : j < lists.length
      · rw [restL_get (List.getElem?_eq_getElem hj) (a := 0) (by simp [hj])]; simp
      · rw [List.getElem?_eq_none (by simp [restL]; omega), List.getElem?_eq_none (by omega)]
    refine ⟨by rw [this]; rfl, by simp, by rw [this]; rfl, ?_⟩
    intro i a l h1 h2
    have := List.eq_of_mem_replicate (List.mem_of_getElem? h1)
    omega
  · exact (Shift.nilbl (i := 4) 35 (by simp)).trans (Shift.slots' (by simp) (by simp))
  rintro ⟨at', acc⟩ ⟨hR, hlen, hacc, hle⟩ A hA
  simp only at hR hlen hacc hle
  simp
  refine W_loopA (ι := Nat × Int × Int) (fun p => p.1 ≤ lists.length ∧ pickF p.1 p.2.1 p.2.2 ((restL lists at').drop p.1) = pickF 0 (-1) 0 (restL lists at') ∧
      (p.2.1 < 0 ∨ ∃ k : Nat, p.2.1 = (k : Int) ∧ ∃ a l x r, at'[k]? = some a ∧ lists[k]? = some l ∧ l.drop a = x :: r ∧ x.1 = p.2.2))
    (fun p => ⟨[(0, .d (.sl 33 (lists.map encLF))), (3, .ref h.length 3 0 lists.length), (4, .bl (h.length + 1) 35 (acc.map encF)), (5, .d (.int .i64 p.2.1)), (6, .d (.int .i64 p.1))],
      h ++ [.cells 3 (at'.map fun (a : Nat) => .d (.int .i64 a)), .tail 35 acc.length]⟩) (fun p => lists.length - p.1) (0, -1, 0) ⟨by omega, by simp, .inl (by simp)⟩ (Shift.slots' rfl (by simp)) ?_
  rintro ⟨i, k, v⟩ ⟨hi, hp, hk⟩ B hB
  simp only at hi hp hk
  by_cases hil : i < lists.length
  · have hil' : i < at'.length := by omega
    obtain ⟨l, hgl⟩ : ∃ l, lists[i]? = some l := ⟨_, List.getElem?_eq_getElem hil⟩
    obtain ⟨a, hga⟩ : ∃ a, at'[i]? = some a := ⟨_, List.getElem?_eq_getElem hil'⟩
    have hgl' := (List.getElem?_eq_some_iff.mp hgl).2
    have hga' := (List.getElem?_eq_some_iff.mp hga).2
    have hal := hle i a l hga hgl
    have hrl : i < (restL lists at').length := by simp [restL]; omega
    have hdr : (restL lists at').drop i = l.drop a :: (restL lists at').drop (i + 1) := by
      rw [List.drop_eq_getElem_cons hrl]
      congr 1
      exact (List.getElem?_eq_some_iff.mp (restL_get hgl hga)).2
    rw [hdr] at hp
    cases hd : l.drop a with
    | nil =>
      have hae : a = l.length := by have := congrArg List.length hd; simp at this; omega
      rw [hd, pickF] at hp
      simp (disch := first | omega | (simp; done) | (simp; omega)) [ltT, ltF, leT, leF, eqT', eqF, ltTn, leTn, ltFn, leFn, wrapI, mid, hgl, hga, hgl', hga', encLF]
      exact hB (i + 1, k, v) _ ⟨by omega, hp, hk⟩ (by simp; omega) (Shift.slots' rfl (by simp))
    | cons x r =>
      obtain ⟨hx, hax, _⟩ := drop_head hd
      have hx' := (List.getElem?_eq_some_iff.mp hx).2
      rw [hd, pickF] at hp
      rcases hk with hk | ⟨k', rfl, a2, l2, x2, r2, h1, h2, h3, h4⟩
      · rw [if_pos (.inl hk)] at hp
        simp (disch := first | omega | (simp; done) | (simp; omega)) [ltT, ltF, leT, leF, eqT', eqF, ltTn, leTn, ltFn, leFn, wrapI, mid, hgl, hga, hgl', hga', encLF]
        exact hB (i + 1, i, x.1) _ ⟨by omega, hp, .inr ⟨i, rfl, a, l, x, r, hga, hgl, hd, rfl⟩⟩ (by simp; omega) (Shift.slots' rfl (by simp))
      · obtain ⟨hy, hay, _⟩ := drop_head h3
        have hy' := (List.getElem?_eq_some_iff.mp hy).2
        have hk1 := (List.getElem?_eq_some_iff.mp h1).1
        have hk2 := (List.getElem?_eq_some_iff.mp h2).1
        have h1' := (List.getElem?_eq_some_iff.mp h1).2
        have h2' := (List.getElem?_eq_some_iff.mp h2).2
        by_cases hv : x.1 < v
        · rw [if_pos (.inr hv)] at hp
          simp (disch := first | omega | (simp; done) | (simp; omega)) [ltT, ltF, leT, leF, eqT', eqF, ltTn, leTn, ltFn, leFn, wrapI, mid, hgl, hga, hgl', hga', h1, h2, h1', h2', hx, hy, hx', hy', h4, encLF]
          exact hB (i + 1, i, x.1) _ ⟨by omega, hp, .inr ⟨i, rfl, a, l, x, r, hga, hgl, hd, rfl⟩⟩ (by simp; omega) (Shift.slots' rfl (by simp))
        · rw [if_neg (by omega)] at hp
          simp (disch := first | omega | (simp; done) | (simp; omega)) [ltT, ltF, leT, leF, eqT', eqF, ltTn, leTn, ltFn, leFn, wrapI, mid, hgl, hga, hgl', hga', h1, h2, h1', h2', hx, hy, hx', hy', h4, encLF]
          exact hB (i + 1, k', v) _ ⟨by omega, hp, .inr ⟨k', rfl, a2, l2, x2, r2, h1, h2, h3, h4⟩⟩ (by simp; omega) (Shift.slots' rfl (by simp))
  · have hie : i = lists.length := by omega
    rw [List.drop_eq_nil_of_le (by simp [restL]; omega), pickF] at hp
    rcases hk with hk | ⟨k', rfl, a, l, x, r, h1, h2, h3, h4⟩
    · rw [mixF_none _ (by omega), List.append_nil] at hR
      simp (disch := first | omega | (simp; done) | (simp; omega)) [ltT, ltF, leT, leF, eqT', eqF, ltTn, leTn, ltFn, leFn, wrapI, mid, ← hR, encLF]
      exact rshift_subs (.bl _ _ _) (.d _) hok
    · obtain ⟨hy, hay, hdr⟩ := drop_head h3
      have hy' := (List.getElem?_eq_some_iff.mp hy).2
      have hk1 := (List.getElem?_eq_some_iff.mp h1).1
      have hk2 := (List.getElem?_eq_some_iff.mp h2).1
      have h1' := (List.getElem?_eq_some_iff.mp h1).2
      have h2' := (List.getElem?_eq_some_iff.mp h2).2
      have hrk := restL_get h2 h1
      rw [h3] at hrk
      have hts := total_set hrk
      have hge := total_ge h2
      have hset := restL_set h2 h1
      rw [hdr] at hset
      rw [mixF_some hp.symm hrk, ← hset] at hR
      rw [← hset] at hts
      simp (disch := first | omega | (simp; done) | (simp; omega)) [ltT, ltF, leT, leF, eqT', eqF, ltTn, leTn, ltFn, leFn, wrapI, mid, h1, h2, h1', h2', hy, hy', encLF]
      refine hA (at'.set k' (a + 1), acc ++ [x]) _ ⟨?_, by simpa using hlen, by simp; omega, ?_⟩ (by simp; omega) (Shift.slots' ?_ (by simp))
      · rw [← hR]; simp
      · intro j a3 l3 h5 h6
        by_cases hj : j = k'
        · subst hj
          rw [List.getElem?_set_self hk1] at h5
          rw [h2] at h6
          cases h5; cases h6
          omega
        · rw [List.getElem?_set_ne (Ne.symm hj)] at h5
          exact hle j a3 l3 h5 h6
      · simp [List.map_set]

end Go.Vm
