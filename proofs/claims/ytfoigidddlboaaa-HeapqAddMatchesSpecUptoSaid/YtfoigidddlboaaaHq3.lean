/- down, up, settle, without. -/
import Derived.Test.YtfoigidddlboaaaHq2
namespace Go.Vm
open Proofs
set_option maxRecDepth 10000
set_option maxHeartbeats 1000000
set_option linter.unusedSimpArgs false

def swapE (l : List Ent) (i k : Nat) : List Ent := (l.set i (l.getD k default)).set k (l.getD i default)
def kidE (n : Nat) (l : List Ent) (i : Nat) : Nat := if 2 * i + 2 < n ∧ cmpE (l.getD (2 * i + 2) default) (l.getD (2 * i + 1) default) < 0 then 2 * i + 2 else 2 * i + 1
def downF (n : Nat) : Nat → List Ent → Nat → List Ent
  | 0, l, _ => l
  | f + 1, l, i => if n ≤ 2 * i + 1 then l else
      if 0 ≤ cmpE (l.getD (kidE n l i) default) (l.getD i default) then l else downF n f (swapE l i (kidE n l i)) (kidE n l i)

/-- The block of a queue. -/
def blkE (l : List Ent) : Blk := .cells 40 (l.map fun e => .d (encE e))

theorem set_same {h : List Blk} {b : Nat} {x : Blk} (hb : h[b]? = some x) : h.set b x = h := by
  apply List.ext_getElem?
  intro j
  rw [List.getElem?_set]
  split
  · rename_i e; subst e; rw [hb, if_pos (List.getElem?_eq_some_iff.mp hb).1]
  · rfl

theorem getD_of {l : List Ent} {i : Nat} {x : Ent} (h : l[i]? = some x) : l.getD i default = x := by rw [List.getD, h]; rfl

theorem length_swapE (l : List Ent) (i k : Nat) : (swapE l i k).length = l.length := by simp [swapE]

theorem down_V (n : Nat) (l : List Ent) (i b : Nat) (h : List Blk) (hb : h[b]? = some (blkE l)) (hnl : n ≤ l.length) (hn : n < 2000000) (hi : i < 2000000) :
    CallW Try.prog 35 [.ref b 40 0 n, .d (.int .i64 i)] h fun x h' => x = .tup [] ∧ h' = h.set b (blkE (downF n n l i)) := by
  refine callW tb_ok fn35 (by simp) (fun hok => ?_)
  have hbl := (List.getElem?_eq_some_iff.mp hb).1
  have hset : h.set b (blkE l) = h := set_same hb
  simp [c35]
  refine W_loop (ι := Nat × List Ent × Nat) (fun p => downF n p.1 p.2.1 p.2.2 = downF n n l i ∧ p.2.1.length = l.length ∧ n ≤ p.2.2 + p.1 ∧ p.2.2 < 2000000)
    (fun p => ⟨[(0, .ref b 40 0 n), (1, .d (.int .i64 p.2.2))], h.set b (blkE p.2.1)⟩) (fun p => n - p.2.2) (n, l, i) ⟨rfl, rfl, by simp, hi⟩ (Shift.slots' hset.symm (by simp [look])) ?_
  rintro ⟨f, l', i'⟩ ⟨hR, hlen, hf, hi'⟩
  simp only at hR hlen hf hi'
  obtain ⟨k, hk⟩ : ∃ k, k = 2 * i' + 1 := ⟨_, rfl⟩
  obtain ⟨j, hj⟩ : ∃ j, j = k + 1 := ⟨_, rfl⟩
  have hwk : IntKind.i64.wrap (IntKind.i64.wrap (2 * (i' : Int)) + 1) = (k : Int) := by
    rw [wrap_ok (n := 2 * (i' : Int)) (by omega) (by omega), wrap_ok (by omega) (by omega)]; omega
  have hwj : IntKind.i64.wrap ((k : Int) + 1) = (j : Int) := by rw [wrap_ok (by omega) (by omega)]; omega
  by_cases hend : n ≤ k
  · have hend' : (n : Int) ≤ k := by omega
    have hfin : downF n n l i = l' := by
      rw [← hR]
      cases f with
      | zero => rfl
      | succ f => simp only [downF]; rw [if_pos (by omega)]
    simp [hwk, hend, hend', hfin]
    exact rshift_same' rfl (by simp)
  · have hend' : ¬ (n : Int) ≤ k := by omega
    have hik : (i' : Int) < n := by omega
    have hi3 : i' < l'.length := by omega
    have hkl : (k : Int) < n := by omega
    have hk3 : k < l'.length := by omega
    obtain ⟨x, hx, hx'⟩ : ∃ x, l'[i']? = some x ∧ l'[i']'(by omega) = x := ⟨_, List.getElem?_eq_getElem (by omega), rfl⟩
    obtain ⟨y, hy, hy'⟩ : ∃ y, l'[k]? = some y ∧ l'[k]'(by omega) = y := ⟨_, List.getElem?_eq_getElem (by omega), rfl⟩
    simp [hwk, hend, hend', hwj]
    by_cases hjl : j < n
    · have hjl' : (j : Int) < n := by omega
      have hj3 : j < l'.length := by omega
      obtain ⟨z, hz, hz'⟩ : ∃ z, l'[j]? = some z ∧ l'[j]'(by omega) = z := ⟨_, List.getElem?_eq_getElem (by omega), rfl⟩
      simp [hjl, hjl', hwj, hbl, blkE, hz, hz', hy, hy', hkl, hj3, hk3]
      refine (compare_V z y _).useV ?_
      by_cases hcz : cmpE z y < 0
      · have hkid : kidE n l' i' = j := by simp only [kidE]; rw [show 2 * i' + 2 = j from by omega, show 2 * i' + 1 = k from by omega, if_pos ⟨by omega, by rw [getD_of hz, getD_of hy]; exact hcz⟩]
        simp [hcz, hwj, hbl, blkE, hz, hz', hx, hx', hjl', hik, hj3, hi3]
        refine (compare_V z x _).useV ?_
        by_cases hcc : 0 ≤ cmpE z x
        · have hfin : downF n n l i = l' := by
            rw [← hR]
            cases f with
            | zero => omega
            | succ f => simp only [downF]; rw [if_neg (by omega), if_pos (by rw [hkid, getD_of hz, getD_of hx]; exact hcc)]
          simp [hcc, hfin]
          exact rshift_same' rfl (by simp)
        · have hgo : ∃ f', f = f' + 1 ∧ downF n f' (swapE l' i' j) j = downF n n l i := by
            cases f with
            | zero => omega
            | succ f => exact ⟨f, rfl, by rw [← hR]; simp only [downF]; rw [if_neg (by omega), if_neg (by rw [hkid, getD_of hz, getD_of hx]; exact hcc), hkid]⟩
          obtain ⟨f', rfl, hgo⟩ := hgo
          simp [hcc, hbl, blkE, hz, hz', hx, hx', hik, hi3, hjl', hj3]
          refine ⟨f', swapE l' i' j, j, ⟨hgo, by rw [length_swapE]; exact hlen, by omega, by omega⟩, Shift.slots' ?_ (by simp), by omega⟩
          simp [swapE, blkE, List.map_set, hz, hz', hx, hx']
      · have hkid : kidE n l' i' = k := by simp only [kidE]; rw [show 2 * i' + 2 = j from by omega, show 2 * i' + 1 = k from by omega, if_neg (by rintro ⟨_, h⟩; rw [getD_of hz, getD_of hy] at h; exact hcz h)]
        simp [hcz, hwj, hbl, blkE, hy, hy', hx, hx', hkl, hik, hk3, hi3]
        refine (compare_V y x _).useV ?_
        by_cases hcc : 0 ≤ cmpE y x
        · have hfin : downF n n l i = l' := by
            rw [← hR]
            cases f with
            | zero => omega
            | succ f => simp only [downF]; rw [if_neg (by omega), if_pos (by rw [hkid, getD_of hy, getD_of hx]; exact hcc)]
          simp [hcc, hfin]
          exact rshift_same' rfl (by simp)
        · have hgo : ∃ f', f = f' + 1 ∧ downF n f' (swapE l' i' k) k = downF n n l i := by
            cases f with
            | zero => omega
            | succ f => exact ⟨f, rfl, by rw [← hR]; simp only [downF]; rw [if_neg (by omega), if_neg (by rw [hkid, getD_of hy, getD_of hx]; exact hcc), hkid]⟩
          obtain ⟨f', rfl, hgo⟩ := hgo
          simp [hcc, hbl, blkE, hy, hy', hx, hx', hik, hi3, hkl, hk3]
          refine ⟨f', swapE l' i' k, k, ⟨hgo, by rw [length_swapE]; exact hlen, by omega, by omega⟩, Shift.slots' ?_ (by simp), by omega⟩
          simp [swapE, blkE, List.map_set, hy, hy', hx, hx']
    · have hkid : kidE n l' i' = k := by simp only [kidE]; rw [show 2 * i' + 1 = k from by omega, if_neg (by rintro ⟨h, _⟩; omega)]
      simp [hjl, hwj, hbl, blkE, hy, hy', hx, hx', hkl, hik, hk3, hi3]
      refine (compare_V y x _).useV ?_
      by_cases hcc : 0 ≤ cmpE y x
      · have hfin : downF n n l i = l' := by
          rw [← hR]
          cases f with
          | zero => omega
          | succ f => simp only [downF]; rw [if_neg (by omega), if_pos (by rw [hkid, getD_of hy, getD_of hx]; exact hcc)]
        simp [hcc, hfin]
        exact rshift_same' rfl (by simp)
      · have hgo : ∃ f', f = f' + 1 ∧ downF n f' (swapE l' i' k) k = downF n n l i := by
          cases f with
          | zero => omega
          | succ f => exact ⟨f, rfl, by rw [← hR]; simp only [downF]; rw [if_neg (by omega), if_neg (by rw [hkid, getD_of hy, getD_of hx]; exact hcc), hkid]⟩
        obtain ⟨f', rfl, hgo⟩ := hgo
        simp [hcc, hbl, blkE, hy, hy', hx, hx', hik, hi3, hkl, hk3]
        refine ⟨f', swapE l' i' k, k, ⟨hgo, by rw [length_swapE]; exact hlen, by omega, by omega⟩, Shift.slots' ?_ (by simp), by omega⟩
        simp [swapE, blkE, List.map_set, hy, hy', hx, hx']

end Go.Vm
