/- up, settle, without, Clone. -/
import Derived.Test.YtfoigidddlboaaaHq3
namespace Go.Vm
open Proofs
set_option maxRecDepth 10000
set_option maxHeartbeats 1000000
set_option linter.unusedSimpArgs false

def upF : Nat → List Ent → Nat → List Ent
  | 0, l, _ => l
  | f + 1, l, i => if i = 0 then l else if cmpE (l.getD i default) (l.getD ((i - 1) / 2) default) < 0 then upF f (swapE l i ((i - 1) / 2)) ((i - 1) / 2) else l

theorem length_upF : ∀ (f : Nat) (l : List Ent) (i : Nat), (upF f l i).length = l.length
  | 0, _, _ => rfl
  | f + 1, l, i => by
    simp only [upF]
    split
    · rfl
    · split
      · rw [length_upF, length_swapE]
      · rfl
theorem length_downF (n : Nat) : ∀ (f : Nat) (l : List Ent) (i : Nat), (downF n f l i).length = l.length
  | 0, _, _ => rfl
  | f + 1, l, i => by
    simp only [downF]
    split
    · rfl
    · split
      · rfl
      · rw [length_downF, length_swapE]

theorem up_V (n : Nat) (l : List Ent) (i b : Nat) (h : List Blk) (hb : h[b]? = some (blkE l)) (hnl : n ≤ l.length) (hn : n < 2000000) (hi : i < n) :
    CallW Try.prog 46 [.ref b 40 0 n, .d (.int .i64 i)] h fun x h' => x = .tup [] ∧ h' = h.set b (blkE (upF i l i)) := by
  refine callW tb_ok fn46 (by simp) (fun hok => ?_)
  have hbl := (List.getElem?_eq_some_iff.mp hb).1
  have hset : h.set b (blkE l) = h := set_same hb
  simp [c46]
  refine W_loop (ι := Nat × List Ent × Nat) (fun p => upF p.1 p.2.1 p.2.2 = upF i l i ∧ p.2.1.length = l.length ∧ p.2.2 ≤ p.1 ∧ p.2.2 < n)
    (fun p => ⟨[(0, .ref b 40 0 n), (1, .d (.int .i64 p.2.2))], h.set b (blkE p.2.1)⟩) (fun p => p.2.2) (i, l, i) ⟨rfl, rfl, by simp, hi⟩ (Shift.slots' hset.symm (by simp [look])) ?_
  rintro ⟨f, l', i'⟩ ⟨hR, hlen, hf, hi'⟩
  simp only at hR hlen hf hi'
  by_cases h0 : i' = 0
  · subst h0
    have hfin : upF i l i = l' := by
      rw [← hR]
      cases f with
      | zero => rfl
      | succ f => simp [upF]
    simp [hfin]
    exact rshift_same' rfl (by simp)
  · have hpos : (0 : Int) < i' := by omega
    have hpos' : 0 < i' := by omega
    obtain ⟨k, hk⟩ : ∃ k, k = (i' - 1) / 2 := ⟨_, rfl⟩
    have hwk : IntKind.i64.wrap ((IntKind.i64.wrap ((i' : Int) - 1)).tdiv 2) = (k : Int) := by
      rw [wrap_ok (n := (i' : Int) - 1) (by omega) (by omega), show (i' : Int) - 1 = ((i' - 1 : Nat) : Int) from by omega]
      show IntKind.i64.wrap (((i' - 1) / 2 : Nat) : Int) = _
      rw [wrap_ok (by omega) (by omega), hk]
    have hik : (i' : Int) < n := by omega
    have hi3 : i' < l'.length := by omega
    have hkl : (k : Int) < n := by omega
    have hkl2 : k < n := by omega
    have hk3 : k < l'.length := by omega
    obtain ⟨x, hx, hx'⟩ : ∃ x, l'[i']? = some x ∧ l'[i']'(by omega) = x := ⟨_, List.getElem?_eq_getElem (by omega), rfl⟩
    obtain ⟨y, hy, hy'⟩ : ∃ y, l'[k]? = some y ∧ l'[k]'(by omega) = y := ⟨_, List.getElem?_eq_getElem (by omega), rfl⟩
    simp [h0, hpos, hpos', hwk, hbl, blkE, hx, hx', hy, hy', hik, hi3, hkl, hk3, hi', hkl2]
    refine (compare_V x y _).useV ?_
    by_cases hc : cmpE x y < 0
    · have hgo : ∃ f', f = f' + 1 ∧ upF f' (swapE l' i' k) k = upF i l i := by
        cases f with
        | zero => omega
        | succ f => exact ⟨f, rfl, by rw [← hR]; simp only [upF]; rw [if_neg h0, if_pos (by rw [← hk, getD_of hx, getD_of hy]; exact hc), ← hk]⟩
      obtain ⟨f', rfl, hgo⟩ := hgo
      simp [hc, hwk, hbl, blkE, hx, hx', hy, hy', hik, hi3, hkl, hk3, hi', hkl2]
      refine ⟨f', swapE l' i' k, k, ⟨hgo, by rw [length_swapE]; exact hlen, by omega, by omega⟩, Shift.slots' ?_ (by simp), by omega⟩
      simp [swapE, blkE, List.map_set, hy, hy', hx, hx']
    · have hfin : upF i l i = l' := by
        rw [← hR]
        cases f with
        | zero => rfl
        | succ f => simp only [upF]; rw [if_neg h0, if_neg (by rw [← hk, getD_of hx, getD_of hy]; exact hc)]
      simp [hc, hfin]
      exact rshift_same' rfl (by simp)

def settleF (n : Nat) (l : List Ent) (i : Nat) : List Ent := downF n n (upF i l i) i

theorem settle_V (n : Nat) (l : List Ent) (i b : Nat) (h : List Blk) (hb : h[b]? = some (blkE l)) (hnl : n ≤ l.length) (hn : n < 2000000) (hi : i < n) :
    CallW Try.prog 47 [.ref b 40 0 n, .d (.int .i64 i)] h fun x h' => x = .tup [] ∧ h' = h.set b (blkE (settleF n l i)) := by
  refine callW tb_ok fn47 (by simp) (fun hok => ?_)
  have hbl := (List.getElem?_eq_some_iff.mp hb).1
  simp [c47]
  refine callV_of (up_V n l i b h hb hnl hn hi) ?_
  rintro _ _ ⟨rfl, rfl⟩
  simp
  refine callV_of (down_V n (upF i l i) i b _ (by simp [hbl]) (by rw [length_upF]; exact hnl) hn (by omega)) ?_
  rintro _ _ ⟨rfl, rfl⟩
  simp [settleF]
  exact rshift_same' rfl (by simp)

def withoutF (n : Nat) (l : List Ent) (i : Nat) : List Ent := if i < n - 1 then settleF (n - 1) (l.set i (l.getD (n - 1) default)) i else l.set i (l.getD (n - 1) default)
theorem length_withoutF (n : Nat) (l : List Ent) (i : Nat) : (withoutF n l i).length = l.length := by
  unfold withoutF settleF
  split <;> simp [length_downF, length_upF]

theorem without_V (n : Nat) (l : List Ent) (i b : Nat) (h : List Blk) (hb : h[b]? = some (blkE l)) (hnl : n ≤ l.length) (hn : n < 2000000) (hi : i < n) :
    CallW Try.prog 41 [.ref b 40 0 n, .d (.int .i64 i)] h fun x h' => x = .ref b 40 0 (n - 1) ∧ h' = h.set b (blkE (withoutF n l i)) := by
  refine callW tb_ok fn41 (by simp) (fun hok => ?_)
  have hbl := (List.getElem?_eq_some_iff.mp hb).1
  obtain ⟨k, hk⟩ : ∃ k, k + 1 = n := ⟨n - 1, by omega⟩
  subst hk
  have hwk : IntKind.i64.wrap (k : Int) = (k : Int) := wrap_ok (by omega) (by omega)
  have hik : (i : Int) < (k : Int) + 1 := by omega
  have hi3 : i < l.length := by omega
  have hk3 : k < l.length := by omega
  have hk4 : (k : Int) < (k : Int) + 1 := by omega
  have hk5 : (k : Int) ≤ (k : Int) + 1 := by omega
  obtain ⟨y, hy, hy'⟩ : ∃ y, l[k]? = some y ∧ l[k]'(by omega) = y := ⟨_, List.getElem?_eq_getElem (by omega), rfl⟩
  simp only [blkE] at hb
  have hb' : h[b]'hbl = .cells 40 (l.map fun e => .d (encE e)) := by rw [List.getElem?_eq_getElem hbl] at hb; exact Option.some.inj hb
  have hgy : l.getD (k + 1 - 1) default = y := getD_of (by simpa using hy)
  by_cases hlt : i < k
  · have hlt' : (i : Int) < k := by omega
    simp [c41, hwk, hik, hi, hi3, hk3, hk4, hk5, hb', hbl, hy, hy', hlt, hlt']
    refine callV_of (settle_V k (l.set i y) i b _ (by simp [hbl, blkE, List.map_set]) (by simp; omega) (by omega) (by omega)) ?_
    rintro _ _ ⟨rfl, rfl⟩
    have hw : withoutF (k + 1) l i = settleF k (l.set i y) i := by unfold withoutF; rw [hgy, if_pos (by omega)]; rfl
    simp [hw]
    exact rshift_same' rfl (by simp)
  · have hlt' : ¬ (i : Int) < k := by omega
    have hw : withoutF (k + 1) l i = l.set i y := by unfold withoutF; rw [hgy, if_neg (by omega)]
    simp [c41, hwk, hik, hi, hi3, hk3, hk4, hk5, hb', hbl, hy, hy', hlt, hlt', hw, blkE, List.map_set]
    exact rshift_same' rfl (by simp)

theorem clone_V (l : List Ent) (hl : l.length < 2000000) (h : List Blk) :
    CallW Try.prog 34 [.d (.sl 40 (l.map encE))] h fun x h' => (l = [] ∧ x = .d (.sl 40 []) ∧ h' = h) ∨ (l ≠ [] ∧ x = .ref h.length 40 0 l.length ∧ h' = h ++ [blkE l]) := by
  refine callW tb_ok fn34 (by simp) (fun hok => ?_)
  cases l with
  | nil =>
    simp [c34]
    refine pbV_of (fun _ => ?_) (fun _ => ?_)
    · simp
      exact rshift_sub (by simp) (Nat.le_refl _)
    · simp
      exact rshift_sub (Sub.z0 40) (Nat.le_refl _)
  | cons x l =>
    simp only [List.length_cons] at hl
    have hl2 : (l.length + 1) * 24 ≤ 140737488355328 := by omega
    simp [c34]
    refine pbV_of (fun h => ?_) (fun _ => ?_)
    · cases h
    · simp [hl2]
      exact rshift_same' (by simp [blkE]) (by simp)

end Go.Vm
