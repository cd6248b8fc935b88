/- Plain laws: sorted lists, what queues hold. -/
import Derived.Test.YtfoigidddlboaaaHqP2
namespace Go.Vm
set_option maxRecDepth 10000
set_option linter.unusedSimpArgs false

abbrev Srt (l : List Ent) : Prop := l.Pairwise fun a b => aheadB b a = false

theorem srt_unique {a b : List Ent} (ha : Srt a) (hb : Srt b) (h : a.Perm b) : a = b :=
  h.eq_of_pairwise (fun _ _ _ _ h1 h2 => ahead_tri h2 h1) ha hb

theorem firstFrom_min : ∀ (r pre : List Ent) (k : Nat) (b : Ent), pre[k]? = some b → (∀ x ∈ pre, aheadB x b = false) →
    ∃ y, (pre ++ r)[firstFrom pre.length k b r]? = some y ∧ ∀ x ∈ pre ++ r, aheadB x y = false
  | [], pre, k, b, hk, h => ⟨b, by simpa [firstFrom] using hk, by simpa using h⟩
  | e :: r, pre, k, b, hk, h => by
    have happ : pre ++ e :: r = (pre ++ [e]) ++ r := by simp
    have hlen : pre.length + 1 = (pre ++ [e]).length := by simp
    simp only [firstFrom]
    rw [happ]
    split
    · rename_i ha
      rw [hlen]
      refine firstFrom_min r (pre ++ [e]) pre.length e (by simp) (fun x hx => ?_)
      rcases List.mem_append.mp hx with hx | hx
      · exact le_trans' (ahead_asymm ha) (h x hx)
      · rw [List.mem_singleton.mp hx]; exact ahead_irr _
    · rename_i ha
      rw [hlen]
      refine firstFrom_min r (pre ++ [e]) k b (by rw [List.getElem?_append_left (List.getElem?_eq_some_iff.mp hk).1]; exact hk) (fun x hx => ?_)
      rcases List.mem_append.mp hx with hx | hx
      · exact h x hx
      · rw [List.mem_singleton.mp hx]; simpa using ha

theorem firstE_min {l : List Ent} (hl : l ≠ []) : ∃ y, l[firstE l]? = some y ∧ ∀ x ∈ l, aheadB x y = false := by
  cases l with
  | nil => exact absurd rfl hl
  | cons x r => exact firstFrom_min r [x] 0 x rfl (by simp [ahead_irr])

theorem erase_perm {α : Type} {l : List α} {k : Nat} {y : α} (h : l[k]? = some y) : (y :: l.eraseIdx k).Perm l := by
  obtain ⟨hk, he⟩ := List.getElem?_eq_some_iff.mp h
  have : l = l.take k ++ y :: l.drop (k + 1) := by
    rw [← he, ← List.drop_eq_getElem_cons hk, List.take_append_drop]
  rw [List.eraseIdx_eq_take_drop_succ]
  conv => rhs; rw [this]
  exact List.perm_middle.symm

theorem sorted_ok : ∀ (n : Nat) (l : List Ent), l.length = n → (sortedF n l).Perm l ∧ Srt (sortedF n l)
  | 0, l, h => by
    have := List.eq_nil_of_length_eq_zero h
    subst this
    exact ⟨.refl _, .nil⟩
  | n + 1, l, h => by
    have hne : l ≠ [] := by intro e; subst e; simp at h
    obtain ⟨y, hy, hmin⟩ := firstE_min hne
    have hp := erase_perm hy
    have hlen : (l.eraseIdx (firstE l)).length = n := by have := hp.length_eq; simp only [List.length_cons] at this; omega
    obtain ⟨h1, h2⟩ := sorted_ok n _ hlen
    simp only [sortedF, getD_of hy]
    refine ⟨(h1.cons y).trans hp, List.pairwise_cons.mpr ⟨fun x hx => ?_, h2⟩⟩
    exact hmin x (hp.mem_iff.mp (List.mem_cons_of_mem _ (h1.mem_iff.mp hx)))

theorem sortedE_perm (l : List Ent) : (sortedE l).Perm l := (sorted_ok _ l rfl).1
theorem sortedE_srt (l : List Ent) : Srt (sortedE l) := (sorted_ok _ l rfl).2
theorem sortedE_of {q l : List Ent} (h : q.Perm l) : sortedE q = sortedE l :=
  srt_unique (sortedE_srt q) (sortedE_srt l) ((sortedE_perm q).trans (h.trans (sortedE_perm l).symm))

theorem queueB_of {q l : List Ent} (hp : q.Perm l) (hv : Valid l) (hh : Heap q.length q) : queueB q l = true := by
  have h1 : (rchk true q).1 = 0 := by rw [← chk_eq]; exact (chk_zero true q).mpr ⟨hv.perm hp, fun _ => hh⟩
  simp [queueB, h1, sortedE_of hp]

/-- A queue that is what it should be. -/
theorem queueB_iff {q l : List Ent} (h : queueB q l = true) : Valid q ∧ Heap q.length q ∧ q.Perm l := by
  simp only [queueB, Bool.and_eq_true, decide_eq_true_eq] at h
  rw [← chk_eq] at h
  obtain ⟨hv, hh⟩ := (chk_zero true q).mp h.1
  exact ⟨hv, hh rfl, (sortedE_perm q).symm.trans (h.2 ▸ sortedE_perm l)⟩

/-! Taking away. -/

def restE (m : List Ent) (z : Ent) (i : Nat) : List Ent := if i < m.length then settleF m.length (m.set i z) i else m

theorem without_eq {m t : List Ent} {z : Ent} {i : Nat} (hi : i ≤ m.length) : withoutF (m.length + 1) (m ++ z :: t) i = restE m z i ++ z :: t := by
  have hz : (m ++ z :: t).getD (m.length + 1 - 1) default = z := by simp
  unfold withoutF restE
  rw [hz]
  by_cases h : i < m.length
  · rw [if_pos (by omega), if_pos h, List.set_append_left _ _ h]
    exact settle_app h (by simp)
  · rw [if_neg (by omega), if_neg h, show i = m.length from by omega, List.set_append_right _ _ (Nat.le_refl _)]
    simp

theorem set_perm {m : List Ent} {z : Ent} {i : Nat} (h : i < m.length) : (m.set i z).Perm (m.eraseIdx i ++ [z]) := by
  rw [List.set_eq_take_append_cons_drop, if_pos h, List.eraseIdx_eq_take_drop_succ]
  refine List.perm_middle.trans ?_
  exact (List.perm_append_singleton z _).symm

theorem rest_perm {m : List Ent} {z : Ent} {i : Nat} (hi : i ≤ m.length) : (restE m z i).Perm ((m ++ [z]).eraseIdx i) := by
  unfold restE
  by_cases h : i < m.length
  · rw [if_pos h, List.eraseIdx_append_of_lt_length h]
    exact (settle_perm h (by simp)).trans (set_perm h)
  · rw [if_neg h, show i = m.length from by omega, List.eraseIdx_append_of_length_le (Nat.le_refl _)]
    simp

theorem rest_length {m : List Ent} {z : Ent} {i : Nat} : (restE m z i).length = m.length := by
  unfold restE
  split
  · simp [settleF, length_downF, length_upF]
  · rfl

theorem g_set {m : List Ent} {z : Ent} {i j : Nat} (h : i < m.length) : g (m.set i z) j = if j = i then z else g m j := by
  simp only [g, List.getD, List.getElem?_set]
  by_cases e : i = j
  · subst e; simp [h]
  · simp [e, Ne.symm e]

theorem but_set {m : List Ent} {z : Ent} {i : Nat} (hi : i < m.length) (h : Heap m.length m) : But m.length (m.set i z) i := by
  refine ⟨fun j h0 hj h1 h2 => ?_, fun hi0 j h0 hj h1 => ?_⟩
  · rw [g_set hi, g_set hi, if_neg h1, if_neg h2]
    exact h j h0 hj
  · rw [g_set hi, g_set hi, if_neg (by omega), if_neg (by omega)]
    have h3 := h j h0 hj
    rw [h1] at h3
    exact le_trans' (h i hi0 hi) h3

theorem heap_prefix {m t : List Ent} (h : Heap (m ++ t).length (m ++ t)) : Heap m.length m := by
  intro i h0 hi
  have := h i h0 (by simp; omega)
  rw [g_app hi, g_app (show (i - 1) / 2 < m.length by omega)] at this
  exact this

theorem rest_heap {m : List Ent} {z : Ent} {i : Nat} (h : Heap (m ++ [z]).length (m ++ [z])) : Heap m.length (restE m z i) := by
  have hm := heap_prefix h
  unfold restE
  split
  · rename_i hi
    exact settle_heap hi (by simp) (but_set hi hm)
  · exact hm

theorem split_last {l : List Ent} (h : l ≠ []) : ∃ m z, l = m ++ [z] := ⟨_, _, (List.dropLast_concat_getLast h).symm⟩

/-- Draining a heap. -/
theorem drain_ok : ∀ (k : Nat) (l t : List Ent), l.length = k → Heap k l → (drainL k (l ++ t)).Perm l ∧ Srt (drainL k (l ++ t))
  | 0, l, t, h, _ => by
    have := List.eq_nil_of_length_eq_zero h
    subst this
    exact ⟨.refl _, .nil⟩
  | k + 1, l, t, h, hh => by
    obtain ⟨m, z, rfl⟩ := split_last (l := l) (by intro e; subst e; simp at h)
    have hm : m.length = k := by simpa using h
    subst hm
    have hh' : Heap (m ++ [z]).length (m ++ [z]) := by rw [h]; exact hh
    have hr := rest_heap (i := 0) hh'
    obtain ⟨h1, h2⟩ := drain_ok m.length (restE m z 0) (z :: t) rest_length hr
    have hx : (m ++ [z] ++ t).getD 0 default = (m ++ [z]).getD 0 default := g_app (by simp)
    obtain ⟨x, hx0⟩ : ∃ x, (m ++ [z])[0]? = some x := ⟨_, List.getElem?_eq_getElem (by simp)⟩
    have hxg : (m ++ [z]).getD 0 default = x := getD_of hx0
    have hp : (x :: restE m z 0).Perm (m ++ [z]) := ((rest_perm (Nat.zero_le _)).cons x).trans (erase_perm hx0)
    have hw : withoutF (m.length + 1) (m ++ [z] ++ t) 0 = restE m z 0 ++ z :: t := by
      rw [List.append_assoc]
      exact without_eq (Nat.zero_le _)
    simp only [drainL, hx, hxg, hw]
    refine ⟨(h1.cons x).trans hp, List.pairwise_cons.mpr ⟨fun y hy => ?_, h2⟩⟩
    have hy' := hp.mem_iff.mp (List.mem_cons_of_mem _ (h1.mem_iff.mp hy))
    obtain ⟨i, hi⟩ := List.getElem?_of_mem hy'
    have := heap_min hh' i (List.getElem?_eq_some_iff.mp hi).1
    simp only [g, getD_of hi, hxg] at this
    exact this

/-! What the functions answer. -/

theorem build_ok {l : List Ent} (h : (rchk false l).1 = 0) : ∃ q, buildF l = (q, (0, 0)) ∧ Valid q ∧ Heap q.length q ∧ q.Perm l ∧ Valid l := by
  have h' : (chk false l).1 = 0 := by rw [chk_eq]; exact h
  have hv := ((chk_zero false l).mp h').1
  obtain ⟨h1, h2⟩ := heap_built l
  exact ⟨_, by unfold buildF; rw [if_pos h'], hv.perm h2, by rw [h2.length_eq]; exact h1, h2, hv⟩
theorem build_fault {l : List Ent} (h : (rchk false l).1 ≠ 0) : buildF l = ([], rchk false l) := by
  unfold buildF
  rw [chk_eq, if_neg h]

theorem isQueue {q : List Ent} (h : (rchk true q).1 = 0) : Valid q ∧ Heap q.length q := by
  rw [← chk_eq] at h
  obtain ⟨h1, h2⟩ := (chk_zero true q).mp h
  exact ⟨h1, h2 rfl⟩

theorem drain_is {q : List Ent} (h : (rchk true q).1 = 0) : drainF q = (sortedE q, (0, 0)) := by
  obtain ⟨hv, hh⟩ := isQueue h
  have := drain_ok q.length q [] rfl hh
  simp only [List.append_nil] at this
  unfold drainF
  rw [chk_eq, if_pos h, srt_unique this.2 (sortedE_srt q) (this.1.trans (sortedE_perm q).symm)]
theorem drain_fault {q : List Ent} (h : (rchk true q).1 ≠ 0) : drainF q = ([], rchk true q) := by
  unfold drainF
  rw [chk_eq, if_neg h]

theorem pop_fault {q : List Ent} (h : (rchk true q).1 ≠ 0) : popF q = ([], zeroE, rchk true q) := by
  unfold popF
  rw [chk_eq, if_pos h]
theorem pop_empty : popF [] = ([], zeroE, (10, -1)) := rfl
theorem pop_ok {q : List Ent} (h : (rchk true q).1 = 0) (hne : q ≠ []) : ∃ q', popF q = (q', q.getD (firstE q) default, (0, 0)) ∧ queueB q' (q.eraseIdx (firstE q)) = true := by
  obtain ⟨hv, hh⟩ := isQueue h
  obtain ⟨m, z, rfl⟩ := split_last hne
  obtain ⟨x, hx0⟩ : ∃ x, (m ++ [z])[0]? = some x := ⟨_, List.getElem?_eq_getElem (by simp)⟩
  obtain ⟨y, hy, hmin⟩ := firstE_min hne
  have hxy : x = y := by
    refine ahead_tri (hmin x (List.mem_of_getElem? hx0)) ?_
    have := heap_min hh _ (List.getElem?_eq_some_iff.mp hy).1
    simp only [g, getD_of hy, getD_of hx0] at this
    exact this
  subst hxy
  have hw : withoutF (m.length + 1) (m ++ [z]) 0 = restE m z 0 ++ [z] := without_eq (Nat.zero_le _)
  have hR : popF (m ++ [z]) = (restE m z 0, x, (0, 0)) := by
    unfold popF
    rw [chk_eq, if_neg (by rw [h]; simp)]
    cases hc : m ++ [z] with
    | nil => simp at hc
    | cons a r =>
      have ha : a = x := by rw [hc] at hx0; simpa using hx0
      have hr : r.length = m.length := by have := congrArg List.length hc; simp at this; omega
      simp only
      rw [← hc, hr, hw, ha, List.take_left' rest_length]
  refine ⟨_, by rw [hR, getD_of hy], queueB_of ?_ ?_ (by rw [rest_length]; exact rest_heap hh)⟩
  · have h1 := (rest_perm (m := m) (z := z) (Nat.zero_le _)).cons x |>.trans (erase_perm hx0)
    exact (List.perm_cons x).mp (h1.trans (erase_perm hy).symm)
  · have hs : ((m ++ [z]).eraseIdx (firstE (m ++ [z]))).Sublist (m ++ [z]) := List.eraseIdx_sublist _ _
    exact ⟨Nat.le_trans hs.length_le hv.len, fun e he => hv.fault e (hs.subset he), (hs.map _).nodup hv.names⟩

theorem Valid.sub {l l' : List Ent} (hv : Valid l) (hs : l'.Sublist l) : Valid l' :=
  ⟨Nat.le_trans hs.length_le hv.len, fun e he => hv.fault e (hs.subset he), (hs.map _).nodup hv.names⟩

theorem add_fault {q : List Ent} (e : Ent) (h : (rchk true q).1 ≠ 0) : addF q e = ([], rchk true q) := by
  unfold addF
  rw [chk_eq, if_pos h]
theorem add_code {q : List Ent} {e : Ent} (h : (rchk true q).1 = 0) (hc : addCode q e ≠ 0) : addF q e = ([], (addCode q e, -2)) := by
  unfold addF
  rw [chk_eq, if_neg (by rw [h]; simp), if_pos hc]
theorem add_ok {q : List Ent} {e : Ent} (h : (rchk true q).1 = 0) (hc : addCode q e = 0) : ∃ x, addF q e = (x, (0, 0)) ∧ queueB x (q ++ [e]) = true := by
  obtain ⟨hv, hh⟩ := isQueue h
  have h1 : q.length ≠ 200 ∧ entFault e = 0 ∧ ¬ 0 ≤ entryFrom e.name 0 q := by
    unfold addCode at hc
    split at hc
    · simp at hc
    · split at hc
      · simp at hc
      · rename_i h2 h3
        exact ⟨h2, hc, fun h4 => h3 ⟨hc, h4⟩⟩
  have hnot : e.name ∉ q.map Ent.name := by
    intro hm
    obtain ⟨k, hk, _⟩ := (entryFrom_mem e.name 0 q).1 hm
    exact h1.2.2 (by omega)
  refine ⟨_, by unfold addF; rw [chk_eq, if_neg (by rw [h]; simp), if_neg (by rw [hc]; simp)], ?_⟩
  have hp := up_perm q.length (q ++ [e]) q.length (by simp)
  refine queueB_of hp ⟨?_, ?_, ?_⟩ ?_
  · have := hv.len; simp; omega
  · intro x hx
    rcases List.mem_append.mp hx with hx | hx
    · exact hv.fault x hx
    · rw [List.mem_singleton.mp hx]; exact h1.2.1
  · rw [List.map_append]
    refine List.nodup_append.mpr ⟨hv.names, by simp, fun a ha b hb => ?_⟩
    simp at hb
    subst hb
    intro e'
    subst e'
    exact hnot ha
  · rw [length_upF]
    refine up_heap q.length (q ++ [e]) q.length (by simp) (Nat.le_refl _) (Nat.le_refl _) (fun j h0 hj hne => ?_) (fun h0 j h1 hj hji => ?_)
    · simp at hj
      rw [show g (q ++ [e]) j = g q j from g_app (by omega), show g (q ++ [e]) ((j - 1) / 2) = g q ((j - 1) / 2) from g_app (by omega)]
      exact hh j h0 (by omega)
    · simp at hj
      omega

theorem entry_at {q : List Ent} {name : List UInt8} {k : Nat} (h : entryFrom name 0 q = (k : Int)) : ∃ x, q[k]? = some x ∧ x.name = name := by
  by_cases hm : name ∈ q.map Ent.name
  · obtain ⟨k', h1, h2, h3⟩ := (entryFrom_mem name 0 q).1 hm
    have : k' = k := by omega
    subst this
    simp only [List.getElem?_map, Option.map_eq_some_iff] at h3
    exact h3
  · have := (entryFrom_mem name 0 q).2 hm
    omega

theorem change_fault {q : List Ent} (name : List UInt8) (rank : Int) (h : (rchk true q).1 ≠ 0) : changeF q name rank = ([], rchk true q) := by
  unfold changeF
  rw [chk_eq, if_pos h]
theorem remove_fault {q : List Ent} (name : List UInt8) (h : (rchk true q).1 ≠ 0) : removeF q name = ([], rchk true q) := by
  unfold removeF
  rw [chk_eq, if_pos h]
theorem change_none {q : List Ent} {name : List UInt8} (rank : Int) (h : (rchk true q).1 = 0) (hk : entryFrom name 0 q < 0) : changeF q name rank = ([], (12, -2)) := by
  unfold changeF
  rw [chk_eq, if_neg (by rw [h]; simp), if_pos hk]
theorem remove_none {q : List Ent} {name : List UInt8} (h : (rchk true q).1 = 0) (hk : entryFrom name 0 q < 0) : removeF q name = ([], (12, -2)) := by
  unfold removeF
  rw [chk_eq, if_neg (by rw [h]; simp), if_pos hk]
theorem change_range {q : List Ent} {name : List UInt8} {rank : Int} (h : (rchk true q).1 = 0) (hk : ¬ entryFrom name 0 q < 0) (hr : ¬ (-1000000 ≤ rank ∧ rank ≤ 1000000)) : changeF q name rank = ([], (4, -3)) := by
  unfold changeF
  rw [chk_eq, if_neg (by rw [h]; simp), if_neg hk, if_pos (by omega)]

theorem remove_ok {q : List Ent} {name : List UInt8} {k : Nat} (h : (rchk true q).1 = 0) (hk : entryFrom name 0 q = (k : Int)) : ∃ y, removeF q name = (y, (0, 0)) ∧ queueB y (q.eraseIdx k) = true := by
  obtain ⟨hv, hh⟩ := isQueue h
  obtain ⟨x, hx, _⟩ := entry_at hk
  have hkl := (List.getElem?_eq_some_iff.mp hx).1
  obtain ⟨m, z, rfl⟩ := split_last (l := q) (by intro e; subst e; simp at hkl)
  have hkm : k ≤ m.length := by simp at hkl; omega
  have hw : withoutF (m ++ [z]).length (m ++ [z]) k = restE m z k ++ [z] := by
    rw [List.length_append, List.length_singleton]; exact without_eq hkm
  refine ⟨restE m z k, ?_, queueB_of (rest_perm hkm) (hv.sub (List.eraseIdx_sublist _ _)) (by rw [rest_length]; exact rest_heap hh)⟩
  unfold removeF
  rw [chk_eq, if_neg (by rw [h]; simp), if_neg (by omega), hk, Int.toNat_natCast, hw]
  rw [List.take_left' (by simp [rest_length])]

theorem change_ok {q : List Ent} {name : List UInt8} {rank : Int} {k : Nat} (h : (rchk true q).1 = 0) (hk : entryFrom name 0 q = (k : Int)) (hr : -1000000 ≤ rank ∧ rank ≤ 1000000) :
    ∃ x, changeF q name rank = (x, (0, 0)) ∧ queueB x (q.eraseIdx k ++ [⟨name, rank⟩]) = true := by
  obtain ⟨hv, hh⟩ := isQueue h
  obtain ⟨x, hx, hxn⟩ := entry_at hk
  have hkl := (List.getElem?_eq_some_iff.mp hx).1
  have hp : (settleF q.length (q.set k ⟨name, rank⟩) k).Perm (q.eraseIdx k ++ [⟨name, rank⟩]) := (settle_perm hkl (by simp)).trans (set_perm hkl)
  refine ⟨settleF q.length (q.set k ⟨name, rank⟩) k, ?_, queueB_of hp ⟨?_, ?_, ?_⟩ ?_⟩
  · unfold changeF
    rw [chk_eq, if_neg (by rw [h]; simp), if_neg (by omega), if_neg (by omega), hk, Int.toNat_natCast]
    simp only [getD_of hx, hxn]
  · have := hp.length_eq
    have h2 := hv.len
    rw [← this]
    simpa [settleF, length_downF, length_upF] using h2
  · intro y hy
    rcases List.mem_append.mp hy with hy | hy
    · exact hv.fault y ((List.eraseIdx_sublist _ _).subset hy)
    · rw [List.mem_singleton.mp hy]
      have := hv.fault x (List.mem_of_getElem? hx)
      unfold entFault at this ⊢
      rw [hxn] at this
      split at this
      · simp at this
      · rename_i h1
        rw [if_neg h1, if_pos hr]
  · have h1 : (q.eraseIdx k ++ [(⟨name, rank⟩ : Ent)]).map Ent.name = (q.eraseIdx k ++ [x]).map Ent.name := by simp [hxn]
    rw [h1]
    have h2 : (q.eraseIdx k ++ [x]).Perm q := (List.perm_append_singleton x _).trans (erase_perm hx)
    exact (h2.map Ent.name).nodup_iff.mpr hv.names
  · have : (settleF q.length (q.set k ⟨name, rank⟩) k).length = q.length := by simp [settleF, length_downF, length_upF]
    rw [this]
    exact settle_heap hkl (by simp) (but_set hkl hh)

end Go.Vm
