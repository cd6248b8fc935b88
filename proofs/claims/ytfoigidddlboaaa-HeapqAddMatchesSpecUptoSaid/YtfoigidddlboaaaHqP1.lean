/- Plain laws: the order of entries, what is checked. -/
import Derived.Test.YtfoigidddlboaaaHqF
namespace Go.Vm
set_option maxRecDepth 10000
set_option linter.unusedSimpArgs false

theorem bytesLess_irr : ∀ a : List UInt8, Op.bytesLess a a = false
  | [] => rfl
  | x :: a => by simp [Op.bytesLess, bytesLess_irr a]
theorem bytesLess_asymm : ∀ {a b : List UInt8}, Op.bytesLess a b = true → Op.bytesLess b a = false
  | [], _ :: _, _ => rfl
  | x :: a, y :: b, h => by
    simp only [Op.bytesLess, Bool.or_eq_true, Bool.and_eq_true, decide_eq_true_eq, beq_iff_eq, Bool.or_eq_false_iff, decide_eq_false_iff_not, Bool.and_eq_false_iff] at h ⊢
    rcases h with h | ⟨rfl, h⟩
    · exact ⟨by simp only [UInt8.lt_iff_toNat_lt] at *; omega, .inl (by simp; intro e; subst e; simp only [UInt8.lt_iff_toNat_lt] at h; omega)⟩
    · exact ⟨by simp only [UInt8.lt_iff_toNat_lt]; omega, .inr (bytesLess_asymm h)⟩
theorem bytesLess_trans : ∀ {a b c : List UInt8}, Op.bytesLess a b = true → Op.bytesLess b c = true → Op.bytesLess a c = true
  | [], _ :: _, _ :: _, _, _ => rfl
  | x :: a, y :: b, z :: c, h, h' => by
    simp only [Op.bytesLess, Bool.or_eq_true, Bool.and_eq_true, decide_eq_true_eq, beq_iff_eq] at h h' ⊢
    rcases h with h | ⟨rfl, h⟩
    · rcases h' with h' | ⟨rfl, h'⟩
      · exact .inl (by simp only [UInt8.lt_iff_toNat_lt] at *; omega)
      · exact .inl h
    · rcases h' with h' | ⟨rfl, h'⟩
      · exact .inl h'
      · exact .inr ⟨rfl, bytesLess_trans h h'⟩
theorem bytesLess_tri : ∀ {a b : List UInt8}, Op.bytesLess a b = false → Op.bytesLess b a = false → a = b
  | [], [], _, _ => rfl
  | [], _ :: _, h, _ => by simp [Op.bytesLess] at h
  | _ :: _, [], _, h => by simp [Op.bytesLess] at h
  | x :: a, y :: b, h, h' => by
    simp only [Op.bytesLess, Bool.or_eq_false_iff, decide_eq_false_iff_not, Bool.and_eq_false_iff, beq_eq_false_iff_ne] at h h'
    have hxy : x = y := by
      apply UInt8.toNat_inj.mp
      have h1 := h.1
      have h2 := h'.1
      simp only [UInt8.lt_iff_toNat_lt] at h1 h2
      omega
    subst hxy
    have := bytesLess_tri (a := a) (b := b) (h.2.resolve_left (by simp)) (h'.2.resolve_left (by simp))
    rw [this]
theorem compareBytes_lt : ∀ (a b : List UInt8), Lib.compareBytes a b < 0 ↔ Op.bytesLess a b = true
  | [], [] => by simp [Lib.compareBytes, Op.bytesLess]
  | [], _ :: _ => by simp [Lib.compareBytes, Op.bytesLess]
  | _ :: _, [] => by simp [Lib.compareBytes, Op.bytesLess]
  | x :: a, y :: b => by
    have ih := compareBytes_lt a b
    simp only [Lib.compareBytes, Op.bytesLess, Bool.or_eq_true, Bool.and_eq_true, decide_eq_true_eq, beq_iff_eq]
    by_cases h1 : x < y
    · simp [h1]
    · by_cases h2 : y < x
      · have : x ≠ y := by intro e; subst e; exact h1 h2
        simp [h1, h2, this]
      · have : x = y := UInt8.toNat_inj.mp (by simp only [UInt8.lt_iff_toNat_lt] at h1 h2; omega)
        simp [h1, h2, this, ih]

theorem cmp_lt (a b : Ent) : cmpE a b < 0 ↔ aheadB a b = true := by
  simp only [cmpE, aheadB, Bool.or_eq_true, Bool.and_eq_true, decide_eq_true_eq, orL, ← compareBytes_lt]
  by_cases h1 : a.rank < b.rank
  · simp [cmpI, h1]
  · by_cases h2 : b.rank < a.rank
    · have : a.rank ≠ b.rank := by omega
      simp [cmpI, h1, h2, this]
    · have : a.rank = b.rank := by omega
      by_cases h3 : Lib.compareBytes a.name b.name = 0
      · simp [cmpI, this, h3]
      · simp [cmpI, this, h3]

theorem ahead_irr (a : Ent) : aheadB a a = false := by simp [aheadB, bytesLess_irr]
theorem ahead_asymm {a b : Ent} (h : aheadB a b = true) : aheadB b a = false := by
  simp only [aheadB, Bool.or_eq_true, Bool.and_eq_true, decide_eq_true_eq, Bool.or_eq_false_iff, decide_eq_false_iff_not, Bool.and_eq_false_iff] at h ⊢
  rcases h with h | ⟨h1, h2⟩
  · exact ⟨by omega, .inl (by omega)⟩
  · exact ⟨by omega, .inr (bytesLess_asymm h2)⟩
theorem ahead_trans {a b c : Ent} (h : aheadB a b = true) (h' : aheadB b c = true) : aheadB a c = true := by
  simp only [aheadB, Bool.or_eq_true, Bool.and_eq_true, decide_eq_true_eq] at h h' ⊢
  rcases h with h | ⟨h1, h2⟩
  · rcases h' with h' | ⟨h3, h4⟩
    · exact .inl (by omega)
    · exact .inl (by omega)
  · rcases h' with h' | ⟨h3, h4⟩
    · exact .inl (by omega)
    · exact .inr ⟨by omega, bytesLess_trans h2 h4⟩
theorem ahead_tri {a b : Ent} (h : aheadB a b = false) (h' : aheadB b a = false) : a = b := by
  simp only [aheadB, Bool.or_eq_false_iff, decide_eq_false_iff_not, Bool.and_eq_false_iff] at h h'
  have hr : a.rank = b.rank := by omega
  have hn := bytesLess_tri (h.2.resolve_left (by omega)) (h'.2.resolve_left (by omega))
  cases a; cases b; simp_all
/-- Not behind: the order that is total. -/
theorem le_trans' {a b c : Ent} (h : aheadB b a = false) (h' : aheadB c b = false) : aheadB c a = false := by
  cases hca : aheadB c a with
  | false => rfl
  | true =>
    cases hab : aheadB a b with
    | true => rw [ahead_trans hca hab] at h'; cases h'
    | false => have := ahead_tri h hab; subst this; rw [hca] at h'; cases h'

/-! What is checked. -/

theorem entryFrom_mem (name : List UInt8) : ∀ (i : Nat) (l : List Ent), (name ∈ l.map Ent.name → ∃ k, entryFrom name i l = ((i + k : Nat) : Int) ∧ k < l.length ∧ (l.map Ent.name)[k]? = some name) ∧ (name ∉ l.map Ent.name → entryFrom name i l = -1)
  | i, [] => by simp [entryFrom]
  | i, e :: r => by
    obtain ⟨h1, h2⟩ := entryFrom_mem name (i + 1) r
    simp only [List.map_cons, List.mem_cons, entryFrom, not_or]
    by_cases he : e.name = name
    · exact ⟨fun _ => ⟨0, by simp [he], by simp, by simp [he]⟩, fun h => absurd he.symm h.1⟩
    · rw [if_neg he]
      refine ⟨fun h => ?_, fun h => h2 h.2⟩
      obtain ⟨k, h3, h4, h5⟩ := h1 (h.resolve_left (fun e' => he e'.symm))
      exact ⟨k + 1, by rw [h3]; omega, by simp; omega, by simpa using h5⟩

theorem entryFrom_app (name : List UInt8) : ∀ (i : Nat) (pre rest : List Ent), (name ∈ pre.map Ent.name → entryFrom name i (pre ++ rest) = entryFrom name i pre) ∧ (name ∉ pre.map Ent.name → entryFrom name i (pre ++ rest) = entryFrom name (i + pre.length) rest)
  | i, [], rest => by simp
  | i, e :: pre, rest => by
    obtain ⟨h1, h2⟩ := entryFrom_app name (i + 1) pre rest
    simp only [List.map_cons, List.mem_cons, List.cons_append, entryFrom, not_or]
    by_cases he : e.name = name
    · exact ⟨fun _ => by simp [he], fun h => absurd he.symm h.1⟩
    · rw [if_neg he, if_neg he]
      refine ⟨fun h => h1 (h.resolve_left (fun e' => he e'.symm)), fun h => ?_⟩
      rw [h2 h.2]; simp only [List.length_cons]; congr 1; omega

theorem entry_before {pre rest : List Ent} {e : Ent} : entryFrom e.name 0 (pre ++ e :: rest) < pre.length ↔ e.name ∈ pre.map Ent.name := by
  obtain ⟨h1, h2⟩ := entryFrom_app e.name 0 pre (e :: rest)
  by_cases hm : e.name ∈ pre.map Ent.name
  · rw [h1 hm]
    obtain ⟨k, h3, h4, _⟩ := (entryFrom_mem e.name 0 pre).1 hm
    simp only [hm, iff_true, h3]
    omega
  · rw [h2 hm]
    simp [entryFrom, hm]

theorem code_eq {order : Bool} {pre rest : List Ent} {e : Ent} : codeAt order pre e = rcodeAt order (pre ++ e :: rest) pre e := by
  have h1 : hasN pre e.name = true ↔ e.name ∈ pre.map Ent.name := by simp [hasN, List.contains_iff_mem]
  unfold codeAt rcodeAt
  simp only [entry_before]
  by_cases hf : entFault e = 0
  · by_cases hm : e.name ∈ pre.map Ent.name
    · simp [hf, hm, h1.mpr hm]
    · have : hasN pre e.name = false := by cases h : hasN pre e.name with | false => rfl | true => exact absurd (h1.mp h) hm
      simp only [hf, hm, this, cmp_lt]
      simp
  · simp [hf]

theorem chkFrom_eq (order : Bool) (l : List Ent) : ∀ (rest pre : List Ent), pre ++ rest = l → chkFrom order pre rest = rchkFrom order l pre rest
  | [], _, _ => rfl
  | e :: rest, pre, h => by
    subst h
    simp only [chkFrom, rchkFrom, ← code_eq]
    rw [chkFrom_eq order (pre ++ e :: rest) rest (pre ++ [e]) (by simp)]

theorem chk_eq (order : Bool) (l : List Ent) : chk order l = rchk order l := by
  unfold chk rchk
  rw [chkFrom_eq order l l [] rfl]

/-- Entries that may be in one queue. -/
structure Valid (l : List Ent) : Prop where
  len : l.length ≤ 200
  fault : ∀ e ∈ l, entFault e = 0
  names : (l.map Ent.name).Nodup

/-- The first n entries are in order of a heap. -/
def Heap (n : Nat) (l : List Ent) : Prop := ∀ i, 0 < i → i < n → aheadB (l.getD i default) (l.getD ((i - 1) / 2) default) = false

theorem Valid.perm {l l' : List Ent} (h : Valid l) (hp : l'.Perm l) : Valid l' :=
  ⟨by rw [hp.length_eq]; exact h.len, fun e he => h.fault e (hp.mem_iff.mp he), (hp.map Ent.name).nodup_iff.mpr h.names⟩

theorem codeAt_zero {order : Bool} {pre : List Ent} {e : Ent} : codeAt order pre e = 0 ↔ entFault e = 0 ∧ e.name ∉ pre.map Ent.name ∧ (order = true → pre ≠ [] → aheadB e (pre.getD ((pre.length - 1) / 2) default) = false) := by
  have h1 : hasN pre e.name = true ↔ e.name ∈ pre.map Ent.name := by simp [hasN, List.contains_iff_mem]
  unfold codeAt
  simp only [cmp_lt]
  by_cases hf : entFault e = 0
  · by_cases hm : e.name ∈ pre.map Ent.name
    · rw [if_neg (by simp [hf]), if_pos (h1.mpr hm)]
      constructor
      · intro h; simp at h
      · intro h; exact absurd hm h.2.1
    · have : hasN pre e.name = false := by cases h : hasN pre e.name with | false => rfl | true => exact absurd (h1.mp h) hm
      rw [if_neg (by simp [hf]), this]
      simp only [Bool.false_eq_true, if_false, hf, true_and, hm, not_false_eq_true]
      split
      · rename_i h
        simp only [reduceCtorEq, false_iff, Int.reduceEq]
        intro h'
        have := h' h.1 h.2.1
        rw [this] at h
        simp at h
      · rename_i h
        simp only [true_iff]
        intro h2 h3
        cases h4 : aheadB e (pre.getD ((pre.length - 1) / 2) default) with
        | false => rfl
        | true => exact absurd ⟨h2, h3, h4⟩ h
  · simp [hf]

theorem chkFrom_zero (order : Bool) : ∀ (rest pre : List Ent), (chkFrom order pre rest).1 = 0 ↔ ∀ k e, rest[k]? = some e → codeAt order (pre ++ rest.take k) e = 0
  | [], pre => by simp [chkFrom]
  | e :: rest, pre => by
    simp only [chkFrom]
    by_cases hc : codeAt order pre e = 0
    · rw [if_neg (by simp [hc]), chkFrom_zero order rest (pre ++ [e])]
      constructor
      · intro h k x hk
        cases k with
        | zero => simp at hk; subst hk; simpa using hc
        | succ k => have := h k x (by simpa using hk); simpa using this
      · intro h k x hk
        have := h (k + 1) x (by simpa using hk)
        simpa using this
    · rw [if_pos hc]
      simp only [hc, false_iff]
      intro h
      exact hc (by simpa using h 0 e rfl)

theorem chk_zero (order : Bool) (l : List Ent) : (chk order l).1 = 0 ↔ Valid l ∧ (order = true → Heap l.length l) := by
  unfold chk
  by_cases hl : 200 < l.length
  · rw [if_pos hl]
    simp only [Int.reduceEq, false_iff]
    intro h
    have := h.1.len
    omega
  · rw [if_neg hl, chkFrom_zero]
    simp only [List.nil_append, codeAt_zero]
    constructor
    · intro h
      refine ⟨⟨by omega, fun e he => ?_, ?_⟩, fun ho i h0 hi => ?_⟩
      · obtain ⟨k, hk⟩ := List.getElem?_of_mem he
        exact (h k e hk).1
      · unfold List.Nodup
        rw [List.pairwise_iff_getElem]
        intro i j hi hj hij he
        simp only [List.length_map] at hi hj
        have := (h j l[j] (List.getElem?_eq_getElem hj)).2.1
        apply this
        rw [List.getElem_map, List.getElem_map] at he
        rw [← he]
        exact List.mem_map_of_mem (List.mem_take_iff_getElem.mpr ⟨i, by omega, rfl⟩)
      · have := (h i l[i] (List.getElem?_eq_getElem hi)).2.2 ho (by intro e; have := congrArg List.length e; rw [List.length_take] at this; simp only [List.length_nil] at this; omega)
        simp only [List.length_take] at this
        rw [show min i l.length = i from by omega] at this
        rw [List.getD, List.getElem?_eq_getElem hi]
        rw [List.getD, List.getElem?_take_of_lt (by omega)] at this
        exact this
    · rintro ⟨hv, hh⟩ k e hk
      have hkl := (List.getElem?_eq_some_iff.mp hk).1
      have hke := (List.getElem?_eq_some_iff.mp hk).2
      refine ⟨hv.fault e (List.mem_of_getElem? hk), fun hm => ?_, fun ho hne => ?_⟩
      · obtain ⟨x, hx, hxe⟩ := List.mem_map.mp hm
        obtain ⟨i, hi, rfl⟩ := List.mem_take_iff_getElem.mp hx
        have := hv.names
        unfold List.Nodup at this
        rw [List.pairwise_iff_getElem] at this
        refine this i k (by simp; omega) (by simpa using hkl) (by omega) ?_
        rw [List.getElem_map, List.getElem_map, hxe, hke]
      · have hk0 : 0 < k := by
          rcases Nat.eq_zero_or_pos k with h | h
          · subst h; simp at hne
          · exact h
        have := hh ho k hk0 hkl
        simp only [List.length_take]
        rw [show min k l.length = k from by omega]
        rw [List.getD, hk] at this
        rw [List.getD, List.getElem?_take_of_lt (by omega)]
        exact this

end Go.Vm
