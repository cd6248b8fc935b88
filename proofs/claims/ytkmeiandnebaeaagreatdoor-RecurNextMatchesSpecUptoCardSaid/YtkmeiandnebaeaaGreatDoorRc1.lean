/- recur: days, periods, the days of a rule: plain words. -/
import Derived.Test.YtkmeiandnebaeaaGreatDoorDtA
namespace Go.Vm
set_option linter.unusedSimpArgs false
set_option linter.unusedVariables false
set_option maxHeartbeats 4000000

/-- A rule. -/
structure Ru where
  unit : Int
  step : Int
  months : List Int
  mdays : List Int
  wds : List (Int × Int)
  picks : List Int
  count : Int
  til : Int

/-- A day, with what rules ask of it: number, year, month, day of the month, days left in it, day of the week. -/
structure Dy where
  n : Int
  y : Int
  m : Int
  d : Int
  l : Int
  w : Int

def dyS (n : Int) : Dy := ⟨n, (dateRef n).1, (dateRef n).2.1, (dateRef n).2.2, dim (dateRef n).1 (dateRef n).2.1 - (dateRef n).2.2 + 1, (n - 1) % 7⟩
def perD (u : Int) (d : Dy) : Int := if u = 2 then (d.n - 1) / 7 else if u = 3 then 12 * d.y + d.m else if u = 4 then d.y else d.n
/-- The first day of the k-th period behind that of the start. -/
def pf (u s : Int) (k : Int) : Int :=
  if u = 2 then s - (s - 1) % 7 + 7 * k else if u = 3 then mStart (12 * (dateRef s).1 + ((dateRef s).2.1 - 1) + k) + 1 else if u = 4 then dB ((dateRef s).1 + k) + 1 else s + k

theorem mStart_lt {a b : Int} (h : a < b) : mStart a + 28 ≤ mStart b := by
  have h1 := mStart_succ a
  have h2 := dim_le (a / 12) (a % 12 + 1)
  have h3 := mStart_mono (a := a + 1) (b := b) (by omega)
  omega
theorem dB_lt {a b : Int} (h : a < b) : dB a + 365 ≤ dB b := by
  have h1 := dB_succ a
  have h2 := leapN_le a
  have h3 := dB_mono (y := a + 1) (z := b) (by omega)
  omega

/-- The month of a day, as a number. -/
theorem month_iff {n j : Int} (h : 1 ≤ n) : 12 * (dateRef n).1 + ((dateRef n).2.1 - 1) = j ↔ mStart j < n ∧ n ≤ mStart (j + 1) := by
  obtain ⟨hv, he⟩ := dateRef_okG h
  obtain ⟨h1, h2⟩ := day_in hv
  have h3 : 1 ≤ (dateRef n).2.2 := hv.2.2.2.1
  rw [he] at h1
  generalize 12 * (dateRef n).1 + ((dateRef n).2.1 - 1) = i at h1 h2 ⊢
  have h4 := mStart_succ i
  constructor
  · rintro rfl; omega
  · rintro ⟨h5, h6⟩
    rcases Int.lt_trichotomy i j with c | c | c
    · have := mStart_mono (a := i + 1) (b := j) (by omega); omega
    · exact c
    · have := mStart_mono (a := j + 1) (b := i) (by omega); omega
theorem year_iff {n j : Int} (h : 1 ≤ n) : (dateRef n).1 = j ↔ dB j < n ∧ n ≤ dB (j + 1) := by
  obtain ⟨hv, he⟩ := dateRef_okG h
  have hb := dayOf_bnd hv
  rw [he] at hb
  generalize (dateRef n).1 = i at hb ⊢
  constructor
  · rintro rfl; exact hb
  · rintro ⟨h5, h6⟩
    rcases Int.lt_trichotomy i j with c | c | c
    · have := dB_mono (y := i + 1) (z := j) (by omega); omega
    · exact c
    · have := dB_mono (y := j + 1) (z := i) (by omega); omega

theorem per_iff {u s n k : Int} (hn : 1 ≤ n) : perD u (dyS n) = perD u (dyS s) + k ↔ pf u s k ≤ n ∧ n < pf u s (k + 1) := by
  unfold perD pf dyS
  simp only
  by_cases h2 : u = 2
  · simp only [if_pos h2]; omega
  by_cases h3 : u = 3
  · simp only [if_neg h2, if_pos h3]
    have := month_iff (j := 12 * (dateRef s).1 + ((dateRef s).2.1 - 1) + k) hn
    rw [show 12 * (dateRef s).1 + ((dateRef s).2.1 - 1) + (k + 1) = 12 * (dateRef s).1 + ((dateRef s).2.1 - 1) + k + 1 from by omega]
    omega
  by_cases h4 : u = 4
  · simp only [if_neg h2, if_neg h3, if_pos h4]
    have := year_iff (j := (dateRef s).1 + k) hn
    rw [show (dateRef s).1 + (k + 1) = (dateRef s).1 + k + 1 from by omega]
    omega
  · simp only [if_neg h2, if_neg h3, if_neg h4]; omega

theorem pf_lt (u s : Int) {a b : Int} (h : a < b) : pf u s a < pf u s b := by
  unfold pf
  by_cases h2 : u = 2
  · simp only [if_pos h2]; omega
  by_cases h3 : u = 3
  · simp only [if_neg h2, if_pos h3]
    have := mStart_lt (a := 12 * (dateRef s).1 + ((dateRef s).2.1 - 1) + a) (b := 12 * (dateRef s).1 + ((dateRef s).2.1 - 1) + b) (by omega)
    omega
  by_cases h4 : u = 4
  · simp only [if_neg h2, if_neg h3, if_pos h4]
    have := dB_lt (a := (dateRef s).1 + a) (b := (dateRef s).1 + b) (by omega)
    omega
  · simp only [if_neg h2, if_neg h3, if_neg h4]; omega
theorem pf_le (u s : Int) {a b : Int} (h : a ≤ b) : pf u s a ≤ pf u s b := by
  rcases Int.lt_or_eq_of_le h with h | h
  · exact Int.le_of_lt (pf_lt u s h)
  · rw [h]; exact Int.le_refl _
theorem pf_start {u s : Int} (hs : 1 ≤ s) : pf u s 0 ≤ s ∧ s < pf u s 1 := by
  have := (per_iff (u := u) (s := s) (n := s) (k := 0) hs).mp (by omega)
  exact this
theorem pf_pos {u s : Int} (hs : 1 ≤ s) : 1 ≤ pf u s 0 := by
  unfold pf
  by_cases h2 : u = 2
  · simp only [if_pos h2]; omega
  obtain ⟨hv, he⟩ := dateRef_okG hs
  have hy : 1 ≤ (dateRef s).1 := hv.1
  have hm : 1 ≤ (dateRef s).2.1 := hv.2.1
  have d1 : dB 1 = 0 := rfl
  by_cases h3 : u = 3
  · simp only [if_neg h2, if_pos h3]
    have := mStart_mono (a := 12) (b := 12 * (dateRef s).1 + ((dateRef s).2.1 - 1) + 0) (by omega)
    have m12 : mStart 12 = 0 := by decide
    omega
  by_cases h4 : u = 4
  · simp only [if_neg h2, if_neg h3, if_pos h4]
    have := dB_mono (y := 1) (z := (dateRef s).1 + 0) (by omega)
    omega
  · simp only [if_neg h2, if_neg h3, if_neg h4]; omega
theorem pf_grow {u s : Int} (hs : 1 ≤ s) (k : Nat) : (k : Int) + 1 ≤ pf u s k := by
  induction k with
  | zero => have := pf_pos (u := u) hs; simpa using this
  | succ k ih =>
    have := pf_lt u s (a := (k : Int)) (b := ((k + 1 : Nat) : Int)) (by omega)
    omega

/-- The numbers from a to b - 1. -/
def ints (a b : Int) : List Int := (List.range (b - a).toNat).map fun i : Nat => a + (i : Int)
theorem ints_nil {a b : Int} (h : b ≤ a) : ints a b = [] := by
  unfold ints
  rw [show (b - a).toNat = 0 from by omega]; rfl
theorem ints_snoc {a b : Int} (h : a ≤ b) : ints a (b + 1) = ints a b ++ [b] := by
  unfold ints
  rw [show (b + 1 - a).toNat = (b - a).toNat + 1 from by omega, List.range_succ, List.map_append]
  simp; omega
theorem mem_ints {a b n : Int} : n ∈ ints a b ↔ a ≤ n ∧ n < b := by
  unfold ints
  simp only [List.mem_map, List.mem_range]
  constructor
  · rintro ⟨i, hi, rfl⟩; omega
  · rintro ⟨h1, h2⟩; exact ⟨(n - a).toNat, by omega, by omega⟩
theorem ints_inc (a b : Int) : (ints a b).Pairwise (· < ·) := by
  unfold ints
  rw [List.pairwise_map]
  exact List.pairwise_lt_range.imp fun h => by omega

def wdIs (y : Dy) (w : Int × Int) : Bool := decide (y.w = w.1) && (if 0 < w.2 then decide ((y.d - 1) / 7 + 1 = w.2) else if w.2 < 0 then decide ((y.l - 1) / 7 + 1 = -w.2) else true)
def fitD (r : Ru) (s y : Dy) : Bool :=
  if r.months ≠ [] ∧ r.months.contains y.m = false then false
  else if r.mdays ≠ [] ∧ r.mdays.contains y.d = false ∧ r.mdays.contains (-y.l) = false then false
  else if r.wds ≠ [] then r.wds.any (wdIs y)
  else if r.mdays ≠ [] then true
  else if r.unit = 2 then decide (y.w = s.w)
  else if r.unit = 3 then decide (y.d = s.d)
  else if r.unit = 4 then decide (y.d = s.d) && (decide (r.months ≠ []) || decide (y.m = s.m))
  else true

def maxD : Int := 3652059
/-- The candidates of the k-th period. -/
def cand (r : Ru) (s : Int) (k : Nat) : List Int := (ints (pf r.unit s k) (min (pf r.unit s (k + 1)) (maxD + 1))).filter fun n => fitD r (dyS s) (dyS n)
def pickFrom (picks : List Int) (len : Nat) : Nat → List Int → List Int
  | _, [] => []
  | i, n :: l => if (picks.contains ((i : Int) + 1) || picks.contains ((i : Int) - len)) = true then n :: pickFrom picks len (i + 1) l else pickFrom picks len (i + 1) l
def pickS (picks l : List Int) : List Int := if picks = [] then l else pickFrom picks l.length 0 l
/-- The days of the k-th period. -/
def gS (r : Ru) (s : Int) (k : Nat) : List Int := if (k : Int) % r.step = 0 then pickS r.picks (cand r s k) else []
/-- The days of the first periods. -/
def preS (r : Ru) (s : Int) : Nat → List Int
  | 0 => []
  | k + 1 => preS r s k ++ gS r s k
theorem bigN_ex : ∃ n : Nat, (n : Int) = 3652060 := ⟨3652060, rfl⟩
noncomputable def bigN : Nat := Classical.choose bigN_ex
theorem bigN_eq : (bigN : Int) = 3652060 := Classical.choose_spec bigN_ex
def lastS (r : Ru) (s : Int) : Int := if 0 < r.til then min (min (s + 20000) maxD) r.til else min (s + 20000) maxD
/-- All days of a rule, its count aside. -/
noncomputable def allS (r : Ru) (s : Int) : List Int := (preS r s bigN).filter fun n => decide (s ≤ n ∧ n ≤ lastS r s)
def mostS (r : Ru) (most : Nat) : Nat := if 0 < r.count then min most r.count.toNat else most
noncomputable def listS (r : Ru) (s : Int) (most : Nat) : List Int := (allS r s).take (mostS r most)

theorem pickFrom_sub (picks : List Int) (len : Nat) : ∀ (i : Nat) (l : List Int), (pickFrom picks len i l).Sublist l
  | _, [] => .slnil
  | i, n :: l => by
    unfold pickFrom
    split
    · exact (pickFrom_sub picks len (i + 1) l).cons_cons n
    · exact (pickFrom_sub picks len (i + 1) l).cons n
theorem pickS_sub (picks l : List Int) : (pickS picks l).Sublist l := by
  unfold pickS
  split
  · exact List.Sublist.refl _
  · exact pickFrom_sub ..
theorem gS_sub (r : Ru) (s : Int) (k : Nat) : (gS r s k).Sublist (ints (pf r.unit s k) (min (pf r.unit s (k + 1)) (maxD + 1))) := by
  unfold gS
  split
  · exact (pickS_sub _ _).trans List.filter_sublist
  · exact List.nil_sublist _
theorem mem_gS {r : Ru} {s : Int} {k : Nat} {n : Int} (h : n ∈ gS r s k) : pf r.unit s k ≤ n ∧ n < pf r.unit s (k + 1) ∧ n ≤ maxD := by
  have := mem_ints.mp ((gS_sub r s k).subset h)
  omega
theorem mem_preS {r : Ru} {s : Int} {n : Int} : ∀ {k : Nat}, n ∈ preS r s k → pf r.unit s 0 ≤ n ∧ n < pf r.unit s k ∧ n ≤ maxD
  | k + 1, h => by
    rcases List.mem_append.mp h with h | h
    · have h1 := mem_preS h
      have h2 := pf_lt r.unit s (a := (k : Int)) (b := ((k + 1 : Nat) : Int)) (by omega)
      omega
    · have h1 := mem_gS h
      have h2 := pf_le r.unit s (a := 0) (b := (k : Int)) (by omega)
      rw [show ((k + 1 : Nat) : Int) = (k : Int) + 1 from by omega]
      omega
theorem preS_inc (r : Ru) (s : Int) : ∀ k : Nat, (preS r s k).Pairwise (· < ·)
  | 0 => .nil
  | k + 1 => by
    rw [preS, List.pairwise_append]
    refine ⟨preS_inc r s k, (ints_inc _ _).sublist (gS_sub r s k), fun a ha b hb => ?_⟩
    have h1 := mem_preS ha
    have h2 := mem_gS hb
    omega
/-- What comes behind the first periods. -/
def sufS (r : Ru) (s : Int) (k j : Nat) : List Int := ((List.range' k j).map (gS r s)).flatten
theorem preS_split (r : Ru) (s : Int) (k : Nat) : ∀ j : Nat, preS r s (k + j) = preS r s k ++ sufS r s k j
  | 0 => by simp [sufS]
  | j + 1 => by
    rw [← Nat.add_assoc, preS, preS_split r s k j, sufS, sufS, List.range'_concat, List.map_append, List.flatten_append, List.append_assoc]
    simp
theorem mem_sufS {r : Ru} {s : Int} {k j : Nat} {n : Int} (h : n ∈ sufS r s k j) : pf r.unit s k ≤ n := by
  unfold sufS at h
  simp only [List.mem_flatten, List.mem_map, List.mem_range'_1] at h
  obtain ⟨_, ⟨i, ⟨h1, _⟩, rfl⟩, h2⟩ := h
  have h3 := mem_gS h2
  have h4 := pf_le r.unit s (a := (k : Int)) (b := (i : Int)) (by omega)
  omega
theorem allS_inc (r : Ru) (s : Int) : (allS r s).Pairwise (· < ·) := (preS_inc r s bigN).sublist List.filter_sublist

end Go.Vm
