/- DtA: Dt1, Dt2, Dt3, Dt4, Dt5. -/
import Derived.Test.YtkmeiandnebaeaaGreatDoorDt0
import Derived.Test.YtkmeiandnebaeaaGreatDoorC0
import Derived.Test.YtkmeiandnebaeaaGreatDoorTab
import Derived.Test.YtkmeiandnebaeaaGreatDoorVmV
/- date: days, months, years: the walks. -/
namespace Go.Vm
open Proofs
set_option maxRecDepth 20000
set_option maxHeartbeats 1000000
set_option linter.unusedSimpArgs false

structure Mo where
  y : Int
  m : Int
  d : Int
  h : Int
  mi : Int
  s : Int
  deriving DecidableEq, Inhabited
def encMo (m : Mo) : D := .agg [.int .i64 m.y, .int .i64 m.m, .int .i64 m.d, .int .i64 m.h, .int .i64 m.mi, .int .i64 m.s]
def encF (f : Int × Int) : D := .agg [.int .i64 f.1, .int .i64 f.2]
@[simp] theorem cells_Mo (m : Mo) : D.cells (encMo m) = [.int .i64 m.y, .int .i64 m.m, .int .i64 m.d, .int .i64 m.h, .int .i64 m.mi, .int .i64 m.s] := rfl
@[simp] theorem fold_Mo (y m d h mi s : Int) : D.agg [.int .i64 y, .int .i64 m, .int .i64 d, .int .i64 h, .int .i64 mi, .int .i64 s] = encMo ⟨y, m, d, h, mi, s⟩ := rfl
@[simp] theorem cells_F (f : Int × Int) : D.cells (encF f) = [.int .i64 f.1, .int .i64 f.2] := rfl
@[simp] theorem fold_F (a b : Int) : D.agg [.int .i64 a, .int .i64 b] = encF (a, b) := rfl
@[simp high] theorem field_F0 (f : Int × Int) : fieldAV tb 27 (.d (encF f)) 0 = some (True, .d (.int .i64 f.1)) := by simp [-fold_F, encF]

theorem leap_V (y : Int) (h0 : 0 ≤ y) (h : List Blk) : CallP Tryz.prog 157 [.d (.int .i64 y)] h (.d (.bool (leapB y))) := by
  refine callW tb_ok fn157 (by simp) (fun hok => ?_)
  by_cases h1 : y % 4 = 0 <;> by_cases h2 : y % 100 = 0 <;> by_cases h3 : y % 400 = 0 <;> simp (disch := first | omega | (simp; done) | (simp; omega)) [ltT, ltF, leT, leF, eqT', eqF, ltTn, leTn, ltFn, leFn, wrapI, tdivP, tmodP, mid, c157, leapB, h1, h2, h3] <;> omega

theorem dim_V (y m : Int) (h0 : 0 ≤ y) (h : List Blk) : CallP Tryz.prog 136 [.d (.int .i64 y), .d (.int .i64 m)] h (.d (.int .i64 (dim y m))) := by
  refine callW tb_ok fn136 (by simp) (fun hok => ?_)
  by_cases h1 : m = 2
  · subst h1
    simp (disch := first | omega | (simp; done) | (simp; omega)) [ltT, ltF, leT, leF, eqT', eqF, ltTn, leTn, ltFn, leFn, wrapI, tdivP, tmodP, mid, c136]
    refine (leap_V y h0 _).useV ?_
    cases hl : leapB y <;> simp (disch := first | omega | (simp; done) | (simp; omega)) [ltT, ltF, leT, leF, eqT', eqF, ltTn, leTn, ltFn, leFn, wrapI, tdivP, tmodP, mid, dim, hl]
  · by_cases h2 : m = 4
    · simp (disch := first | omega | (simp; done) | (simp; omega)) [ltT, ltF, leT, leF, eqT', eqF, ltTn, leTn, ltFn, leFn, wrapI, tdivP, tmodP, mid, c136, dim, h1, h2]
    · by_cases h3 : m = 6
      · simp (disch := first | omega | (simp; done) | (simp; omega)) [ltT, ltF, leT, leF, eqT', eqF, ltTn, leTn, ltFn, leFn, wrapI, tdivP, tmodP, mid, c136, dim, h1, h2, h3]
      · by_cases h4 : m = 9
        · simp (disch := first | omega | (simp; done) | (simp; omega)) [ltT, ltF, leT, leF, eqT', eqF, ltTn, leTn, ltFn, leFn, wrapI, tdivP, tmodP, mid, c136, dim, h1, h2, h3, h4]
        · by_cases h5 : m = 11
          · simp (disch := first | omega | (simp; done) | (simp; omega)) [ltT, ltF, leT, leF, eqT', eqF, ltTn, leTn, ltFn, leFn, wrapI, tdivP, tmodP, mid, c136, dim, h1, h2, h3, h4, h5]
          · simp (disch := first | omega | (simp; done) | (simp; omega)) [ltT, ltF, leT, leF, eqT', eqF, ltTn, leTn, ltFn, leFn, wrapI, tdivP, tmodP, mid, c136, dim, h1, h2, h3, h4, h5]

theorem dB_V (y : Int) (h0 : 1 ≤ y) (h1 : y ≤ 100000) (h : List Blk) : CallP Tryz.prog 158 [.d (.int .i64 y)] h (.d (.int .i64 (dB y))) := by
  refine callW tb_ok fn158 (by simp) (fun hok => ?_)
  simp (disch := first | omega | (simp; done) | (simp; omega)) [ltT, ltF, leT, leF, eqT', eqF, ltTn, leTn, ltFn, leFn, wrapI, tdivP, tmodP, mid, c158, dB]

theorem doy_V (y m d : Int) (h0 : 0 ≤ y) (hm : m ≤ 12) (hd : -1000000 ≤ d) (hd2 : d ≤ 1000000) (h : List Blk) : CallP Tryz.prog 159 [.d (.int .i64 y), .d (.int .i64 m), .d (.int .i64 d)] h (.d (.int .i64 (d + cumM y (m - 1).toNat))) := by
  refine callW tb_ok fn159 (by simp) (fun hok => ?_)
  simp (disch := first | omega | (simp; done) | (simp; omega)) [ltT, ltF, leT, leF, eqT', eqF, ltTn, leTn, ltFn, leFn, wrapI, tdivP, tmodP, mid, c159]
  refine W_loopA (ι := Nat) (fun k => k ≤ (m - 1).toNat) (fun k => ⟨[(0, .d (.int .i64 y)), (1, .d (.int .i64 m)), (2, .d (.int .i64 (d + cumM y k))), (7, .d (.int .i64 ((k : Int) + 1)))], h⟩) (fun k => (m - 1).toNat - k) 0 (by simp) (Shift.slots' rfl (by simp [cumM])) ?_
  rintro k hk A hA
  have hb := cumM_bnd y k (by omega)
  have hdm := dim_le y ((k : Int) + 1)
  by_cases h1 : k = (m - 1).toNat
  · subst h1
    simp (disch := first | omega | (simp; done) | (simp; omega)) [ltT, ltF, leT, leF, eqT', eqF, ltTn, leTn, ltFn, leFn, wrapI, tdivP, tmodP, mid]
  · simp (disch := first | omega | (simp; done) | (simp; omega)) [ltT, ltF, leT, leF, eqT', eqF, ltTn, leTn, ltFn, leFn, wrapI, tdivP, tmodP, mid]
    refine (dim_V y _ h0 _).useV ?_
    simp (disch := first | omega | (simp; done) | (simp; omega)) [ltT, ltF, leT, leF, eqT', eqF, ltTn, leTn, ltFn, leFn, wrapI, tdivP, tmodP, mid]
    exact hA (k + 1) _ (by omega) (by omega) (Shift.slots' rfl (by simp [cumM, Int.add_assoc]))

end Go.Vm

/- date: the package's own functions over days and months. -/
namespace Go.Vm
open Proofs
set_option maxRecDepth 20000
set_option maxHeartbeats 1000000
set_option linter.unusedSimpArgs false

def Mo.ok (m : Mo) : Prop := validD m.y m.m m.d ∧ (0 ≤ m.h ∧ m.h ≤ 23) ∧ (0 ≤ m.mi ∧ m.mi ≤ 59) ∧ (0 ≤ m.s ∧ m.s ≤ 59)
def momF (m : Mo) : Int × Int :=
  if m.y < 1 ∨ 9999 < m.y then (4, 0) else if m.m < 1 ∨ 12 < m.m then (4, 1) else if m.d < 1 ∨ dim m.y m.m < m.d then (4, 2)
  else if m.h < 0 ∨ 23 < m.h then (4, 3) else if m.mi < 0 ∨ 59 < m.mi then (4, 4) else if m.s < 0 ∨ 59 < m.s then (4, 5) else (0, 0)
theorem momF_ok {m : Mo} (h : ¬ (momF m).1 ≠ 0) : momF m = (0, 0) ∧ m.ok := by
  unfold momF at h ⊢
  by_cases h1 : m.y < 1 ∨ 9999 < m.y
  · rw [if_pos h1] at h; simp at h
  rw [if_neg h1] at h ⊢
  by_cases h2 : m.m < 1 ∨ 12 < m.m
  · rw [if_pos h2] at h; simp at h
  rw [if_neg h2] at h ⊢
  by_cases h3 : m.d < 1 ∨ dim m.y m.m < m.d
  · rw [if_pos h3] at h; simp at h
  rw [if_neg h3] at h ⊢
  by_cases h4 : m.h < 0 ∨ 23 < m.h
  · rw [if_pos h4] at h; simp at h
  rw [if_neg h4] at h ⊢
  by_cases h5 : m.mi < 0 ∨ 59 < m.mi
  · rw [if_pos h5] at h; simp at h
  rw [if_neg h5] at h ⊢
  by_cases h6 : m.s < 0 ∨ 59 < m.s
  · rw [if_pos h6] at h; simp at h
  rw [if_neg h6]
  exact ⟨rfl, ⟨by omega, by omega, by omega, by omega, by omega, by omega⟩, by omega, by omega, by omega⟩
theorem momF_zero {m : Mo} (h : m.ok) : momF m = (0, 0) := by
  obtain ⟨⟨h1, h2, h3, h4, h5, h6⟩, h7, h8, h9⟩ := h
  unfold momF
  rw [if_neg (by omega), if_neg (by omega), if_neg (by omega), if_neg (by omega), if_neg (by omega), if_neg (by omega)]

def Mo.day (m : Mo) : Int := dayOf m.y m.m m.d
def Mo.secs (m : Mo) : Int := (m.day - 1) * 86400 + ((m.h * 60 + m.mi) * 60 + m.s)

theorem Mo.day_range {m : Mo} (h : m.ok) : 1 ≤ m.day ∧ m.day ≤ 3652059 := dayOf_range h.1

theorem dayNumber_V (m : Mo) (hm : m.ok) (h : List Blk) : CallP Tryz.prog 137 [.d (encMo m)] h (.d (.int .i64 m.day)) := by
  refine callW tb_ok fn137 (by simp) (fun hok => ?_)
  obtain ⟨⟨h1, h2, h3, h4, h5, h6⟩, _⟩ := hm
  have hb := cumM_bnd m.y (m.m - 1).toNat (by omega)
  have hdm := dim_le m.y m.m
  simp (disch := first | omega | (simp; done) | (simp; omega)) [ltT, ltF, leT, leF, eqT', eqF, ltTn, leTn, ltFn, leFn, wrapI, tdivP, tmodP, mid, c137]
  refine regV_all ?_
  simp (disch := first | omega | (simp; done) | (simp; omega)) [ltT, ltF, leT, leF, eqT', eqF, ltTn, leTn, ltFn, leFn, wrapI, tdivP, tmodP, mid]
  refine (dB_V m.y h1 (by omega) _).useV ?_
  simp (disch := first | omega | (simp; done) | (simp; omega)) [ltT, ltF, leT, leF, eqT', eqF, ltTn, leTn, ltFn, leFn, wrapI, tdivP, tmodP, mid]
  refine (doy_V m.y m.m m.d (by omega) h4 (by omega) (by omega) _).useV ?_
  have hd : dB m.y = 365 * (m.y - 1) + (m.y - 1) / 4 - (m.y - 1) / 100 + (m.y - 1) / 400 := rfl
  simp (disch := first | omega | (simp; done) | (simp; omega)) [ltT, ltF, leT, leF, eqT', eqF, ltTn, leTn, ltFn, leFn, wrapI, tdivP, tmodP, mid, -Int.pred_toNat, Mo.day, dayOf]
  exact rshift_d hok

theorem number_V (m : Mo) (hm : m.ok) (h : List Blk) : CallP Tryz.prog 118 [.d (encMo m)] h (.d (.int .i64 m.secs)) := by
  refine callW tb_ok fn118 (by simp) (fun hok => ?_)
  have hr := Mo.day_range hm
  obtain ⟨⟨h1, h2, h3, h4, h5, h6⟩, h7, h8, h9⟩ := id hm
  simp (disch := first | omega | (simp; done) | (simp; omega)) [ltT, ltF, leT, leF, eqT', eqF, ltTn, leTn, ltFn, leFn, wrapI, tdivP, tmodP, mid, c118]
  refine regV_all ?_
  simp (disch := first | omega | (simp; done) | (simp; omega)) [ltT, ltF, leT, leF, eqT', eqF, ltTn, leTn, ltFn, leFn, wrapI, tdivP, tmodP, mid]
  refine (dayNumber_V m hm _).useV ?_
  simp (disch := first | omega | (simp; done) | (simp; omega)) [ltT, ltF, leT, leF, eqT', eqF, ltTn, leTn, ltFn, leFn, wrapI, tdivP, tmodP, mid, Mo.secs]
  rw [Int.add_assoc]
  exact rshift_d hok

/-- The Monday of the first week of a year. -/
def fm (y : Int) : Int := dB y + 4 - (dB y + 3) % 7
theorem dB_nonneg {y : Int} (h : 1 ≤ y) : 0 ≤ dB y := by have := dB_mono h; have : dB 1 = 0 := rfl; omega
theorem dB_le {y : Int} (h : y ≤ 100000) : dB y ≤ 36600000 := by have := dB_mono h; have : dB 100000 = 36523884 := rfl; omega
/-- The year and the number of the week of a day of a year. -/
def weekS (y day : Int) : Int × Int :=
  let z := if day < fm y then y - 1 else if fm (y + 1) ≤ day then y + 1 else y
  (z, (day - fm z) / 7 + 1)

theorem fm_bnd (y : Int) : dB y - 2 ≤ fm y ∧ fm y ≤ dB y + 4 := by unfold fm; omega
theorem fm_one : fm 1 = 1 := rfl

end Go.Vm

/- date: check, fromDay, at, addMonths. -/
namespace Go.Vm
open Proofs
set_option maxRecDepth 20000
set_option maxHeartbeats 1000000
set_option linter.unusedSimpArgs false

/-- The first fields are in their ranges. -/
def goodTo (m : Mo) (i : Nat) : Prop := (1 ≤ i → 1 ≤ m.y ∧ m.y ≤ 9999) ∧ (2 ≤ i → 1 ≤ m.m ∧ m.m ≤ 12) ∧ (3 ≤ i → 1 ≤ m.d ∧ m.d ≤ dim m.y m.m) ∧ (4 ≤ i → 0 ≤ m.h ∧ m.h ≤ 23) ∧ (5 ≤ i → 0 ≤ m.mi ∧ m.mi ≤ 59) ∧ (6 ≤ i → 0 ≤ m.s ∧ m.s ≤ 59)

theorem check_V (m : Mo) (h : List Blk) : CallP Tryz.prog 117 [.d (encMo m)] h (.d (encF (momF m))) := by
  refine callW tb_ok fn117 (by simp) (fun hok => ?_)
  have hdl := dim_le m.y m.m
  obtain ⟨arr, harr⟩ : ∃ arr : D, arr = .agg [.int .i64 m.y, .int .i64 1, .int .i64 9999, .int .i64 m.m, .int .i64 1, .int .i64 12, .int .i64 m.d, .int .i64 1, .int .i64 31, .int .i64 m.h, .int .i64 0, .int .i64 23, .int .i64 m.mi, .int .i64 0, .int .i64 59, .int .i64 m.s, .int .i64 0, .int .i64 59] := ⟨_, rfl⟩
  have hH : ∀ (x : D), x = encF (0, 0) → HOk (h ++ [.cells 99 [.d (encMo m)], .cells 27 [.d x], .cells 164 [.d arr]]) := by
    intro x hx
    refine hok.append ?_
    intro z hz
    simp only [List.mem_cons, List.not_mem_nil, or_false] at hz
    rcases hz with rfl | rfl | rfl
    · exact bel_cellsD _ _ _
    · exact bel_cellsD _ _ _
    · exact bel_cellsD _ _ _
  simp (disch := first | omega | (simp; done) | (simp; omega)) [ltT, ltF, leT, leF, eqT', eqF, ltTn, leTn, ltFn, leFn, wrapI, tdivP, tmodP, mid, c117, ← harr]
  refine ⟨by subst harr; simp, ?_⟩
  refine W_loopA (ι := Nat) (fun i => i ≤ 6 ∧ goodTo m i) (fun i => ⟨[(1, .ptr h.length 99 0 0), (2, .ptr (h.length + 1) 27 0 0), (25, .d arr), (26, .d (.int .i64 i))], h ++ [.cells 99 [.d (encMo m)], .cells 27 [.d (encF (0, 0))], .cells 164 [.d arr]]⟩) (fun i => 6 - i) 0
    ⟨by omega, by unfold goodTo; omega⟩ (Shift.slots' (by simp [← harr]) (by simp; subst harr; simp)) ?_
  rintro i ⟨hi, hg⟩ A hA
  have hgo := hg
  obtain ⟨g1, g2, g3, g4, g5, g6⟩ := hg
  rcases Nat.lt_or_ge 5 i with h6 | h6
  · have : i = 6 := by omega
    subst this
    have : momF m = (0, 0) := by
      unfold momF
      rw [if_neg (by omega), if_neg (by omega), if_neg (by omega), if_neg (by omega), if_neg (by omega), if_neg (by omega)]
    rw [this]
    simp (disch := first | omega | (simp; done) | (simp; omega)) [ltT, ltF, leT, leF, eqT', eqF, ltTn, leTn, ltFn, leFn, wrapI, tdivP, tmodP, mid]
    exact rshift_d hok
  have hcases : i = 0 ∨ i = 1 ∨ i = 2 ∨ i = 3 ∨ i = 4 ∨ i = 5 := by omega
  rcases hcases with rfl | rfl | rfl | rfl | rfl | rfl
  · -- field 0
    have step : ¬ (m.y < 1 ∨ 9999 < m.y) → goodTo m 1 := by intro hb; unfold goodTo at hgo ⊢; omega
    have bad : (m.y < 1 ∨ 9999 < m.y) → momF m = (4, 0) := by intro hb; unfold momF; rw [if_pos (by omega)]
    subst harr
    simp (disch := first | omega | (simp; done) | (simp; omega)) [ltT, ltF, leT, leF, eqT', eqF, ltTn, leTn, ltFn, leFn, wrapI, tdivP, tmodP, mid]
    by_cases b1 : m.y < 1
    · rw [bad (.inl b1)]
      simp (disch := first | omega | (simp; done) | (simp; omega)) [ltT, ltF, leT, leF, eqT', eqF, ltTn, leTn, ltFn, leFn, wrapI, tdivP, tmodP, mid, b1]
      exact rshift_d hok
    · by_cases b2 : 9999 < m.y
      · rw [bad (.inr b2)]
        simp (disch := first | omega | (simp; done) | (simp; omega)) [ltT, ltF, leT, leF, eqT', eqF, ltTn, leTn, ltFn, leFn, wrapI, tdivP, tmodP, mid, b1, b2]
        exact rshift_d hok
      · simp (disch := first | omega | (simp; done) | (simp; omega)) [ltT, ltF, leT, leF, eqT', eqF, ltTn, leTn, ltFn, leFn, wrapI, tdivP, tmodP, mid, b1, b2]
        exact hA 1 _ ⟨by omega, step (by omega)⟩ (by omega) (Shift.weak' (g := [.cells 163 [.d (.agg [.int .i64 m.y, .int .i64 1, .int .i64 (9999)])]]) (by simp) (hH _ rfl) (by simp) (by simp))
  · -- field 1
    have step : ¬ (m.m < 1 ∨ 12 < m.m) → goodTo m 2 := by intro hb; unfold goodTo at hgo ⊢; omega
    have bad : (m.m < 1 ∨ 12 < m.m) → momF m = (4, 1) := by intro hb; unfold momF; rw [if_neg (by omega), if_pos (by omega)]
    subst harr
    simp (disch := first | omega | (simp; done) | (simp; omega)) [ltT, ltF, leT, leF, eqT', eqF, ltTn, leTn, ltFn, leFn, wrapI, tdivP, tmodP, mid]
    by_cases b1 : m.m < 1
    · rw [bad (.inl b1)]
      simp (disch := first | omega | (simp; done) | (simp; omega)) [ltT, ltF, leT, leF, eqT', eqF, ltTn, leTn, ltFn, leFn, wrapI, tdivP, tmodP, mid, b1]
      exact rshift_d hok
    · by_cases b2 : 12 < m.m
      · rw [bad (.inr b2)]
        simp (disch := first | omega | (simp; done) | (simp; omega)) [ltT, ltF, leT, leF, eqT', eqF, ltTn, leTn, ltFn, leFn, wrapI, tdivP, tmodP, mid, b1, b2]
        exact rshift_d hok
      · simp (disch := first | omega | (simp; done) | (simp; omega)) [ltT, ltF, leT, leF, eqT', eqF, ltTn, leTn, ltFn, leFn, wrapI, tdivP, tmodP, mid, b1, b2]
        exact hA 2 _ ⟨by omega, step (by omega)⟩ (by omega) (Shift.weak' (g := [.cells 163 [.d (.agg [.int .i64 m.m, .int .i64 1, .int .i64 (12)])]]) (by simp) (hH _ rfl) (by simp) (by simp))
  · -- field 2
    have step : ¬ (m.d < 1 ∨ dim m.y m.m < m.d) → goodTo m 3 := by intro hb; unfold goodTo at hgo ⊢; omega
    have bad : (m.d < 1 ∨ dim m.y m.m < m.d) → momF m = (4, 2) := by intro hb; unfold momF; rw [if_neg (by omega), if_neg (by omega), if_pos (by omega)]
    subst harr
    simp (disch := first | omega | (simp; done) | (simp; omega)) [ltT, ltF, leT, leF, eqT', eqF, ltTn, leTn, ltFn, leFn, wrapI, tdivP, tmodP, mid]
    refine (dim_V m.y m.m (by omega) _).useV ?_
    simp (disch := first | omega | (simp; done) | (simp; omega)) [ltT, ltF, leT, leF, eqT', eqF, ltTn, leTn, ltFn, leFn, wrapI, tdivP, tmodP, mid]
    by_cases b1 : m.d < 1
    · rw [bad (.inl b1)]
      simp (disch := first | omega | (simp; done) | (simp; omega)) [ltT, ltF, leT, leF, eqT', eqF, ltTn, leTn, ltFn, leFn, wrapI, tdivP, tmodP, mid, b1]
      exact rshift_d hok
    · by_cases b2 : dim m.y m.m < m.d
      · rw [bad (.inr b2)]
        simp (disch := first | omega | (simp; done) | (simp; omega)) [ltT, ltF, leT, leF, eqT', eqF, ltTn, leTn, ltFn, leFn, wrapI, tdivP, tmodP, mid, b1, b2]
        exact rshift_d hok
      · simp (disch := first | omega | (simp; done) | (simp; omega)) [ltT, ltF, leT, leF, eqT', eqF, ltTn, leTn, ltFn, leFn, wrapI, tdivP, tmodP, mid, b1, b2]
        exact hA 3 _ ⟨by omega, step (by omega)⟩ (by omega) (Shift.weak' (g := [.cells 163 [.d (.agg [.int .i64 m.d, .int .i64 1, .int .i64 (dim m.y m.m)])]]) (by simp) (hH _ rfl) (by simp) (by simp))
  · -- field 3
    have step : ¬ (m.h < 0 ∨ 23 < m.h) → goodTo m 4 := by intro hb; unfold goodTo at hgo ⊢; omega
    have bad : (m.h < 0 ∨ 23 < m.h) → momF m = (4, 3) := by intro hb; unfold momF; rw [if_neg (by omega), if_neg (by omega), if_neg (by omega), if_pos (by omega)]
    subst harr
    simp (disch := first | omega | (simp; done) | (simp; omega)) [ltT, ltF, leT, leF, eqT', eqF, ltTn, leTn, ltFn, leFn, wrapI, tdivP, tmodP, mid]
    by_cases b1 : m.h < 0
    · rw [bad (.inl b1)]
      simp (disch := first | omega | (simp; done) | (simp; omega)) [ltT, ltF, leT, leF, eqT', eqF, ltTn, leTn, ltFn, leFn, wrapI, tdivP, tmodP, mid, b1]
      exact rshift_d hok
    · by_cases b2 : 23 < m.h
      · rw [bad (.inr b2)]
        simp (disch := first | omega | (simp; done) | (simp; omega)) [ltT, ltF, leT, leF, eqT', eqF, ltTn, leTn, ltFn, leFn, wrapI, tdivP, tmodP, mid, b1, b2]
        exact rshift_d hok
      · simp (disch := first | omega | (simp; done) | (simp; omega)) [ltT, ltF, leT, leF, eqT', eqF, ltTn, leTn, ltFn, leFn, wrapI, tdivP, tmodP, mid, b1, b2]
        exact hA 4 _ ⟨by omega, step (by omega)⟩ (by omega) (Shift.weak' (g := [.cells 163 [.d (.agg [.int .i64 m.h, .int .i64 0, .int .i64 (23)])]]) (by simp) (hH _ rfl) (by simp) (by simp))
  · -- field 4
    have step : ¬ (m.mi < 0 ∨ 59 < m.mi) → goodTo m 5 := by intro hb; unfold goodTo at hgo ⊢; omega
    have bad : (m.mi < 0 ∨ 59 < m.mi) → momF m = (4, 4) := by intro hb; unfold momF; rw [if_neg (by omega), if_neg (by omega), if_neg (by omega), if_neg (by omega), if_pos (by omega)]
    subst harr
    simp (disch := first | omega | (simp; done) | (simp; omega)) [ltT, ltF, leT, leF, eqT', eqF, ltTn, leTn, ltFn, leFn, wrapI, tdivP, tmodP, mid]
    by_cases b1 : m.mi < 0
    · rw [bad (.inl b1)]
      simp (disch := first | omega | (simp; done) | (simp; omega)) [ltT, ltF, leT, leF, eqT', eqF, ltTn, leTn, ltFn, leFn, wrapI, tdivP, tmodP, mid, b1]
      exact rshift_d hok
    · by_cases b2 : 59 < m.mi
      · rw [bad (.inr b2)]
        simp (disch := first | omega | (simp; done) | (simp; omega)) [ltT, ltF, leT, leF, eqT', eqF, ltTn, leTn, ltFn, leFn, wrapI, tdivP, tmodP, mid, b1, b2]
        exact rshift_d hok
      · simp (disch := first | omega | (simp; done) | (simp; omega)) [ltT, ltF, leT, leF, eqT', eqF, ltTn, leTn, ltFn, leFn, wrapI, tdivP, tmodP, mid, b1, b2]
        exact hA 5 _ ⟨by omega, step (by omega)⟩ (by omega) (Shift.weak' (g := [.cells 163 [.d (.agg [.int .i64 m.mi, .int .i64 0, .int .i64 (59)])]]) (by simp) (hH _ rfl) (by simp) (by simp))
  · -- field 5
    have step : ¬ (m.s < 0 ∨ 59 < m.s) → goodTo m 6 := by intro hb; unfold goodTo at hgo ⊢; omega
    have bad : (m.s < 0 ∨ 59 < m.s) → momF m = (4, 5) := by intro hb; unfold momF; rw [if_neg (by omega), if_neg (by omega), if_neg (by omega), if_neg (by omega), if_neg (by omega), if_pos (by omega)]
    subst harr
    simp (disch := first | omega | (simp; done) | (simp; omega)) [ltT, ltF, leT, leF, eqT', eqF, ltTn, leTn, ltFn, leFn, wrapI, tdivP, tmodP, mid]
    by_cases b1 : m.s < 0
    · rw [bad (.inl b1)]
      simp (disch := first | omega | (simp; done) | (simp; omega)) [ltT, ltF, leT, leF, eqT', eqF, ltTn, leTn, ltFn, leFn, wrapI, tdivP, tmodP, mid, b1]
      exact rshift_d hok
    · by_cases b2 : 59 < m.s
      · rw [bad (.inr b2)]
        simp (disch := first | omega | (simp; done) | (simp; omega)) [ltT, ltF, leT, leF, eqT', eqF, ltTn, leTn, ltFn, leFn, wrapI, tdivP, tmodP, mid, b1, b2]
        exact rshift_d hok
      · simp (disch := first | omega | (simp; done) | (simp; omega)) [ltT, ltF, leT, leF, eqT', eqF, ltTn, leTn, ltFn, leFn, wrapI, tdivP, tmodP, mid, b1, b2]
        exact hA 6 _ ⟨by omega, step (by omega)⟩ (by omega) (Shift.weak' (g := [.cells 163 [.d (.agg [.int .i64 m.s, .int .i64 0, .int .i64 (59)])]]) (by simp) (hH _ rfl) (by simp) (by simp))

end Go.Vm

/- date: fromDay, at, addMonths. -/
namespace Go.Vm
open Proofs
set_option maxRecDepth 20000
set_option maxHeartbeats 1000000
set_option linter.unusedSimpArgs false

def frD (n : Int) : Mo := ⟨(dateRef n).1, (dateRef n).2.1, (dateRef n).2.2, 0, 0, 0⟩
def frS (n : Int) : Mo := ⟨(dateRef (n / 86400 + 1)).1, (dateRef (n / 86400 + 1)).2.1, (dateRef (n / 86400 + 1)).2.2, n % 86400 / 3600, n % 86400 / 60 % 60, n % 86400 % 60⟩
def mo0 : Mo := ⟨0, 0, 0, 0, 0, 0⟩
theorem encMo0 : encMo mo0 = .agg [.int .i64 0, .int .i64 0, .int .i64 0, .int .i64 0, .int .i64 0, .int .i64 0] := rfl

theorem fromDay_V (n : Int) (h1 : 1 ≤ n) (h2 : n ≤ 3652059) (h : List Blk) : CallP Tryz.prog 156 [.d (.int .i64 n)] h (.d (encMo (frD n))) := by
  refine callW tb_ok fn156 (by simp) (fun hok => ?_)
  obtain ⟨hv, hd⟩ := dateRef_ok h1 h2
  obtain ⟨Y, hY⟩ : ∃ Y, (dateRef n).1 = Y := ⟨_, rfl⟩
  obtain ⟨M, hM⟩ : ∃ M, (dateRef n).2.1 = M := ⟨_, rfl⟩
  obtain ⟨Dd, hD⟩ : ∃ Dd, (dateRef n).2.2 = Dd := ⟨_, rfl⟩
  unfold frD
  rw [hY, hM, hD] at hv hd
  rw [hY, hM, hD]
  have hb := dayOf_bnd hv.g
  obtain ⟨v1, v2, v3, v4, v5, v6⟩ := hv
  have v7 := dim_le Y M
  have hH : ∀ (x : Mo), HOk (h ++ [.cells 99 [.d (encMo x)]]) := by
    intro x
    refine hok.append ?_
    intro z hz
    rw [List.mem_singleton] at hz
    subst hz
    exact bel_cellsD _ _ _
  simp (disch := first | omega | (simp; done) | (simp; omega)) [ltT, ltF, leT, leF, eqT', eqF, ltTn, leTn, ltFn, leFn, wrapI, tdivP, tmodP, mid, c156]
  refine W_loopA (ι := Int) (fun y => 1 ≤ y ∧ y ≤ Y) (fun y => ⟨[(0, .d (.int .i64 n)), (2, .ptr h.length 99 0 0), (3, .d (.int .i64 y))], h ++ [.cells 99 [.d (encMo mo0)]]⟩) (fun y => (Y - y).toNat) (n / 366 + 1)
    ⟨by omega, ?_⟩ (Shift.slots' (by simp [encMo0, mo0]) (by simp)) ?_
  · rcases Int.lt_or_le Y (n / 366 + 1) with h3 | h3
    · have := dB_mono (y := Y + 1) (z := n / 366 + 1) (by omega)
      have e : dB (n / 366 + 1) = 365 * (n / 366) + n / 366 / 4 - n / 366 / 100 + n / 366 / 400 := by unfold dB; rw [Int.add_sub_cancel]
      omega
    · exact h3
  rintro y ⟨y1, y2⟩ A hA
  simp (disch := first | omega | (simp; done) | (simp; omega)) [ltT, ltF, leT, leF, eqT', eqF, ltTn, leTn, ltFn, leFn, wrapI, tdivP, tmodP, mid]
  refine (dB_V (y + 1) (by omega) (by omega) _).useV ?_
  rcases Int.lt_or_le y Y with h3 | h3
  · have hlt : dB (y + 1) < n := by have := dB_mono (y := y + 1) (z := Y) (by omega); omega
    simp (disch := first | omega | (simp; done) | (simp; omega)) [ltT, ltF, leT, leF, eqT', eqF, ltTn, leTn, ltFn, leFn, wrapI, tdivP, tmodP, mid]
    exact hA (y + 1) _ ⟨by omega, by omega⟩ (by omega) (Shift.slots' rfl (by simp))
  · have : y = Y := by omega
    subst this
    clear hA
    have hge : n ≤ dB (y + 1) := by omega
    have c0 := dB_nonneg y1
    have c1 := dB_le (y := y) (by omega)
    have hm2 := cumM_bnd y (M - 1).toNat (by omega)
    simp only [dayOf] at hd hb
    simp (disch := first | omega | (simp; done) | (simp; omega)) [ltT, ltF, leT, leF, eqT', eqF, ltTn, leTn, ltFn, leFn, wrapI, tdivP, tmodP, mid]
    refine (dB_V y (by omega) (by omega) _).useV ?_
    simp (disch := first | omega | (simp; done) | (simp; omega)) [ltT, ltF, leT, leF, eqT', eqF, ltTn, leTn, ltFn, leFn, wrapI, tdivP, tmodP, mid]
    refine W_loopA (ι := Nat) (fun k => (k : Int) + 1 ≤ M) (fun k => ⟨[(0, .d (.int .i64 n)), (2, .ptr h.length 99 0 0), (3, .d (.int .i64 y)), (4, .d (.int .i64 (n - dB y - cumM y k))), (5, .d (.int .i64 ((k : Int) + 1)))], h ++ [.cells 99 [.d (encMo mo0)]]⟩) (fun k => M.toNat - k) 0
      (by omega) (Shift.slots' rfl (by simp [cumM])) ?_
    rintro k hk A hA
    have hkb := cumM_bnd y k (by omega)
    have hkd := dim_le y ((k : Int) + 1)
    simp (disch := first | omega | (simp; done) | (simp; omega)) [ltT, ltF, leT, leF, eqT', eqF, ltTn, leTn, ltFn, leFn, wrapI, tdivP, tmodP, mid]
    refine (dim_V y _ (by omega) _).useV ?_
    by_cases hkm : (k : Int) + 1 = M
    · have e1 : (M - 1).toNat = k := by omega
      rw [e1] at hd
      have hle : n - dB y - cumM y k ≤ dim y ((k : Int) + 1) := by rw [hkm]; omega
      have e2 : n - dB y - cumM y k = Dd := by omega
      simp (disch := first | omega | (simp; done) | (simp; omega)) [ltT, ltF, leT, leF, eqT', eqF, ltTn, leTn, ltFn, leFn, wrapI, tdivP, tmodP, mid]
      rw [e2, hkm]
      exact rshift_d hok
    · have hmono := cumM_mono y (a := k + 1) (b := (M - 1).toNat) (by omega)
      have e3 : cumM y (k + 1) = cumM y k + dim y ((k : Int) + 1) := rfl
      have e4 : n - dB y - cumM y (k + 1) = n - dB y - cumM y k - dim y ((k : Int) + 1) := by omega
      have hgt : dim y ((k : Int) + 1) < n - dB y - cumM y k := by omega
      simp (disch := first | omega | (simp; done) | (simp; omega)) [ltT, ltF, leT, leF, eqT', eqF, ltTn, leTn, ltFn, leFn, wrapI, tdivP, tmodP, mid]
      refine (dim_V y _ (by omega) _).useV ?_
      simp (disch := first | omega | (simp; done) | (simp; omega)) [ltT, ltF, leT, leF, eqT', eqF, ltTn, leTn, ltFn, leFn, wrapI, tdivP, tmodP, mid]
      exact hA (k + 1) _ (by omega) (by omega) (Shift.slots' rfl (by simp [e4]))

theorem at_V' (n : Int) (h1 : 0 ≤ n) (h2 : n ≤ 315537897599) (h : List Blk) : CallP Tryz.prog 135 [.d (.int .i64 n)] h (.d (encMo (frS n))) := by
  refine callW tb_ok fn135 (by simp) (fun hok => ?_)
  simp (disch := first | omega | (simp; done) | (simp; omega)) [ltT, ltF, leT, leF, eqT', eqF, ltTn, leTn, ltFn, leFn, wrapI, tdivP, tmodP, mid, c135]
  refine (fromDay_V (n / 86400 + 1) (by omega) (by omega) _).useV ?_
  simp (disch := first | omega | (simp; done) | (simp; omega)) [ltT, ltF, leT, leF, eqT', eqF, ltTn, leTn, ltFn, leFn, wrapI, tdivP, tmodP, mid, frD, frS]
  exact rshift_d hok

def addS (m : Mo) (n : Int) : Option Mo :=
  let k := 12 * m.y + m.m - 1 + n
  if k < 12 ∨ 120000 ≤ k then none else some ⟨k / 12, k % 12 + 1, min m.d (dim (k / 12) (k % 12 + 1)), m.h, m.mi, m.s⟩

end Go.Vm

/- date: weeks and months: plain arithmetic. -/
namespace Go.Vm
set_option maxHeartbeats 4000000
set_option linter.unusedSimpArgs false

/-- The year and number of the week of a day, by its Thursday. -/
def weekR (day : Int) : Int × Int :=
  let th := day - (day + 6) % 7 + 3
  let y := (dateRef th).1
  (y, (th - dayOf y 1 1) / 7 + 1)

theorem dayOf_first (y : Int) : dayOf y 1 1 = dB y + 1 := by simp [dayOf, cumM]

/-- The year of a day. -/
theorem year_of {day y : Int} (h0 : 1 ≤ day) (h1 : dB y < day) (h2 : day ≤ dB (y + 1)) : (dateRef day).1 = y := by
  obtain ⟨hv, hd⟩ := dateRef_okG h0
  have hb := dayOf_bnd hv
  rw [hd] at hb
  rcases Int.lt_trichotomy (dateRef day).1 y with h | h | h
  · have := dB_mono (y := (dateRef day).1 + 1) (z := y) (by omega); omega
  · exact h
  · have := dB_mono (y := y + 1) (z := (dateRef day).1) (by omega); omega

theorem fm_week {z day : Int} : (fm z ≤ day ↔ dB z < day - (day + 6) % 7 + 3) ∧ (fm z ≤ day → (day - fm z) / 7 + 1 = (day - (day + 6) % 7 + 3 - (dB z + 1)) / 7 + 1) := by
  unfold fm
  generalize dB z = b
  constructor
  · constructor <;> intro h <;> omega
  · intro h; omega

theorem weekR_weekS {m : Mo} (hm : m.ok) : weekR m.day = weekS m.y m.day := by
  have hr := Mo.day_range hm
  have hb : dB m.y < m.day ∧ m.day ≤ dB (m.y + 1) := dayOf_bnd hm.1.g
  have h1 := hm.1.1
  have f0 := fm_bnd m.y
  have f1 := fm_bnd (m.y + 1)
  have f2 := fm_bnd (m.y - 1)
  have f3 := fm_bnd (m.y + 1 + 1)
  have hs := dB_succ (m.y - 1)
  have hn := leapN_le (m.y - 1)
  have hs1 := dB_succ m.y
  have hn1 := leapN_le m.y
  have hs2 := dB_succ (m.y + 1)
  have hn2 := leapN_le (m.y + 1)
  rw [Int.sub_add_cancel] at hs
  have key : ∀ z, fm z ≤ m.day → m.day < fm (z + 1) → weekR m.day = (z, (m.day - fm z) / 7 + 1) := by
    intro z a b
    have g0 := (fm_week (z := z) (day := m.day)).1.mp a
    have g1 : ¬ dB (z + 1) < m.day - (m.day + 6) % 7 + 3 := fun h => by have := (fm_week (z := z + 1) (day := m.day)).1.mpr h; omega
    have hy := year_of (day := m.day - (m.day + 6) % 7 + 3) (y := z) (by omega) g0 (by omega)
    unfold weekR
    simp only [hy, dayOf_first]
    rw [(fm_week (z := z) (day := m.day)).2 a]
  unfold weekS
  by_cases a1 : m.day < fm m.y
  · have e : m.y - 1 + 1 = m.y := by omega
    simp only [if_pos a1]
    exact key (m.y - 1) (by omega) (by rw [e]; exact a1)
  · by_cases a2 : fm (m.y + 1) ≤ m.day
    · simp only [if_neg a1, if_pos a2]
      exact key (m.y + 1) a2 (by omega)
    · simp only [if_neg a1, if_neg a2]
      exact key m.y (by omega) (by omega)

/-- How many weeks a year has. -/
def weeksR (y : Int) : Int := if dB y % 7 = 3 ∨ (dB y % 7 = 2 ∧ dim y 2 = 29) then 53 else 52
theorem weeks_eq (y : Int) : (fm (y + 1) - fm y) / 7 = weeksR y := by
  have hs := dB_succ y
  have hl := leapN_le y
  have hd : dim y 2 = 28 + leapN y := by rw [dim_eq]; simp
  unfold weeksR fm
  rw [hd, hs]
  generalize dB y = b at *
  generalize leapN y = l at *
  split <;> omega

/-- Months, counted on. -/
def mStart (k : Int) : Int := dB (k / 12) + cumM (k / 12) (k % 12).toNat
theorem mStart_succ (k : Int) : mStart (k + 1) = mStart k + dim (k / 12) (k % 12 + 1) := by
  unfold mStart
  by_cases h : k % 12 = 11
  · have e1 : (k + 1) / 12 = k / 12 + 1 := by omega
    have e2 : (k + 1) % 12 = 0 := by omega
    have c := cumM_num (k / 12)
    have hs := dB_succ (k / 12)
    have e3 : ((0 : Int)).toNat = 0 := rfl
    have e4 : ((11 : Int)).toNat = 11 := rfl
    have h31 : dim (k / 12) (11 + 1) = 31 := by rw [dim_eq]; simp
    rw [e1, e2, h, e3, e4, h31]
    simp only [cumM]
    have := c.2.2.2.2.2.2.2.2.2.2.2.1
    simp only [cumM] at this
    omega
  · have e1 : (k + 1) / 12 = k / 12 := by omega
    have e2 : ((k + 1) % 12).toNat = (k % 12).toNat + 1 := by omega
    have e3 : (((k % 12).toNat : Nat) : Int) = k % 12 := by omega
    rw [e1, e2]
    simp only [cumM, e3]
    omega
theorem mStart_mono {a b : Int} (h : a ≤ b) : mStart a ≤ mStart b := by
  obtain ⟨n, hn⟩ : ∃ n : Nat, b = a + n := ⟨(b - a).toNat, by omega⟩
  subst hn
  induction n with
  | zero => simp
  | succ n ih =>
    have e : a + ((n + 1 : Nat) : Int) = (a + n) + 1 := by omega
    have := mStart_succ (a + n)
    have := dim_le ((a + n) / 12) ((a + n) % 12 + 1)
    rw [e]
    have := ih (by omega)
    omega
theorem day_in {y m d : Int} (h : validG y m d) : dayOf y m d = mStart (12 * y + (m - 1)) + d ∧ d ≤ dim ((12 * y + (m - 1)) / 12) ((12 * y + (m - 1)) % 12 + 1) := by
  obtain ⟨h1, h3, h4, h5, h6⟩ := h
  have e1 : (12 * y + (m - 1)) / 12 = y := by omega
  have e2 : (12 * y + (m - 1)) % 12 = m - 1 := by omega
  unfold mStart dayOf
  rw [e1, e2]
  refine ⟨by omega, ?_⟩
  rw [Int.sub_add_cancel]; exact h6

end Go.Vm
