/- date: days, months, years: plain arithmetic. -/
import Derived.Test.YtkmeiandnebaeaaGreatDoorVMd
namespace Go.Vm
set_option linter.unusedSimpArgs false
set_option linter.unusedVariables false
set_option maxHeartbeats 4000000

def leapB (y : Int) : Bool := decide (y % 4 = 0 ∧ (y % 100 ≠ 0 ∨ y % 400 = 0))
/-- The days of a month. -/
def dim (y m : Int) : Int := if m = 2 then (if leapB y = true then 29 else 28) else if m = 4 ∨ m = 6 ∨ m = 9 ∨ m = 11 then 30 else 31
/-- The days ahead of a year. -/
def dB (y : Int) : Int := 365 * (y - 1) + (y - 1) / 4 - (y - 1) / 100 + (y - 1) / 400
/-- The days of the first months. -/
def cumM (y : Int) : Nat → Int
  | 0 => 0
  | k + 1 => cumM y k + dim y ((k : Int) + 1)
def dayOf (y m d : Int) : Int := dB y + (d + cumM y (m - 1).toNat)
def validG (y m d : Int) : Prop := 1 ≤ y ∧ 1 ≤ m ∧ m ≤ 12 ∧ 1 ≤ d ∧ d ≤ dim y m
def validD (y m d : Int) : Prop := 1 ≤ y ∧ y ≤ 9999 ∧ 1 ≤ m ∧ m ≤ 12 ∧ 1 ≤ d ∧ d ≤ dim y m

theorem validD.g {y m d : Int} (h : validD y m d) : validG y m d := ⟨h.1, h.2.2.1, h.2.2.2.1, h.2.2.2.2.1, h.2.2.2.2.2⟩

def leapN (y : Int) : Int := if leapB y = true then 1 else 0
theorem leapN_eq (y : Int) : leapN y = if y % 4 = 0 ∧ (y % 100 ≠ 0 ∨ y % 400 = 0) then 1 else 0 := by unfold leapN leapB; simp
theorem leapN_le (y : Int) : 0 ≤ leapN y ∧ leapN y ≤ 1 := by unfold leapN; split <;> omega

theorem dB_succ (y : Int) : dB (y + 1) = dB y + 365 + leapN y := by
  rw [leapN_eq]; unfold dB; split <;> omega

theorem dim_eq (y m : Int) : dim y m = if m = 2 then 28 + leapN y else if m = 4 ∨ m = 6 ∨ m = 9 ∨ m = 11 then 30 else 31 := by
  unfold dim leapN; split <;> split <;> rfl
theorem dim_le (y m : Int) : 28 ≤ dim y m ∧ dim y m ≤ 31 := by
  have := leapN_le y
  rw [dim_eq]; split
  · omega
  · split <;> omega

/-- What the first months hold, in numbers. -/
theorem cumM_num (y : Int) : cumM y 0 = 0 ∧ cumM y 1 = 31 ∧ cumM y 2 = 59 + leapN y ∧ cumM y 3 = 90 + leapN y ∧ cumM y 4 = 120 + leapN y ∧ cumM y 5 = 151 + leapN y ∧ cumM y 6 = 181 + leapN y ∧ cumM y 7 = 212 + leapN y ∧
    cumM y 8 = 243 + leapN y ∧ cumM y 9 = 273 + leapN y ∧ cumM y 10 = 304 + leapN y ∧ cumM y 11 = 334 + leapN y ∧ cumM y 12 = 365 + leapN y := by
  simp only [cumM, dim_eq]
  simp
  omega

theorem month_cases {m : Int} (h1 : 1 ≤ m) (h2 : m ≤ 12) : m = 1 ∨ m = 2 ∨ m = 3 ∨ m = 4 ∨ m = 5 ∨ m = 6 ∨ m = 7 ∨ m = 8 ∨ m = 9 ∨ m = 10 ∨ m = 11 ∨ m = 12 := by omega

theorem cumM_bnd (y : Int) (k : Nat) (h : k ≤ 12) : 28 * (k : Int) ≤ cumM y k ∧ cumM y k ≤ 31 * (k : Int) := by
  induction k with
  | zero => simp [cumM]
  | succ k ih =>
    have := dim_le y ((k : Int) + 1)
    have := ih (by omega)
    simp only [cumM]; omega

theorem cumM_mono (y : Int) {a b : Nat} (h : a ≤ b) : cumM y a ≤ cumM y b := by
  induction b with
  | zero => have : a = 0 := by omega
            subst this; omega
  | succ b ih =>
    rcases Nat.lt_or_ge b a with h1 | h1
    · have : a = b + 1 := by omega
      subst this; omega
    · have := ih h1
      have := dim_le y ((b : Int) + 1)
      simp only [cumM]; omega

/-- A valid day lies in its month and year. -/
theorem doy_bnd {y m d : Int} (h1 : 1 ≤ m) (h2 : m ≤ 12) (h3 : 1 ≤ d) (h4 : d ≤ dim y m) : cumM y (m - 1).toNat < d + cumM y (m - 1).toNat ∧ d + cumM y (m - 1).toNat ≤ cumM y m.toNat := by
  obtain ⟨k, hk⟩ : ∃ k : Nat, m = k + 1 := ⟨(m - 1).toNat, by omega⟩
  subst hk
  have e1 : ((k : Int) + 1 - 1).toNat = k := by omega
  have e2 : ((k : Int) + 1).toNat = k + 1 := by omega
  rw [e1, e2, cumM]
  omega

theorem dayOf_bnd {y m d : Int} (h : validG y m d) : dB y < dayOf y m d ∧ dayOf y m d ≤ dB (y + 1) := by
  obtain ⟨h1, h3, h4, h5, h6⟩ := h
  have hd := doy_bnd h3 h4 h5 h6
  have h0 : 0 ≤ cumM y (m - 1).toNat := by have := cumM_mono y (a := 0) (b := (m - 1).toNat) (by omega); simpa [cumM] using this
  have hm := cumM_mono y (a := m.toNat) (b := 12) (by omega)
  have := (cumM_num y).2.2.2.2.2.2.2.2.2.2.2.2
  rw [dB_succ, dayOf]
  omega

theorem dB_mono {y z : Int} (h : y ≤ z) : dB y ≤ dB z := by unfold dB; omega

/-- A day is one of a month of a year only. -/
theorem dayOf_inj {y m d y' m' d' : Int} (h : validG y m d) (h' : validG y' m' d') (e : dayOf y m d = dayOf y' m' d') : y = y' ∧ m = m' ∧ d = d' := by
  have b := dayOf_bnd h
  have b' := dayOf_bnd h'
  have hy : y = y' := by
    rcases Int.lt_trichotomy y y' with h1 | h1 | h1
    · have := dB_mono (y := y + 1) (z := y') (by omega); omega
    · exact h1
    · have := dB_mono (y := y' + 1) (z := y) (by omega); omega
  subst hy
  obtain ⟨h1, h3, h4, h5, h6⟩ := h
  obtain ⟨_, g3, g4, g5, g6⟩ := h'
  have a := doy_bnd h3 h4 h5 h6
  have a' := doy_bnd g3 g4 g5 g6
  simp only [dayOf] at e
  have hm : m = m' := by
    rcases Int.lt_trichotomy m m' with h | h | h
    · have := cumM_mono y (a := m.toNat) (b := (m' - 1).toNat) (by omega); omega
    · exact h
    · have := cumM_mono y (a := m'.toNat) (b := (m - 1).toNat) (by omega); omega
  subst hm
  exact ⟨rfl, rfl, by omega⟩

/-- The reference's number of a date: years begin in March. -/
def dayRef (y m d : Int) : Int :=
  let m' := if m < 3 then m + 12 else m
  let y' := if m < 3 then y - 1 else y
  365 * y' + y' / 4 - y' / 100 + y' / 400 + (153 * (m' - 3) + 2) / 5 + d - 306

theorem dayRef_eq {y m d : Int} (h1 : 1 ≤ m) (h2 : m ≤ 12) : dayRef y m d = dayOf y m d := by
  obtain ⟨c0, c1, c2, c3, c4, c5, c6, c7, c8, c9, c10, c11, _⟩ := cumM_num y
  have hl := dB_succ y
  have e : ∀ x : Int, 365 * x + x / 4 - x / 100 + x / 400 = dB (x + 1) := by intro x; unfold dB; rw [Int.add_sub_cancel]
  unfold dayRef dayOf
  simp only [e]
  rw [show (if m < 3 then y - 1 else y) + 1 = if m < 3 then y else y + 1 from by split <;> omega]
  rcases month_cases h1 h2 with rfl | rfl | rfl | rfl | rfl | rfl | rfl | rfl | rfl | rfl | rfl | rfl <;>
    simp [c0, c1, c2, c3, c4, c5, c6, c7, c8, c9, c10, c11] <;> omega

/-- The reference's date of a day. -/
def dateRef (day : Int) : Int × Int × Int :=
  let z := day + 305
  let era := z / 146097
  let of := z % 146097
  let year := (of - of / 1460 + of / 36524 - of / 146096) / 365
  let rest := of - 365 * year - year / 4 + year / 100
  let month := (5 * rest + 2) / 153
  let y := year + 400 * era
  let m := month + 3
  let d := rest - (153 * month + 2) / 5 + 1
  if m > 12 then (y + 1, m - 12, d) else (y, m, d)

/-- A day of an era of 400 years, with years that begin in March: the year. -/
theorem eraYear {of yoe doy : Int} (h1 : 0 ≤ yoe) (h2 : yoe < 400) (h3 : 0 ≤ doy) (h4 : doy ≤ 364 + leapN (yoe + 1)) (h5 : of = 365 * yoe + yoe / 4 - yoe / 100 + doy) :
    0 ≤ of ∧ of ≤ 146096 ∧ (of - of / 1460 + of / 36524 - of / 146096) / 365 = yoe := by
  obtain ⟨c, hc⟩ : ∃ c, c = yoe / 100 := ⟨_, rfl⟩
  obtain ⟨q, hq⟩ : ∃ q, q = yoe % 100 / 4 := ⟨_, rfl⟩
  obtain ⟨r, hr⟩ : ∃ r, r = yoe % 4 := ⟨_, rfl⟩
  have hy : yoe = 100 * c + 4 * q + r := by omega
  have hr' : 0 ≤ r ∧ r ≤ 3 := by omega
  have hq' : 0 ≤ q ∧ q ≤ 24 := by omega
  have hc' : 0 ≤ c ∧ c ≤ 3 := by omega
  have hof : of = 36524 * c + 1461 * q + 365 * r + doy := by omega
  have hl : doy ≤ 364 ∨ (doy = 365 ∧ r = 3 ∧ (q < 24 ∨ c = 3)) := by
    rw [leapN_eq] at h4
    by_cases h : (yoe + 1) % 4 = 0 ∧ ((yoe + 1) % 100 ≠ 0 ∨ (yoe + 1) % 400 = 0)
    · rw [if_pos h] at h4
      rcases Int.lt_or_le doy 365 with h6 | h6
      · left; omega
      · right; refine ⟨by omega, by omega, ?_⟩
        rcases h.2 with h7 | h7
        · left; omega
        · right; omega
    · rw [if_neg h] at h4; left; omega
  clear hc hq hr h4 h5
  have hA : of / 1460 = 25 * c + q ∨ of / 1460 = 25 * c + q + 1 := by omega
  have hB : (of / 36524 = c ∧ of / 146096 = 0) ∨ (of = 146096 ∧ of / 36524 = 4 ∧ of / 146096 = 1) := by omega
  refine ⟨by omega, by omega, ?_⟩
  rcases hB with ⟨b1, b2⟩ | ⟨b0, b1, b2⟩
  · rw [b1, b2]
    rcases hA with a1 | a1
    · rw [a1]; omega
    · rw [a1]; omega
  · omega

/-- The month of a day of a year that begins in March. -/
theorem marchMonth {rest k d : Int} (hk1 : 0 ≤ k) (hk2 : k ≤ 11) (h1 : 1 ≤ d) (h2 : d ≤ (153 * (k + 1) + 2) / 5 - (153 * k + 2) / 5) (h3 : rest = (153 * k + 2) / 5 + d - 1) : (5 * rest + 2) / 153 = k := by omega

/-- The rest of the days, behind the year. -/
def midRef (day : Int) : Int × Int :=
  let of := (day + 305) % 146097
  let year := (of - of / 1460 + of / 36524 - of / 146096) / 365
  (year, of - 365 * year - year / 4 + year / 100)

theorem dateRef_full {y m d : Int} (h : validG y m d) : dateRef (dayOf y m d) = (y, m, d) ∧ (0 ≤ (midRef (dayOf y m d)).1 ∧ (midRef (dayOf y m d)).1 < 400) ∧ 0 ≤ (midRef (dayOf y m d)).2 ∧ (midRef (dayOf y m d)).2 ≤ 365 := by
  obtain ⟨h1, h3, h4, h5, h6⟩ := h
  rw [← dayRef_eq h3 h4]
  obtain ⟨y', hy'⟩ : ∃ y', y' = if m < 3 then y - 1 else y := ⟨_, rfl⟩
  obtain ⟨k, hk⟩ : ∃ k, k = if m < 3 then m + 9 else m - 3 := ⟨_, rfl⟩
  have hk' : 0 ≤ k ∧ k ≤ 11 := by split at hk <;> omega
  have hy0 : 0 ≤ y' := by split at hy' <;> omega
  have hday : dayRef y m d = 365 * y' + y' / 4 - y' / 100 + y' / 400 + (153 * k + 2) / 5 + d - 306 := by
    have : (if m < 3 then m + 12 else m) - 3 = k := by rw [hk]; split <;> omega
    unfold dayRef
    simp only [← hy', this]
  have hdim : d ≤ (153 * (k + 1) + 2) / 5 - (153 * k + 2) / 5 ∧ (153 * k + 2) / 5 + d - 1 ≤ 364 + leapN (y' % 400 + 1) := by
    have hl : leapN (y' % 400 + 1) = leapN (y' + 1) := by simp only [leapN_eq]; congr 1; apply propext; constructor <;> intro h <;> omega
    rw [hl]
    have hle := leapN_le (y' + 1)
    rw [dim_eq] at h6
    rcases month_cases h3 h4 with rfl | rfl | rfl | rfl | rfl | rfl | rfl | rfl | rfl | rfl | rfl | rfl <;> simp at hk hy' h6 <;> subst hk <;> subst hy' <;> (try rw [Int.sub_add_cancel] at *) <;> (constructor <;> omega)
  obtain ⟨yoe, hyoe⟩ : ∃ yoe, yoe = y' % 400 := ⟨_, rfl⟩
  obtain ⟨doy, hdoy⟩ : ∃ doy, doy = (153 * k + 2) / 5 + d - 1 := ⟨_, rfl⟩
  obtain ⟨of, hof⟩ : ∃ of, of = 365 * yoe + yoe / 4 - yoe / 100 + doy := ⟨_, rfl⟩
  rw [← hyoe, ← hdoy] at hdim
  have hdoy0 : 0 ≤ doy := by omega
  have he := eraYear (of := of) (yoe := yoe) (doy := doy) (by omega) (by omega) hdoy0 hdim.2 hof
  have hz : dayRef y m d + 305 = 146097 * (y' / 400) + of := by
    have q4 : y' / 4 = 100 * (y' / 400) + yoe / 4 := by omega
    have q100 : y' / 100 = 4 * (y' / 400) + yoe / 100 := by omega
    rw [hday, hof, hdoy, q4, q100]; omega
  have hm := marchMonth (rest := doy) hk'.1 hk'.2 h5 hdim.1 hdoy
  have hera : (dayRef y m d + 305) / 146097 = y' / 400 := by rw [hz]; omega
  have hoff : (dayRef y m d + 305) % 146097 = of := by rw [hz]; omega
  refine ⟨?_, ?_⟩
  rotate_left
  · unfold midRef
    simp only [hoff, he.2.2]
    have hrest : of - 365 * yoe - yoe / 4 + yoe / 100 = doy := by rw [hof]; omega
    rw [hrest]
    have := leapN_le (yoe + 1)
    omega
  unfold dateRef
  simp only [hera, hoff, he.2.2]
  have hrest : of - 365 * yoe - yoe / 4 + yoe / 100 = doy := by rw [hof]; omega
  simp only [hrest, hm]
  have hyy : yoe + 400 * (y' / 400) = y' := by omega
  have hdd : doy - (153 * k + 2) / 5 + 1 = d := by omega
  rw [hyy, hdd]
  by_cases hm3 : m < 3
  · rw [if_pos hm3] at hk hy'
    rw [if_pos (by omega)]
    ext <;> simp <;> omega
  · rw [if_neg hm3] at hk hy'
    rw [if_neg (by omega)]
    ext <;> simp <;> omega

theorem dateRef_dayRef {y m d : Int} (h : validG y m d) : dateRef (dayOf y m d) = (y, m, d) := (dateRef_full h).1

theorem exists_date (n : Nat) : ∃ y m d, validG y m d ∧ dayOf y m d = (n : Int) + 1 := by
  induction n with
  | zero => exact ⟨1, 1, 1, by simp [validG, dim_eq], by simp [dayOf, dB, cumM]⟩
  | succ n ih =>
    obtain ⟨y, m, d, hv, hd⟩ := ih
    obtain ⟨h1, h3, h4, h5, h6⟩ := hv
    by_cases hd1 : d < dim y m
    · exact ⟨y, m, d + 1, ⟨h1, h3, h4, by omega, by omega⟩, by simp only [dayOf] at hd ⊢; omega⟩
    have hdd : d = dim y m := by omega
    by_cases hm : m < 12
    · refine ⟨y, m + 1, 1, ⟨h1, by omega, by omega, by omega, by have := dim_le y (m + 1); omega⟩, ?_⟩
      obtain ⟨k, hk⟩ : ∃ k : Nat, m = k + 1 := ⟨(m - 1).toNat, by omega⟩
      subst hk
      have e1 : ((k : Int) + 1 - 1).toNat = k := by omega
      have e2 : ((k : Int) + 1 + 1 - 1).toNat = k + 1 := by omega
      simp only [dayOf, e1] at hd
      simp only [dayOf, e2, cumM]
      omega
    · have hm12 : m = 12 := by omega
      subst hm12
      have c := cumM_num y
      have hs := dB_succ y
      have e1 : ((12 : Int) - 1).toNat = 11 := rfl
      have h31 : dim y 12 = 31 := by rw [dim_eq]; simp
      simp only [dayOf, e1] at hd
      refine ⟨y + 1, 1, 1, ⟨by omega, by omega, by omega, by omega, by have := dim_le (y + 1) 1; omega⟩, ?_⟩
      have e0 : ((1 : Int) - 1).toNat = 0 := rfl
      simp only [dayOf, e0, cumM]
      omega

theorem dateRef_okG {day : Int} (h1 : 1 ≤ day) : validG (dateRef day).1 (dateRef day).2.1 (dateRef day).2.2 ∧ dayOf (dateRef day).1 (dateRef day).2.1 (dateRef day).2.2 = day := by
  obtain ⟨y, m, d, hv, hd⟩ := exists_date (day - 1).toNat
  have e : ((day - 1).toNat : Int) + 1 = day := by omega
  rw [e] at hd
  have := dateRef_dayRef hv
  rw [hd] at this
  rw [this]
  exact ⟨hv, hd⟩

theorem midRef_ok {day : Int} (h1 : 1 ≤ day) : (0 ≤ (midRef day).1 ∧ (midRef day).1 < 400) ∧ 0 ≤ (midRef day).2 ∧ (midRef day).2 ≤ 365 := by
  obtain ⟨hv, hd⟩ := dateRef_okG h1
  have := (dateRef_full hv).2
  rw [hd] at this
  exact this

theorem dateRef_ok {day : Int} (h1 : 1 ≤ day) (h2 : day ≤ 3652059) : validD (dateRef day).1 (dateRef day).2.1 (dateRef day).2.2 ∧ dayOf (dateRef day).1 (dateRef day).2.1 (dateRef day).2.2 = day := by
  obtain ⟨hv, hd⟩ := dateRef_okG h1
  refine ⟨⟨hv.1, ?_, hv.2.1, hv.2.2.1, hv.2.2.2.1, hv.2.2.2.2⟩, hd⟩
  have hb := dayOf_bnd hv
  rw [hd] at hb
  rcases Int.lt_or_le 9999 (dateRef day).1 with h | h
  · have := dB_mono (y := 10000) (z := (dateRef day).1) (by omega)
    have : dB 10000 = 3652059 := by rfl
    omega
  · exact h

theorem dayOf_range {y m d : Int} (h : validD y m d) : 1 ≤ dayOf y m d ∧ dayOf y m d ≤ 3652059 := by
  have hb := dayOf_bnd h.g
  have h1 := dB_mono h.1
  have h2 := dB_mono (y := y + 1) (z := 10000) (by have := h.2.1; omega)
  have : dB 1 = 0 := by rfl
  have : dB 10000 = 3652059 := by rfl
  omega

end Go.Vm
