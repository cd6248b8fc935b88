/- recur: days: the walks. -/
import Derived.Test.YtkmeiandnebaeaaGreatDoorRc6
import Derived.Test.YtkmeiandnebaeaaGreatDoorDtB
namespace Go.Vm
open Proofs
set_option maxRecDepth 20000
set_option maxHeartbeats 1000000
set_option linter.unusedSimpArgs false

def Dy.mo (d : Dy) : Mo := ⟨d.n, d.y, d.m, d.d, d.l, d.w⟩
def momS (n : Int) : Mo := if n ≤ 3652059 then frD n else mo0

theorem moment_V (n : Int) (h1 : 1 ≤ n) (h2 : n ≤ 3652060) (h : List Blk) : CallP Tryz.prog 99 [.d (.int .i64 n)] h (.d (encMo (momS n))) := by
  refine callW tb_ok fn99 (by simp) (fun hok => ?_)
  simp (disch := first | omega | (simp; done) | (simp; omega)) [ltT, ltF, leT, leF, eqT', eqF, ltTn, leTn, ltFn, leFn, wrapI, tdivP, tmodP, mid, c99]
  refine (at31_V _ _).useV ?_
  have e0 : (n - 1) * 24 * 60 * 60 = (n - 1) * 86400 := by omega
  by_cases h3 : n ≤ 3652059
  · have e : frS ((n - 1) * 24 * 60 * 60) = momS n := by
      unfold momS
      rw [if_pos h3]
      unfold frS frD
      rw [show (n - 1) * 24 * 60 * 60 / 86400 + 1 = n from by omega, show (n - 1) * 24 * 60 * 60 % 86400 / 3600 = 0 from by omega, show (n - 1) * 24 * 60 * 60 % 86400 / 60 % 60 = 0 from by omega, show (n - 1) * 24 * 60 * 60 % 86400 % 60 = 0 from by omega]
    rw [if_neg (by omega), e]
    simp (disch := first | omega | (simp; done) | (simp; omega)) [ltT, ltF, leT, leF, eqT', eqF, ltTn, leTn, ltFn, leFn, wrapI, tdivP, tmodP, mid]
    exact rshift_d hok
  · rw [if_pos (by omega), show momS n = mo0 from by unfold momS; rw [if_neg h3]]
    simp (disch := first | omega | (simp; done) | (simp; omega)) [ltT, ltF, leT, leF, eqT', eqF, ltTn, leTn, ltFn, leFn, wrapI, tdivP, tmodP, mid]
    exact rshift_d hok

theorem last_ok {n : Int} (h1 : 1 ≤ n) (h2 : n ≤ 3652059) : n + (dyS n).l - 1 ≤ 3652059 := by
  obtain ⟨hv, he⟩ := dateRef_ok h1 h2
  have hd := dim_le (dateRef n).1 (dateRef n).2.1
  have := (dayOf_range (y := (dateRef n).1) (m := (dateRef n).2.1) (d := dim (dateRef n).1 (dateRef n).2.1) ⟨hv.1, hv.2.1, hv.2.2.1, hv.2.2.2.1, by omega, by omega⟩).2
  unfold dayOf at he this
  unfold dyS
  simp only
  omega

theorem dayOf_V (n : Int) (h1 : 1 ≤ n) (h2 : n ≤ 3652059) (h : List Blk) : CallP Tryz.prog 64 [.d (.int .i64 n)] h (.d (encMo (dyS n).mo)) := by
  refine callW tb_ok fn64 (by simp) (fun hok => ?_)
  have hb := dy_bnd h1 h2
  have hlo := last_ok h1 h2
  simp (disch := first | omega | (simp; done) | (simp; omega)) [ltT, ltF, leT, leF, eqT', eqF, ltTn, leTn, ltFn, leFn, wrapI, tdivP, tmodP, mid, c64]
  refine (moment_V n h1 (by omega) _).useV ?_
  rw [show momS n = frD n from if_pos h2]
  simp (disch := first | omega | (simp; done) | (simp; omega)) [ltT, ltF, leT, leF, eqT', eqF, ltTn, leTn, ltFn, leFn, wrapI, tdivP, tmodP, mid]
  obtain ⟨L, hL⟩ : ∃ L : Nat, (dyS n).l = L := ⟨(dyS n).l.toNat, by omega⟩
  refine W_loopA (ι := Nat) (fun j => j ≤ L ∧ (j < L ∨ n + L ≤ 3652059)) (fun j => ⟨[(0, .d (.int .i64 n)), (2, .ptr h.length 85 0 0), (3, .ptr (h.length + 1) 99 0 0), (4, .ptr (h.length + 2) 85 0 0), (5, .ptr (h.length + 3) 99 0 0)],
    h ++ [.cells 85 [.d (encMo mo0)], .cells 99 [.d (encMo (frD n))], .cells 85 [.d (encMo ⟨n, (dyS n).y, (dyS n).m, (dyS n).d, j, (dyS n).w⟩)], .cells 99 [.d (encMo (momS (n + j)))]]⟩)
    (fun j => L - j) 0 ⟨by omega, by omega⟩ (Shift.slots' (by simp [mo0, momS, h2, frD, dyS]) (by simp)) ?_
  rintro j ⟨hj1, hj2⟩ A hA
  have hL' : dim (dateRef n).1 (dateRef n).2.1 - (dateRef n).2.2 + 1 = L := by rw [← hL]; rfl
  by_cases hjL : j < L
  · have e1 : momS (n + j) = ⟨(dateRef n).1, (dateRef n).2.1, (dateRef n).2.2 + j, 0, 0, 0⟩ := by
      unfold momS
      rw [if_pos (by omega)]
      unfold frD
      rw [date_add h1 (by omega) (by omega)]
    rw [e1]
    simp (disch := first | omega | (simp; done) | (simp; omega)) [ltT, ltF, leT, leF, eqT', eqF, ltTn, leTn, ltFn, leFn, wrapI, tdivP, tmodP, mid, frD]
    refine (moment_V (n + (j + 1)) (by omega) (by omega) _).useV ?_
    by_cases h3 : 3652059 < n + (j + 1)
    · have : j + 1 = L := by omega
      simp (disch := first | omega | (simp; done) | (simp; omega)) [ltT, ltF, leT, leF, eqT', eqF, ltTn, leTn, ltFn, leFn, wrapI, tdivP, tmodP, mid, h3]
      rw [show (⟨n, (dyS n).y, (dyS n).m, (dyS n).d, (j : Int) + 1, (dyS n).w⟩ : Mo) = (dyS n).mo from by unfold Dy.mo; rw [hL, show (j : Int) + 1 = L from by omega]; rfl]
      exact rshift_d hok
    · simp (disch := first | omega | (simp; done) | (simp; omega)) [ltT, ltF, leT, leF, eqT', eqF, ltTn, leTn, ltFn, leFn, wrapI, tdivP, tmodP, mid, h3]
      exact hA (j + 1) _ ⟨by omega, by omega⟩ (by omega) (Shift.slots' (by simp [frD]) (by simp))
  · have hjj : j = L := by omega
    subst hjj
    have hne := date_over (n := n) (j := (j : Int)) h1 (by omega)
    have e1 : momS (n + j) = frD (n + j) := by unfold momS; rw [if_pos (by omega)]
    rw [e1]
    simp (disch := first | omega | (simp; done) | (simp; omega)) [ltT, ltF, leT, leF, eqT', eqF, ltTn, leTn, ltFn, leFn, wrapI, tdivP, tmodP, mid, frD, hne]
    rw [show (⟨n, (dyS n).y, (dyS n).m, (dyS n).d, (j : Int), (dyS n).w⟩ : Mo) = (dyS n).mo from by unfold Dy.mo; rw [hL]; rfl]
    exact rshift_d hok

theorem walk_V (n : Int) (h1 : 1 ≤ n) (h2 : n ≤ 3652059) (h : List Blk) : CallW Tryz.prog 68 [.d (.int .i64 n)] h fun x h' => x = .ptr h.length 94 0 0 ∧ h' = h ++ [.cells 94 [.d (encMo (dyS n).mo)]] := by
  refine callW tb_ok fn68 (by simp) (fun hok => ?_)
  simp (disch := first | omega | (simp; done) | (simp; omega)) [ltT, ltF, leT, leF, eqT', eqF, ltTn, leTn, ltFn, leFn, wrapI, tdivP, tmodP, mid, c68]
  refine (dayOf_V n h1 h2 _).useV ?_
  simp (disch := first | omega | (simp; done) | (simp; omega)) [ltT, ltF, leT, leF, eqT', eqF, ltTn, leTn, ltFn, leFn, wrapI, tdivP, tmodP, mid, Dy.mo]
  exact rshift_same' rfl (by simp)

/-- The walker's day. -/
def wkS (n : Int) : Mo := if n ≤ 3652059 then (dyS n).mo else ⟨n, (dyS 3652059).y, (dyS 3652059).m, (dyS 3652059).d, (dyS 3652059).l, (dyS 3652059).w⟩

theorem step_V {n : Int} {b : Nat} {h : List Blk} (hb : h[b]? = some (.cells 94 [.d (encMo (wkS n))])) (h1 : 1 ≤ n) (h2 : n ≤ 3652059) :
    CallW Tryz.prog 70 [.ptr b 94 0 0] h fun x h' => x = .tup [] ∧ h' = h.set b (.cells 94 [.d (encMo (wkS (n + 1)))]) := by
  refine callW tb_ok fn70 (by simp) (fun hok => ?_)
  have e0 : wkS n = (dyS n).mo := if_pos h2
  rw [e0] at hb
  have hbl := (List.getElem?_eq_some_iff.mp hb).1
  have hb' := (List.getElem?_eq_some_iff.mp hb).2
  have hbd := dy_bnd h1 h2
  have en : (dyS n).n = n := rfl
  by_cases hl : 1 < (dyS n).l
  · by_cases hn : n < 3652059
    · have e1 : wkS (n + 1) = ⟨n + 1, (dyS n).y, (dyS n).m, (dyS n).d + 1, (dyS n).l - 1, ((dyS n).w + 1) % 7⟩ := by
        unfold wkS; rw [if_pos (by omega), dy_next h1 hl]; rfl
      rw [e1]
      simp (disch := first | omega | (simp; done) | (simp; omega)) [ltT, ltF, leT, leF, eqT', eqF, ltTn, leTn, ltFn, leFn, wrapI, tdivP, tmodP, mid, c70, hb, hb', hbl, Dy.mo, hl, hn, en]
      exact rshift_same' rfl (by simp)
    · have : n = 3652059 := by omega
      subst this
      rw [show wkS (3652059 + 1) = ⟨3652060, (dyS 3652059).y, (dyS 3652059).m, (dyS 3652059).d, (dyS 3652059).l, (dyS 3652059).w⟩ from if_neg (by decide)]
      simp (disch := first | omega | (simp; done) | (simp; omega)) [ltT, ltF, leT, leF, eqT', eqF, ltTn, leTn, ltFn, leFn, wrapI, tdivP, tmodP, mid, c70, hb, hb', hbl, Dy.mo, hl, en]
      exact rshift_same' rfl (by simp)
  · by_cases hn : n < 3652059
    · simp (disch := first | omega | (simp; done) | (simp; omega)) [ltT, ltF, leT, leF, eqT', eqF, ltTn, leTn, ltFn, leFn, wrapI, tdivP, tmodP, mid, c70, hb, hb', hbl, Dy.mo, hl, hn, en]
      refine (dayOf_V (n + 1) (by omega) (by omega) _).useV ?_
      rw [show wkS (n + 1) = (dyS (n + 1)).mo from if_pos (by omega)]
      simp (disch := first | omega | (simp; done) | (simp; omega)) [ltT, ltF, leT, leF, eqT', eqF, ltTn, leTn, ltFn, leFn, wrapI, tdivP, tmodP, mid, hb, hb', hbl]
      exact rshift_same' rfl (by simp)
    · have : n = 3652059 := by omega
      subst this
      rw [show wkS (3652059 + 1) = ⟨3652060, (dyS 3652059).y, (dyS 3652059).m, (dyS 3652059).d, (dyS 3652059).l, (dyS 3652059).w⟩ from if_neg (by decide)]
      simp (disch := first | omega | (simp; done) | (simp; omega)) [ltT, ltF, leT, leF, eqT', eqF, ltTn, leTn, ltFn, leFn, wrapI, tdivP, tmodP, mid, c70, hb, hb', hbl, Dy.mo, hl, en]
      exact rshift_same' rfl (by simp)

theorem period_V (d : Dy) (u : Int) (h1 : 1 ≤ d.n) (h2 : d.n ≤ 10000000) (hy : 0 ≤ d.y) (hy2 : d.y ≤ 100000) (hm : 0 ≤ d.m) (hm2 : d.m ≤ 100) (h : List Blk) : CallP Tryz.prog 67 [.d (encMo d.mo), .d (.int .i64 u)] h (.d (.int .i64 (perD u d))) := by
  refine callW tb_ok fn67 (by simp) (fun hok => ?_)
  unfold perD
  by_cases u2 : u = 2
  · simp (disch := first | omega | (simp; done) | (simp; omega)) [ltT, ltF, leT, leF, eqT', eqF, ltTn, leTn, ltFn, leFn, wrapI, tdivP, tmodP, mid, c67, Dy.mo, u2]
    exact rshift_d hok
  by_cases u3 : u = 3
  · simp (disch := first | omega | (simp; done) | (simp; omega)) [ltT, ltF, leT, leF, eqT', eqF, ltTn, leTn, ltFn, leFn, wrapI, tdivP, tmodP, mid, c67, Dy.mo, u2, u3]
    exact rshift_d hok
  by_cases u4 : u = 4
  · simp (disch := first | omega | (simp; done) | (simp; omega)) [ltT, ltF, leT, leF, eqT', eqF, ltTn, leTn, ltFn, leFn, wrapI, tdivP, tmodP, mid, c67, Dy.mo, u2, u3, u4]
    exact rshift_d hok
  · simp (disch := first | omega | (simp; done) | (simp; omega)) [ltT, ltF, leT, leF, eqT', eqF, ltTn, leTn, ltFn, leFn, wrapI, tdivP, tmodP, mid, c67, Dy.mo, u2, u3, u4]
    exact rshift_d hok

theorem first_V (s u : Int) (h1 : 1 ≤ s) (h2 : s ≤ 3652059) (h : List Blk) : CallP Tryz.prog 69 [.d (encMo (dyS s).mo), .d (.int .i64 u)] h (.d (.int .i64 (pf u s 0))) := by
  refine callW tb_ok fn69 (by simp) (fun hok => ?_)
  have hbd := dy_bnd h1 h2
  obtain ⟨hv, he⟩ := dateRef_ok h1 h2
  have en : (dyS s).n = s := rfl
  have ew : (dyS s).w = (s - 1) % 7 := rfl
  have ed : (dyS s).d = (dateRef s).2.2 := rfl
  have ey : (dyS s).y = (dateRef s).1 := rfl
  unfold pf
  by_cases u2 : u = 2
  · simp (disch := first | omega | (simp; done) | (simp; omega)) [ltT, ltF, leT, leF, eqT', eqF, ltTn, leTn, ltFn, leFn, wrapI, tdivP, tmodP, mid, c69, Dy.mo, u2, en, ew]
    exact rshift_d hok
  by_cases u3 : u = 3
  · have hd := (day_in hv.g).1
    rw [he] at hd
    rw [if_neg u2, if_pos u3, show mStart (12 * (dateRef s).1 + ((dateRef s).2.1 - 1) + 0) + 1 = s - (dyS s).d + 1 from by rw [Int.add_zero, ed]; omega]
    simp (disch := first | omega | (simp; done) | (simp; omega)) [ltT, ltF, leT, leF, eqT', eqF, ltTn, leTn, ltFn, leFn, wrapI, tdivP, tmodP, mid, c69, Dy.mo, u2, u3, en]
    exact rshift_d hok
  by_cases u4 : u = 4
  · rw [if_neg u2, if_neg u3, if_pos u4, Int.add_zero]
    simp (disch := first | omega | (simp; done) | (simp; omega)) [ltT, ltF, leT, leF, eqT', eqF, ltTn, leTn, ltFn, leFn, wrapI, tdivP, tmodP, mid, c69, Dy.mo, u2, u3, u4, en]
    refine (number20_V _ _).useV ?_
    have hok1 : (⟨(dyS s).y, 1, 1, 0, 0, 0⟩ : Mo).ok := by
      refine ⟨⟨by show 1 ≤ (dyS s).y; omega, by show (dyS s).y ≤ 9999; omega, by show (1 : Int) ≤ 1; omega, by show (1 : Int) ≤ 12; omega, by show (1 : Int) ≤ 1; omega, ?_⟩, by show (0 : Int) ≤ 0 ∧ (0 : Int) ≤ 23; omega, by show (0 : Int) ≤ 0 ∧ (0 : Int) ≤ 59; omega, by show (0 : Int) ≤ 0 ∧ (0 : Int) ≤ 59; omega⟩
      have := dim_le (dyS s).y 1
      show (1 : Int) ≤ dim (dyS s).y 1
      omega
    rw [momF_zero hok1]
    have hb0 := dB_nonneg (y := (dyS s).y) (by omega)
    have hb1 := dB_le (y := (dyS s).y) (by omega)
    have es : (⟨(dyS s).y, 1, 1, 0, 0, 0⟩ : Mo).secs = dB (dyS s).y * 86400 := by
      show (dayOf (dyS s).y 1 1 - 1) * 86400 + ((0 * 60 + 0) * 60 + 0) = _
      rw [dayOf_first]; omega
    rw [es]
    simp (disch := first | omega | (simp; done) | (simp; omega)) [ltT, ltF, leT, leF, eqT', eqF, ltTn, leTn, ltFn, leFn, wrapI, tdivP, tmodP, mid]
    rw [ey]
    exact rshift_d hok
  · simp (disch := first | omega | (simp; done) | (simp; omega)) [ltT, ltF, leT, leF, eqT', eqF, ltTn, leTn, ltFn, leFn, wrapI, tdivP, tmodP, mid, c69, Dy.mo, u2, u3, u4, en]
    exact rshift_d hok

end Go.Vm
