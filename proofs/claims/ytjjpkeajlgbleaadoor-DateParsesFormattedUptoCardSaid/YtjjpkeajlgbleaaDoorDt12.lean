/- date: the functions of directives; what they write. -/
import Derived.Test.YtjjpkeajlgbleaaDoorDt11
namespace Go.Vm
open Proofs
set_option maxRecDepth 20000
set_option maxHeartbeats 1000000
set_option linter.unusedSimpArgs false

theorem v70_V (m : Mo) (hm : m.ok) (h : List Blk) : CallP Tryd.prog 70 [.d (encMo m)] h (.d (.int .i64 ((m.day - 1) % 7 + 1))) := by
  refine callW tb_ok fn70 (by simp) (fun hok => ?_)
  have hr := Mo.day_range hm
  simp (disch := first | omega | (simp; done) | (simp; omega)) [ltT, ltF, leT, leF, eqT', eqF, ltTn, leTn, ltFn, leFn, wrapI, tdivP, tmodP, mid, c70]
  refine (dayNumber_V m hm _).useV ?_
  simp (disch := first | omega | (simp; done) | (simp; omega)) [ltT, ltF, leT, leF, eqT', eqF, ltTn, leTn, ltFn, leFn, wrapI, tdivP, tmodP, mid]
  refine (weekday_V m.day (by omega) (by omega) _).useV ?_
  simp (disch := first | omega | (simp; done) | (simp; omega)) [ltT, ltF, leT, leF, eqT', eqF, ltTn, leTn, ltFn, leFn, wrapI, tdivP, tmodP, mid]
  exact rshift_d hok
theorem v71_V (m : Mo) (h : List Blk) : CallP Tryd.prog 71 [.d (encMo m)] h (.d (.int .i64 m.y)) := by
  refine callW tb_ok fn71 (by simp) (fun hok => ?_)
  simp (disch := first | omega | (simp; done) | (simp; omega)) [ltT, ltF, leT, leF, eqT', eqF, ltTn, leTn, ltFn, leFn, wrapI, tdivP, tmodP, mid, c71]
  exact rshift_d hok
theorem v72_V (m : Mo) (h : List Blk) : CallP Tryd.prog 72 [.d (encMo m)] h (.d (.int .i64 m.m)) := by
  refine callW tb_ok fn72 (by simp) (fun hok => ?_)
  simp (disch := first | omega | (simp; done) | (simp; omega)) [ltT, ltF, leT, leF, eqT', eqF, ltTn, leTn, ltFn, leFn, wrapI, tdivP, tmodP, mid, c72]
  exact rshift_d hok
theorem v73_V (m : Mo) (h : List Blk) : CallP Tryd.prog 73 [.d (encMo m)] h (.d (.int .i64 m.d)) := by
  refine callW tb_ok fn73 (by simp) (fun hok => ?_)
  simp (disch := first | omega | (simp; done) | (simp; omega)) [ltT, ltF, leT, leF, eqT', eqF, ltTn, leTn, ltFn, leFn, wrapI, tdivP, tmodP, mid, c73]
  exact rshift_d hok
theorem v74_V (m : Mo) (h : List Blk) : CallP Tryd.prog 74 [.d (encMo m)] h (.d (.int .i64 m.h)) := by
  refine callW tb_ok fn74 (by simp) (fun hok => ?_)
  simp (disch := first | omega | (simp; done) | (simp; omega)) [ltT, ltF, leT, leF, eqT', eqF, ltTn, leTn, ltFn, leFn, wrapI, tdivP, tmodP, mid, c74]
  exact rshift_d hok
theorem v75_V (m : Mo) (h : List Blk) : CallP Tryd.prog 75 [.d (encMo m)] h (.d (.int .i64 m.mi)) := by
  refine callW tb_ok fn75 (by simp) (fun hok => ?_)
  simp (disch := first | omega | (simp; done) | (simp; omega)) [ltT, ltF, leT, leF, eqT', eqF, ltTn, leTn, ltFn, leFn, wrapI, tdivP, tmodP, mid, c75]
  exact rshift_d hok
theorem v76_V (m : Mo) (h : List Blk) : CallP Tryd.prog 76 [.d (encMo m)] h (.d (.int .i64 m.s)) := by
  refine callW tb_ok fn76 (by simp) (fun hok => ?_)
  simp (disch := first | omega | (simp; done) | (simp; omega)) [ltT, ltF, leT, leF, eqT', eqF, ltTn, leTn, ltFn, leFn, wrapI, tdivP, tmodP, mid, c76]
  exact rshift_d hok
def Mo.doy (m : Mo) : Int := m.d + cumM m.y (m.m - 1).toNat
theorem v77_V (m : Mo) (hm : m.ok) (h : List Blk) : CallP Tryd.prog 77 [.d (encMo m)] h (.d (.int .i64 m.doy)) := by
  refine callW tb_ok fn77 (by simp) (fun hok => ?_)
  obtain ⟨⟨h1, h2, h3, h4, h5, h6⟩, _⟩ := hm
  have hdm := dim_le m.y m.m
  simp (disch := first | omega | (simp; done) | (simp; omega)) [ltT, ltF, leT, leF, eqT', eqF, ltTn, leTn, ltFn, leFn, wrapI, tdivP, tmodP, mid, c77]
  refine (doy_V m.y m.m m.d (by omega) h4 (by omega) (by omega) _).useV ?_
  simp (disch := first | omega | (simp; done) | (simp; omega)) [ltT, ltF, leT, leF, eqT', eqF, ltTn, leTn, ltFn, leFn, wrapI, tdivP, tmodP, mid, -Int.pred_toNat, Mo.doy]
  exact rshift_d hok
theorem v79_V (m : Mo) (hm : m.ok) (h : List Blk) : CallP Tryd.prog 79 [.d (encMo m)] h (.d (.int .i64 (weekS m.y m.day).1)) := by
  refine callW tb_ok fn79 (by simp) (fun hok => ?_)
  simp (disch := first | omega | (simp; done) | (simp; omega)) [ltT, ltF, leT, leF, eqT', eqF, ltTn, leTn, ltFn, leFn, wrapI, tdivP, tmodP, mid, c79]
  refine (week_V m hm _).useV ?_
  simp (disch := first | omega | (simp; done) | (simp; omega)) [ltT, ltF, leT, leF, eqT', eqF, ltTn, leTn, ltFn, leFn, wrapI, tdivP, tmodP, mid]
  exact rshift_d hok
theorem v80_V (m : Mo) (hm : m.ok) (h : List Blk) : CallP Tryd.prog 80 [.d (encMo m)] h (.d (.int .i64 (weekS m.y m.day).2)) := by
  refine callW tb_ok fn80 (by simp) (fun hok => ?_)
  simp (disch := first | omega | (simp; done) | (simp; omega)) [ltT, ltF, leT, leF, eqT', eqF, ltTn, leTn, ltFn, leFn, wrapI, tdivP, tmodP, mid, c80]
  refine (week_V m hm _).useV ?_
  simp (disch := first | omega | (simp; done) | (simp; omega)) [ltT, ltF, leT, leF, eqT', eqF, ltTn, leTn, ltFn, leFn, wrapI, tdivP, tmodP, mid]
  exact rshift_d hok
theorem v81_V (m : Mo) (h : List Blk) : CallP Tryd.prog 81 [.d (encMo m)] h (.d (.int .i64 m.m)) := by
  refine callW tb_ok fn81 (by simp) (fun hok => ?_)
  simp (disch := first | omega | (simp; done) | (simp; omega)) [ltT, ltF, leT, leF, eqT', eqF, ltTn, leTn, ltFn, leFn, wrapI, tdivP, tmodP, mid, c81]
  exact rshift_d hok

def padS (w : Nat) (n : Int) : List UInt8 := Lib.repeatL [48] (w - (Lib.itoa n).length) ++ Lib.itoa n
def fmtDir (m : Mo) (e : UInt8) : List UInt8 :=
  if e = 89 then padS 4 m.y else if e = 109 then padS 2 m.m else if e = 100 then padS 2 m.d else if e = 72 then padS 2 m.h else if e = 77 then padS 2 m.mi else if e = 83 then padS 2 m.s
  else if e = 106 then padS 3 m.doy else if e = 71 then padS 4 (weekS m.y m.day).1 else if e = 86 then padS 2 (weekS m.y m.day).2 else if e = 117 then padS 1 ((m.day - 1) % 7 + 1)
  else if e = 97 then dayNames.getD ((m.day - 1) % 7).toNat [] else monthNames.getD (m.m - 1).toNat []
def fmtS (m : Mo) : List UInt8 → List UInt8
  | [] => []
  | [c] => [c]
  | c :: e :: l => if c ≠ 37 then c :: fmtS m (e :: l) else if e = 37 then 37 :: fmtS m l else fmtDir m e ++ fmtS m l

theorem weekS_bnd {m : Mo} (hm : m.ok) : 0 ≤ (weekS m.y m.day).1 ∧ (weekS m.y m.day).1 ≤ 10000 ∧ 1 ≤ (weekS m.y m.day).2 ∧ (weekS m.y m.day).2 ≤ 60 := by
  have hr := Mo.day_range hm
  have hb : dB m.y < m.day ∧ m.day ≤ dB (m.y + 1) := dayOf_bnd hm.1.g
  obtain ⟨⟨h1, h2, h3, h4, h5, h6⟩, _⟩ := hm
  have f0 := fm_bnd m.y
  have f1 := fm_bnd (m.y + 1)
  have f2 := fm_bnd (m.y - 1)
  have hs := dB_succ (m.y - 1)
  have hn := leapN_le (m.y - 1)
  have hs1 := dB_succ m.y
  have hn1 := leapN_le m.y
  rw [Int.sub_add_cancel] at hs
  unfold weekS
  by_cases a1 : m.day < fm m.y
  · simp only [if_pos a1]; omega
  · by_cases a2 : fm (m.y + 1) ≤ m.day
    · simp only [if_neg a1, if_pos a2]; omega
    · simp only [if_neg a1, if_neg a2]; omega

theorem decDigits_len : ∀ (k n : Nat), n < 10 ^ (k + 1) → (Lib.decDigits n).length ≤ k + 1
  | 0, n, h => by rw [Lib.decDigits, dif_pos (by simpa using h)]; simp
  | k + 1, n, h => by
    rw [Lib.decDigits]
    split
    · simp
    · have := decDigits_len k (n / 10) (by rw [Nat.pow_succ] at h; omega)
      simp only [List.length_append, List.length_cons, List.length_nil]; omega
theorem itoa_len {n : Int} (h0 : 0 ≤ n) (h : n < 100000) : (Lib.itoa n).length ≤ 5 := by
  unfold Lib.itoa
  rw [if_neg (by omega)]
  exact decDigits_len 4 n.toNat (by omega)
theorem padS_len (w : Nat) {n : Int} (hw : w ≤ 4) (h0 : 0 ≤ n) (h : n < 100000) : (padS w n).length ≤ 5 := by
  have := itoa_len h0 h
  unfold padS
  rw [List.length_append, Lib.repeatL_length]
  simp only [List.length_cons, List.length_nil]
  omega
theorem doy_bnd2 {m : Mo} (hm : m.ok) : 1 ≤ m.doy ∧ m.doy ≤ 403 := by
  obtain ⟨⟨h1, h2, h3, h4, h5, h6⟩, _⟩ := hm
  have hb := cumM_bnd m.y (m.m - 1).toNat (by omega)
  have := dim_le m.y m.m
  unfold Mo.doy
  omega

end Go.Vm
