/- The reference's Decimal and Wide (by program, out of tmpl/Dec.lean). -/
import Derived.Test.YtjjpkeajlgbleaaDoorDt17
import Derived.Test.YtjjpkeajlgbleaaDoorVMd
import Derived.Lib.ItoaNum
import Derived.Lib.Repeat
namespace Go.Vm
open Proofs
set_option maxRecDepth 20000
set_option maxHeartbeats 4000000
set_option linter.unusedSimpArgs false

theorem digit_enc {d : Int} (h0 : 0 ≤ d) (h1 : d < 10) : (Utf8.encode (48 + d)).data.toList = [UInt8.ofNat (48 + d.toNat)] := by
  have : d = 0 ∨ d = 1 ∨ d = 2 ∨ d = 3 ∨ d = 4 ∨ d = 5 ∨ d = 6 ∨ d = 7 ∨ d = 8 ∨ d = 9 := by omega
  rcases this with rfl | rfl | rfl | rfl | rfl | rfl | rfl | rfl | rfl | rfl <;> decide +kernel

theorem wrap32 {n : Int} (h1 : 0 ≤ n) (h2 : n < 1000) : IntKind.i32.wrap n = n := by
  simp only [IntKind.wrap, IntKind.bits, IntKind.signed, Bool.true_and, decide_eq_true_eq, show (2 : Int) ^ 32 = 4294967296 from rfl, show (2 : Int) ^ (32 - 1) = 2147483648 from rfl]
  split <;> omega

theorem decDigits_lenN : ∀ (k n : Nat), n < 10 ^ (k + 1) → (Lib.decDigits n).length ≤ k + 1
  | 0, n, h => by rw [Lib.decDigits, dif_pos (by simpa using h)]; simp
  | k + 1, n, h => by
    rw [Lib.decDigits]
    split
    · simp
    · have := decDigits_lenN k (n / 10) (by rw [Nat.pow_succ] at h; omega)
      simp only [List.length_append, List.length_cons, List.length_nil]; omega

theorem decNat_V (k : Nat) : ∀ (n : Int), 0 ≤ n → n.toNat < 10 ^ (k + 1) → k ≤ 18 → ∀ (h : List Blk), CallP Tryd.prog 88 [.d (.int .i64 n)] h (.d (.str (Lib.decDigits n.toNat))) := by
  induction k with
  | zero =>
    intro n h0 h1 _ h
    refine callW tb_ok fn88 (by simp) (fun hok => ?_)
    have hn : n < 10 := by omega
    have he := digit_enc h0 hn
    have hw := wrap32 (n := 48 + n) (by omega) (by omega)
    rw [Lib.decDigits, dif_pos (by omega)]
    simp (disch := first | omega | (simp; done) | (simp; omega)) [ltT, ltF, leT, leF, eqT', eqF, ltTn, leTn, ltFn, leFn, wrapI, tdivP, tmodP, mid, c88, hw, he]
  | succ k ih =>
    intro n h0 h1 hk h
    refine callW tb_ok fn88 (by simp) (fun hok => ?_)
    have hk10 : (10 : Nat) ^ (k + 1 + 1) ≤ 10 ^ 19 := Nat.pow_le_pow_right (by omega) (by omega)
    have hlt : n.toNat < 10000000000000000000 := by
      have : (10 : Nat) ^ 19 = 10000000000000000000 := by decide
      omega
    by_cases hn : n < 10
    · have he := digit_enc h0 hn
      have hw := wrap32 (n := 48 + n) (by omega) (by omega)
      rw [Lib.decDigits, dif_pos (by omega)]
      simp (disch := first | omega | (simp; done) | (simp; omega)) [ltT, ltF, leT, leF, eqT', eqF, ltTn, leTn, ltFn, leFn, wrapI, tdivP, tmodP, mid, c88, hw, he]
    · have he := digit_enc (d := n % 10) (by omega) (by omega)
      have hw := wrap32 (n := 48 + n % 10) (by omega) (by omega)
      have e1 : (n / 10).toNat = n.toNat / 10 := by omega
      have e2 : (n % 10).toNat = n.toNat % 10 := by omega
      rw [Lib.decDigits, dif_neg (by omega)]
      have hcall := ih (n / 10) (by omega) (by rw [e1]; rw [Nat.pow_succ] at h1; omega) (by omega)
      rw [e1] at hcall
      have hlen := decDigits_lenN k (n.toNat / 10) (by rw [Nat.pow_succ] at h1; omega)
      simp (disch := first | omega | (simp; done) | (simp; omega)) [ltT, ltF, leT, leF, eqT', eqF, ltTn, leTn, ltFn, leFn, wrapI, tdivP, tmodP, mid, c88]
      refine (hcall _).useV ?_
      simp (disch := first | omega | (simp; done) | (simp; omega)) [ltT, ltF, leT, leF, eqT', eqF, ltTn, leTn, ltFn, leFn, wrapI, tdivP, tmodP, mid, hw, he, e2]

/-- Decimal gives the decimal numeral. -/
theorem decimal_V (n : Int) (h0 : -9223372036854775808 ≤ n) (h1 : n ≤ 9223372036854775807) (h : List Blk) : CallP Tryd.prog 88 [.d (.int .i64 n)] h (.d (.str (Lib.itoa n))) := by
  have h19 : (10 : Nat) ^ 19 = 10000000000000000000 := by decide
  rcases Int.lt_or_le n 0 with hn | hn
  · obtain ⟨k, hk⟩ : ∃ k, n = -k := ⟨-n, by omega⟩
    subst hk
    have hna : (-k).natAbs = k.toNat := by omega
    have hi : Lib.itoa (-k) = 45 :: Lib.decDigits k.toNat := by unfold Lib.itoa; rw [if_pos hn, hna]
    have hq : (-k).tdiv 10 = -(k / 10) := by rw [Int.neg_tdiv, tdivP (by omega)]
    have hr : (-k).tmod 10 = -(k % 10) := by rw [Int.neg_tmod, tmodP (by omega)]
    rw [hi]
    refine callW tb_ok fn88 (by simp) (fun hok => ?_)
    by_cases h9 : k < 10
    · have he := digit_enc (d := k) (by omega) h9
      have hw := wrap32 (n := 48 + k) (by omega) (by omega)
      rw [Lib.decDigits, dif_pos (by omega)]
      have e0 : (48 : Int) - -k = 48 + k := by omega
      simp (disch := first | omega | (simp; done) | (simp; omega)) [ltT, ltF, leT, leF, eqT', eqF, ltTn, leTn, ltFn, leFn, wrapI, mid, c88, hw, he, e0]
    · have he := digit_enc (d := k % 10) (by omega) (by omega)
      have hw := wrap32 (n := 48 + k % 10) (by omega) (by omega)
      have e0 : (48 : Int) - -(k % 10) = 48 + k % 10 := by omega
      have e1 : (k / 10).toNat = k.toNat / 10 := by omega
      have e2 : (k % 10).toNat = k.toNat % 10 := by omega
      rw [Lib.decDigits, dif_neg (by omega)]
      have hcall := decNat_V 18 (k / 10) (by omega) (by omega) (by omega)
      rw [e1] at hcall
      have hlen := decDigits_lenN 18 (k.toNat / 10) (by omega)
      simp (disch := first | omega | (simp; done) | (simp; omega)) [ltT, ltF, leT, leF, eqT', eqF, ltTn, leTn, ltFn, leFn, wrapI, mid, c88, hq]
      refine (hcall _).useV ?_
      simp (disch := first | omega | (simp; done) | (simp; omega)) [ltT, ltF, leT, leF, eqT', eqF, ltTn, leTn, ltFn, leFn, wrapI, mid, hr, e0, hw, he, e2]
  · have hi : Lib.itoa n = Lib.decDigits n.toNat := by unfold Lib.itoa; rw [if_neg (by omega)]
    rw [hi]
    exact decNat_V 18 n hn (by omega) (by omega) h

end Go.Vm
