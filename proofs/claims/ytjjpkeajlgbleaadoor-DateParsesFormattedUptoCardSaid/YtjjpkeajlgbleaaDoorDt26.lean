/- date: the reference's reading of a text. -/
import Derived.Test.YtjjpkeajlgbleaaDoorDtW
namespace Go.Vm
open Proofs
set_option maxRecDepth 20000
set_option maxHeartbeats 4000000
set_option linter.unusedSimpArgs false

/-- A number is found for the letter of place k. -/
def putR (fs : List Int) (cf : Bool) (k : Nat) (n : Int) : List Int × Bool := (fs.set k n, cf || (decide (0 ≤ fs.getD k 0) && !decide (fs.getD k 0 = n)))
def dirR (e : UInt8) (l : List UInt8) (fs : List Int) (cf : Bool) : Bool × List UInt8 × List Int × Bool :=
  if e = 37 then ((byteS 37 l).1, (byteS 37 l).2, fs, cf)
  else
    let q := match nsP e with | some ns => nameS ns 0 l | none => numS (widP e) 0 l
    if q.1.2 then (true, q.2, putR fs cf (letR e).toNat q.1.1) else (false, q.2, fs, cf)
def readR : List UInt8 → List UInt8 → List Int → Bool → Bool × List UInt8 × List Int × Bool
  | [], l, fs, cf => (true, l, fs, cf)
  | [c], l, fs, cf => ((byteS c l).1, (byteS c l).2, fs, cf)
  | c :: e :: p, l, fs, cf =>
    if c ≠ 37 then (if (byteS c l).1 then readR (e :: p) (byteS c l).2 fs cf else (false, (byteS c l).2, fs, cf))
    else if (dirR e l fs cf).1 then readR p (dirR e l fs cf).2.1 (dirR e l fs cf).2.2.1 (dirR e l fs cf).2.2.2
    else dirR e l fs cf

theorem readR_byte {c : UInt8} (h : c ≠ 37) (l tr : List UInt8) (fs : List Int) (cf : Bool) : readR (c :: l) tr fs cf = if (byteS c tr).1 = true then readR l (byteS c tr).2 fs cf else (false, (byteS c tr).2, fs, cf) := by
  cases l with
  | nil =>
    simp only [readR]
    cases (byteS c tr).1 <;> rfl
  | cons e l => rw [readR, if_pos h]
theorem readR_dir (e : UInt8) (l tr : List UInt8) (fs : List Int) (cf : Bool) : readR (37 :: e :: l) tr fs cf = if (dirR e tr fs cf).1 = true then readR l (dirR e tr fs cf).2.1 (dirR e tr fs cf).2.2.1 (dirR e tr fs cf).2.2.2
    else (false, (dirR e tr fs cf).2.1, (dirR e tr fs cf).2.2.1, (dirR e tr fs cf).2.2.2) := by
  rw [readR, if_neg (by simp)]
  split
  · rfl
  · rename_i hf
    have : (dirR e tr fs cf).1 = false := Bool.eq_false_iff.mpr hf
    rw [← this]

def encN1 (n : Int) : AV := .d (.int .i64 n)
def fs0 : List Int := [-1, -1, -1, -1, -1, -1, -1, -1, -1, -1, -1, -1]
def pickR (n d : Int) : Int := if 0 ≤ n then n else d
def bg (k i : Nat) (f d : Int) : Int := if i < k then pickR f d else d
def momR (fs : List Int) : Mo := ⟨pickR (fs.getD 0 0) 1, pickR (if fs.getD 1 0 < 0 then fs.getD 11 0 else fs.getD 1 0) 1, pickR (fs.getD 2 0) 1, pickR (fs.getD 3 0) 0, pickR (fs.getD 4 0) 0, pickR (fs.getD 5 0) 0⟩
/-- What the reference makes of what is read. -/
def endR (text : List UInt8) (q : Bool × List UInt8 × List Int × Bool) : Mo × (Int × Int) :=
  if q.1 = false ∨ q.2.1 ≠ [] then (mo0, (1, (text.length - q.2.1.length : Nat))) else
  if q.2.2.2 = true ∨ (0 ≤ q.2.2.1.getD 1 0 ∧ 0 ≤ q.2.2.1.getD 11 0 ∧ q.2.2.1.getD 1 0 ≠ q.2.2.1.getD 11 0) then (mo0, (19, -1)) else
  if (momF (momR q.2.2.1)).1 ≠ 0 then (mo0, (4, -3)) else
  if [6, 7, 8, 9, 10].all (fun k => decide (q.2.2.1.getD k 0 < 0 ∨ q.2.2.1.getD k 0 = (fieldL (momR q.2.2.1)).getD k 0)) = true then (momR q.2.2.1, (0, 0)) else (mo0, (19, -4))

theorem wordS_bnd : ∀ (ns : List (List UInt8)) (s : List UInt8) (i : Int), 0 ≤ i → -1 ≤ wordS ns s i ∧ wordS ns s i < i + ns.length + 1
  | [], _, i, h => by simp only [wordS, List.length_nil]; omega
  | n :: ns, s, i, h => by
    have := wordS_bnd ns s (i + 1) (by omega)
    simp only [wordS, List.length_cons]
    split <;> omega
theorem dayS_at : ∀ k (hk : k < dayNames.length), (daysT.take (4 * k + 3)).drop (4 * k) = dayNames[k] := by decide
theorem monthS_at : ∀ k (hk : k < monthNames.length), (monthsT.take (4 * k + 3)).drop (4 * k) = monthNames[k] := by decide

theorem read_V (text p : List UInt8) (ht : text.length ≤ 1048576) (hp : p.length ≤ 200) (hpz : (patFrom 1000 0 p).1 = 0) (h : List Blk) : CallP Tryd.prog 40 [.d (.str text), .d (.str p)] h (.tup [.d (encMo (endR text (readR p text fs0 false)).1), .d (encF (endR text (readR p text fs0 false)).2)]) := by
  refine callW tb_ok fn40m (by simp) (fun hok => ?_)
  simp (disch := first | omega | (simp; done) | (simp; omega)) [ltT, ltF, leT, leF, eqT', eqF, ltTn, leTn, ltFn, leFn, wrapI, mid, c40m]
  obtain ⟨R, hR⟩ : ∃ R, readR p text fs0 false = R := ⟨_, rfl⟩
  rw [hR]
  refine W_loopA (ι := List UInt8 × List UInt8 × List UInt8 × List Int × Bool) (fun q => q.1 ++ q.2.1 = p ∧ (∃ x, x ++ q.2.2.1 = text) ∧ (patFrom 1000 q.1.length q.2.1).1 = 0 ∧ q.2.2.2.1.length = 12 ∧ readR q.2.1 q.2.2.1 q.2.2.2.1 q.2.2.2.2 = R)
    (fun q => ⟨[(0, .d (.str text)), (1, .d (.str p)), (4, .ptr h.length 23 0 0), (5, .ptr (h.length + 1) 25 0 0), (6, .ref (h.length + 2) 3 0 12), (7, .d (.bool q.2.2.2.2)), (8, .d (.int .i64 (text.length - q.2.2.1.length : Nat))), (9, .d (.int .i64 q.1.length))],
      h ++ [.cells 23 [.d (encMo mo0)], .cells 25 [.d (encF (0, 0))], .cells 3 (q.2.2.2.1.map encN1)]⟩)
    (fun q => q.2.1.length) ([], p, text, fs0, false) ⟨rfl, ⟨[], rfl⟩, hpz, rfl, hR⟩ (Shift.slots' (by simp [mo0, fs0, encN1]) (by simp)) ?_
  rintro ⟨P, q, tr, fs, cf⟩ ⟨hx, ⟨tp, htp⟩, hz, hfl, hr⟩ A hA
  simp only at hx htp hz hfl hr
  subst htp
  simp only [List.length_append] at ht
  have hk2 : (tp ++ tr).length - tr.length = tp.length := by simp
  rw [hk2]
  match q, hx, hz, hr, hA with
  | [], hx, hz, hr, hA =>
    have hRR : R = (true, tr, fs, cf) := by rw [← hr]; rfl
    subst hRR
    have hPl : P.length = p.length := by rw [← hx]; simp
    clear hA
    by_cases htr : tr ≠ []
    · rw [show endR (tp ++ tr) (true, tr, fs, cf) = (mo0, (1, (tp.length : Int))) from by unfold endR; rw [if_pos (.inr htr)]; simp]
      have : 0 < tr.length := List.length_pos_iff.mpr htr
      simp (disch := first | omega | (simp; done) | (simp; omega)) [ltT, ltF, leT, leF, eqT', eqF, ltTn, leTn, ltFn, leFn, wrapI, mid, hPl]
      refine (atF_V 1 tp.length _).useV ?_
      simp (disch := first | omega | (simp; done) | (simp; omega)) [ltT, ltF, leT, leF, eqT', eqF, ltTn, leTn, ltFn, leFn, wrapI, mid, mo0]
      exact RShift.subs ⟨.refl _, .refl _, trivial⟩ (by simp) hok (Nat.le_refl _)
    have htr' : tr = [] := by simpa using htr
    subst htr'
    match fs, hfl, hr with
    | [a0, a1, a2, a3, a4, a5, a6, a7, a8, a9, a10, a11], hfl, hr =>
      obtain ⟨res, hres⟩ : ∃ res, endR (tp ++ []) (true, [], [a0, a1, a2, a3, a4, a5, a6, a7, a8, a9, a10, a11], cf) = res := ⟨_, rfl⟩
      rw [hres]
      unfold endR at hres
      rw [if_neg (by simp)] at hres
      simp only [List.getD_cons_zero, List.getD_cons_succ] at hres
      cases cf with
      | true =>
        rw [if_pos (.inl rfl)] at hres
        rw [← hres]
        simp (disch := first | omega | (simp; done) | (simp; omega)) [ltT, ltF, leT, leF, eqT', eqF, ltTn, leTn, ltFn, leFn, wrapI, mid, hPl, encN1]
        refine (atF_V 19 (-1) _).useV ?_
        simp (disch := first | omega | (simp; done) | (simp; omega)) [ltT, ltF, leT, leF, eqT', eqF, ltTn, leTn, ltFn, leFn, wrapI, mid, mo0]
        exact RShift.subs ⟨.refl _, .refl _, trivial⟩ (by simp) hok (Nat.le_refl _)
      | false =>
        by_cases h1 : 0 ≤ a1 ∧ 0 ≤ a11 ∧ a1 ≠ a11
        · rw [if_pos (.inr h1)] at hres
          rw [← hres]
          obtain ⟨h1, h11, hne⟩ := h1
          simp (disch := first | omega | (simp; done) | (simp; omega)) [ltT, ltF, leT, leF, eqT', eqF, ltTn, leTn, ltFn, leFn, wrapI, mid, hPl, encN1]
          refine (atF_V 19 (-1) _).useV ?_
          simp (disch := first | omega | (simp; done) | (simp; omega)) [ltT, ltF, leT, leF, eqT', eqF, ltTn, leTn, ltFn, leFn, wrapI, mid, mo0]
          exact RShift.subs ⟨.refl _, .refl _, trivial⟩ (by simp) hok (Nat.le_refl _)
        rw [if_neg (by simpa using h1)] at hres
        obtain ⟨m, hm⟩ : ∃ m, m = momR [a0, a1, a2, a3, a4, a5, a6, a7, a8, a9, a10, a11] := ⟨_, rfl⟩
        rw [← hm] at hres
        unfold momR at hm
        simp only [List.getD_cons_zero, List.getD_cons_succ] at hm
        by_cases h2 : a1 < 0
        · have hb1 : a1 < 0 := h2
          have h3 : ¬ 0 ≤ a1 := by omega
          simp (disch := first | omega | (simp; done) | (simp; omega)) [ltT, ltF, leT, leF, eqT', eqF, ltTn, leTn, ltFn, leFn, wrapI, mid, hPl, encN1, h2, h3]
          refine W_loopA (ι := Nat) (fun k => k ≤ 6) (fun k => ⟨[(4, .ptr h.length 23 0 0), (5, .ptr (h.length + 1) 25 0 0), (6, .ref (h.length + 2) 3 0 12), (14, .ref (h.length + 3) 3 0 6), (15, .d (.int .i64 k))],
            h ++ [.cells 23 [.d (encMo mo0)], .cells 25 [.d (encF (0, 0))], .cells 3 ([a0, a11, a2, a3, a4, a5, a6, a7, a8, a9, a10, a11].map encN1), .cells 3 ([bg k 0 a0 1, bg k 1 a11 1, bg k 2 a2 1, bg k 3 a3 0, bg k 4 a4 0, bg k 5 a5 0].map encN1)]⟩)
            (fun k => 6 - k) 0 (by simp) (Shift.slots' (by simp [mo0, encN1, bg]) (by simp)) ?_
          rintro k hk A hA
          by_cases hk6 : k = 6
          · subst hk6
            clear hA
            have e0 : (⟨bg 6 0 a0 1, bg 6 1 a11 1, bg 6 2 a2 1, bg 6 3 a3 0, bg 6 4 a4 0, bg 6 5 a5 0⟩ : Mo) = m := by rw [hm]; simp [bg, hb1]
            simp (disch := first | omega | (simp; done) | (simp; omega)) [ltT, ltF, leT, leF, eqT', eqF, ltTn, leTn, ltFn, leFn, wrapI, mid, encN1]
            refine regV_all ?_
            simp (disch := first | omega | (simp; done) | (simp; omega)) [ltT, ltF, leT, leF, eqT', eqF, ltTn, leTn, ltFn, leFn, wrapI, mid, e0]
            refine (momentFault_V m _).useV ?_
            by_cases h6 : (momF m).1 ≠ 0
            · rw [if_pos h6] at hres
              rw [← hres]
              simp (disch := first | omega | (simp; done) | (simp; omega)) [ltT, ltF, leT, leF, eqT', eqF, ltTn, leTn, ltFn, leFn, wrapI, mid, h6]
              refine (atF_V 4 (-3) _).useV ?_
              simp (disch := first | omega | (simp; done) | (simp; omega)) [ltT, ltF, leT, leF, eqT', eqF, ltTn, leTn, ltFn, leFn, wrapI, mid, mo0]
              exact RShift.subs ⟨.refl _, .refl _, trivial⟩ (by simp) hok (Nat.le_refl _)
            rw [if_neg h6] at hres
            obtain ⟨hmz, hmok⟩ := momF_ok h6
            simp (disch := first | omega | (simp; done) | (simp; omega)) [ltT, ltF, leT, leF, eqT', eqF, ltTn, leTn, ltFn, leFn, wrapI, mid, hmz]
            refine W_loopA (ι := Nat) (fun k => 6 ≤ k ∧ k ≤ 11 ∧ ∀ i, 6 ≤ i → i < k → (([a6, a7, a8, a9, a10] : List Int).getD (i - 6) 0 < 0 ∨ ([a6, a7, a8, a9, a10] : List Int).getD (i - 6) 0 = (fieldL m).getD i 0))
              (fun k => ⟨[(4, .ptr h.length 23 0 0), (5, .ptr (h.length + 1) 25 0 0), (6, .ref (h.length + 2) 3 0 12), (16, .ptr (h.length + 4) 23 0 0), (17, .d (.int .i64 k))],
                h ++ [.cells 23 [.d (encMo mo0)], .cells 25 [.d (encF (0, 0))], .cells 3 ([a0, a11, a2, a3, a4, a5, a6, a7, a8, a9, a10, a11].map encN1), .cells 3 ([bg 6 0 a0 1, bg 6 1 a11 1, bg 6 2 a2 1, bg 6 3 a3 0, bg 6 4 a4 0, bg 6 5 a5 0].map encN1), .cells 23 [.d (encMo m)]]⟩)
              (fun k => 11 - k) 6 ⟨by simp, by simp, fun i h1 h2 => by omega⟩ (Shift.slots' (by simp [mo0, encN1]) (by simp)) ?_
            rintro k ⟨hk1, hk2, hk3⟩ A hA
            by_cases hk11 : k = 11
            · subst hk11
              clear hA
              rw [if_pos (by
                have q6 := hk3 6 (by omega) (by omega)
                have q7 := hk3 7 (by omega) (by omega)
                have q8 := hk3 8 (by omega) (by omega)
                have q9 := hk3 9 (by omega) (by omega)
                have q10 := hk3 10 (by omega) (by omega)
                simp only [Nat.sub_self, List.getD_cons_zero, List.getD_cons_succ, Nat.reduceSub] at q6 q7 q8 q9 q10
                simp only [List.all_cons, List.all_nil, Bool.and_true, Bool.and_eq_true, decide_eq_true_eq, List.getD_cons_zero, List.getD_cons_succ]
                exact ⟨q6, q7, q8, q9, q10⟩)] at hres
              rw [← hres]
              simp (disch := first | omega | (simp; done) | (simp; omega)) [ltT, ltF, leT, leF, eqT', eqF, ltTn, leTn, ltFn, leFn, wrapI, mid]
              refine regV_all ?_
              simp (disch := first | omega | (simp; done) | (simp; omega)) [ltT, ltF, leT, leF, eqT', eqF, ltTn, leTn, ltFn, leFn, wrapI, mid]
              refine (atF_V 0 0 _).useV ?_
              simp (disch := first | omega | (simp; done) | (simp; omega)) [ltT, ltF, leT, leF, eqT', eqF, ltTn, leTn, ltFn, leFn, wrapI, mid, mo0]
              exact RShift.subs ⟨.refl _, .refl _, trivial⟩ (by simp) hok (Nat.le_refl _)
            · have h11 : k = 6 ∨ k = 7 ∨ k = 8 ∨ k = 9 ∨ k = 10 := by omega
              rcases h11 with rfl | rfl | rfl | rfl | rfl
              · by_cases hf : 0 ≤ a6
                · simp (disch := first | omega | (simp; done) | (simp; omega)) [ltT, ltF, leT, leF, eqT', eqF, ltTn, leTn, ltFn, leFn, wrapI, mid, encN1]
                  refine regV_all ?_
                  simp (disch := first | omega | (simp; done) | (simp; omega)) [ltT, ltF, leT, leF, eqT', eqF, ltTn, leTn, ltFn, leFn, wrapI, mid, hf]
                  obtain ⟨v, hv0⟩ : ∃ v, (fieldL m).getD 6 0 = v := ⟨_, rfl⟩
                  refine (field_V m 6 hmok (by omega) _).useV ?_
                  rw [hv0]
                  by_cases hv : a6 = v
                  · simp (disch := first | omega | (simp; done) | (simp; omega)) [ltT, ltF, leT, leF, eqT', eqF, ltTn, leTn, ltFn, leFn, wrapI, mid, eq_true hv]
                    exact hA 7 _ ⟨by simp, by simp, (fun i h1 h2 => by
                    by_cases hik : i = 6
                    · subst hik; exact .inr (hv.trans hv0.symm)
                    · exact hk3 i h1 (by omega))⟩ (by simp) (Shift.slots' (by simp [encN1, mo0]) (by simp))
                  · rw [if_neg (by
                      simp only [List.all_cons, List.all_nil, Bool.and_true, Bool.and_eq_true, decide_eq_true_eq, List.getD_cons_zero, List.getD_cons_succ]
                      rintro ⟨q6, q7, q8, q9, q10⟩
                      rcases q6 with q | q
                      · omega
                      · exact hv (q.trans hv0))] at hres
                    rw [← hres]
                    simp (disch := first | omega | (simp; done) | (simp; omega)) [ltT, ltF, leT, leF, eqT', eqF, ltTn, leTn, ltFn, leFn, wrapI, mid, eq_false hv]
                    refine (atF_V 19 (-4) _).useV ?_
                    simp (disch := first | omega | (simp; done) | (simp; omega)) [ltT, ltF, leT, leF, eqT', eqF, ltTn, leTn, ltFn, leFn, wrapI, mid, mo0]
                    exact RShift.subs ⟨.refl _, .refl _, trivial⟩ (by simp) hok (Nat.le_refl _)
                · simp (disch := first | omega | (simp; done) | (simp; omega)) [ltT, ltF, leT, leF, eqT', eqF, ltTn, leTn, ltFn, leFn, wrapI, mid, encN1]
                  refine regV_all ?_
                  simp (disch := first | omega | (simp; done) | (simp; omega)) [ltT, ltF, leT, leF, eqT', eqF, ltTn, leTn, ltFn, leFn, wrapI, mid, hf]
                  exact hA 7 _ ⟨by simp, by simp, (fun i h1 h2 => by
                    by_cases hik : i = 6
                    · subst hik; exact .inl (by simpa using hf)
                    · exact hk3 i h1 (by omega))⟩ (by simp) (Shift.slots' (by simp [encN1, mo0]) (by simp))
              · by_cases hf : 0 ≤ a7
                · simp (disch := first | omega | (simp; done) | (simp; omega)) [ltT, ltF, leT, leF, eqT', eqF, ltTn, leTn, ltFn, leFn, wrapI, mid, encN1]
                  refine regV_all ?_
                  simp (disch := first | omega | (simp; done) | (simp; omega)) [ltT, ltF, leT, leF, eqT', eqF, ltTn, leTn, ltFn, leFn, wrapI, mid, hf]
                  obtain ⟨v, hv0⟩ : ∃ v, (fieldL m).getD 7 0 = v := ⟨_, rfl⟩
                  refine (field_V m 7 hmok (by omega) _).useV ?_
                  rw [hv0]
                  by_cases hv : a7 = v
                  · simp (disch := first | omega | (simp; done) | (simp; omega)) [ltT, ltF, leT, leF, eqT', eqF, ltTn, leTn, ltFn, leFn, wrapI, mid, eq_true hv]
                    exact hA 8 _ ⟨by simp, by simp, (fun i h1 h2 => by
                    by_cases hik : i = 7
                    · subst hik; exact .inr (hv.trans hv0.symm)
                    · exact hk3 i h1 (by omega))⟩ (by simp) (Shift.slots' (by simp [encN1, mo0]) (by simp))
                  · rw [if_neg (by
                      simp only [List.all_cons, List.all_nil, Bool.and_true, Bool.and_eq_true, decide_eq_true_eq, List.getD_cons_zero, List.getD_cons_succ]
                      rintro ⟨q6, q7, q8, q9, q10⟩
                      rcases q7 with q | q
                      · omega
                      · exact hv (q.trans hv0))] at hres
                    rw [← hres]
                    simp (disch := first | omega | (simp; done) | (simp; omega)) [ltT, ltF, leT, leF, eqT', eqF, ltTn, leTn, ltFn, leFn, wrapI, mid, eq_false hv]
                    refine (atF_V 19 (-4) _).useV ?_
                    simp (disch := first | omega | (simp; done) | (simp; omega)) [ltT, ltF, leT, leF, eqT', eqF, ltTn, leTn, ltFn, leFn, wrapI, mid, mo0]
                    exact RShift.subs ⟨.refl _, .refl _, trivial⟩ (by simp) hok (Nat.le_refl _)
                · simp (disch := first | omega | (simp; done) | (simp; omega)) [ltT, ltF, leT, leF, eqT', eqF, ltTn, leTn, ltFn, leFn, wrapI, mid, encN1]
                  refine regV_all ?_
                  simp (disch := first | omega | (simp; done) | (simp; omega)) [ltT, ltF, leT, leF, eqT', eqF, ltTn, leTn, ltFn, leFn, wrapI, mid, hf]
                  exact hA 8 _ ⟨by simp, by simp, (fun i h1 h2 => by
                    by_cases hik : i = 7
                    · subst hik; exact .inl (by simpa using hf)
                    · exact hk3 i h1 (by omega))⟩ (by simp) (Shift.slots' (by simp [encN1, mo0]) (by simp))
              · by_cases hf : 0 ≤ a8
                · simp (disch := first | omega | (simp; done) | (simp; omega)) [ltT, ltF, leT, leF, eqT', eqF, ltTn, leTn, ltFn, leFn, wrapI, mid, encN1]
                  refine regV_all ?_
                  simp (disch := first | omega | (simp; done) | (simp; omega)) [ltT, ltF, leT, leF, eqT', eqF, ltTn, leTn, ltFn, leFn, wrapI, mid, hf]
                  obtain ⟨v, hv0⟩ : ∃ v, (fieldL m).getD 8 0 = v := ⟨_, rfl⟩
                  refine (field_V m 8 hmok (by omega) _).useV ?_
                  rw [hv0]
                  by_cases hv : a8 = v
                  · simp (disch := first | omega | (simp; done) | (simp; omega)) [ltT, ltF, leT, leF, eqT', eqF, ltTn, leTn, ltFn, leFn, wrapI, mid, eq_true hv]
                    exact hA 9 _ ⟨by simp, by simp, (fun i h1 h2 => by
                    by_cases hik : i = 8
                    · subst hik; exact .inr (hv.trans hv0.symm)
                    · exact hk3 i h1 (by omega))⟩ (by simp) (Shift.slots' (by simp [encN1, mo0]) (by simp))
                  · rw [if_neg (by
                      simp only [List.all_cons, List.all_nil, Bool.and_true, Bool.and_eq_true, decide_eq_true_eq, List.getD_cons_zero, List.getD_cons_succ]
                      rintro ⟨q6, q7, q8, q9, q10⟩
                      rcases q8 with q | q
                      · omega
                      · exact hv (q.trans hv0))] at hres
                    rw [← hres]
                    simp (disch := first | omega | (simp; done) | (simp; omega)) [ltT, ltF, leT, leF, eqT', eqF, ltTn, leTn, ltFn, leFn, wrapI, mid, eq_false hv]
                    refine (atF_V 19 (-4) _).useV ?_
                    simp (disch := first | omega | (simp; done) | (simp; omega)) [ltT, ltF, leT, leF, eqT', eqF, ltTn, leTn, ltFn, leFn, wrapI, mid, mo0]
                    exact RShift.subs ⟨.refl _, .refl _, trivial⟩ (by simp) hok (Nat.le_refl _)
                · simp (disch := first | omega | (simp; done) | (simp; omega)) [ltT, ltF, leT, leF, eqT', eqF, ltTn, leTn, ltFn, leFn, wrapI, mid, encN1]
                  refine regV_all ?_
                  simp (disch := first | omega | (simp; done) | (simp; omega)) [ltT, ltF, leT, leF, eqT', eqF, ltTn, leTn, ltFn, leFn, wrapI, mid, hf]
                  exact hA 9 _ ⟨by simp, by simp, (fun i h1 h2 => by
                    by_cases hik : i = 8
                    · subst hik; exact .inl (by simpa using hf)
                    · exact hk3 i h1 (by omega))⟩ (by simp) (Shift.slots' (by simp [encN1, mo0]) (by simp))
              · by_cases hf : 0 ≤ a9
                · simp (disch := first | omega | (simp; done) | (simp; omega)) [ltT, ltF, leT, leF, eqT', eqF, ltTn, leTn, ltFn, leFn, wrapI, mid, encN1]
                  refine regV_all ?_
                  simp (disch := first | omega | (simp; done) | (simp; omega)) [ltT, ltF, leT, leF, eqT', eqF, ltTn, leTn, ltFn, leFn, wrapI, mid, hf]
                  obtain ⟨v, hv0⟩ : ∃ v, (fieldL m).getD 9 0 = v := ⟨_, rfl⟩
                  refine (field_V m 9 hmok (by omega) _).useV ?_
                  rw [hv0]
                  by_cases hv : a9 = v
                  · simp (disch := first | omega | (simp; done) | (simp; omega)) [ltT, ltF, leT, leF, eqT', eqF, ltTn, leTn, ltFn, leFn, wrapI, mid, eq_true hv]
                    exact hA 10 _ ⟨by simp, by simp, (fun i h1 h2 => by
                    by_cases hik : i = 9
                    · subst hik; exact .inr (hv.trans hv0.symm)
                    · exact hk3 i h1 (by omega))⟩ (by simp) (Shift.slots' (by simp [encN1, mo0]) (by simp))
                  · rw [if_neg (by
                      simp only [List.all_cons, List.all_nil, Bool.and_true, Bool.and_eq_true, decide_eq_true_eq, List.getD_cons_zero, List.getD_cons_succ]
                      rintro ⟨q6, q7, q8, q9, q10⟩
                      rcases q9 with q | q
                      · omega
                      · exact hv (q.trans hv0))] at hres
                    rw [← hres]
                    simp (disch := first | omega | (simp; done) | (simp; omega)) [ltT, ltF, leT, leF, eqT', eqF, ltTn, leTn, ltFn, leFn, wrapI, mid, eq_false hv]
                    refine (atF_V 19 (-4) _).useV ?_
                    simp (disch := first | omega | (simp; done) | (simp; omega)) [ltT, ltF, leT, leF, eqT', eqF, ltTn, leTn, ltFn, leFn, wrapI, mid, mo0]
                    exact RShift.subs ⟨.refl _, .refl _, trivial⟩ (by simp) hok (Nat.le_refl _)
                · simp (disch := first | omega | (simp; done) | (simp; omega)) [ltT, ltF, leT, leF, eqT', eqF, ltTn, leTn, ltFn, leFn, wrapI, mid, encN1]
                  refine regV_all ?_
                  simp (disch := first | omega | (simp; done) | (simp; omega)) [ltT, ltF, leT, leF, eqT', eqF, ltTn, leTn, ltFn, leFn, wrapI, mid, hf]
                  exact hA 10 _ ⟨by simp, by simp, (fun i h1 h2 => by
                    by_cases hik : i = 9
                    · subst hik; exact .inl (by simpa using hf)
                    · exact hk3 i h1 (by omega))⟩ (by simp) (Shift.slots' (by simp [encN1, mo0]) (by simp))
              · by_cases hf : 0 ≤ a10
                · simp (disch := first | omega | (simp; done) | (simp; omega)) [ltT, ltF, leT, leF, eqT', eqF, ltTn, leTn, ltFn, leFn, wrapI, mid, encN1]
                  refine regV_all ?_
                  simp (disch := first | omega | (simp; done) | (simp; omega)) [ltT, ltF, leT, leF, eqT', eqF, ltTn, leTn, ltFn, leFn, wrapI, mid, hf]
                  obtain ⟨v, hv0⟩ : ∃ v, (fieldL m).getD 10 0 = v := ⟨_, rfl⟩
                  refine (field_V m 10 hmok (by omega) _).useV ?_
                  rw [hv0]
                  by_cases hv : a10 = v
                  · simp (disch := first | omega | (simp; done) | (simp; omega)) [ltT, ltF, leT, leF, eqT', eqF, ltTn, leTn, ltFn, leFn, wrapI, mid, eq_true hv]
                    exact hA 11 _ ⟨by simp, by simp, (fun i h1 h2 => by
                    by_cases hik : i = 10
                    · subst hik; exact .inr (hv.trans hv0.symm)
                    · exact hk3 i h1 (by omega))⟩ (by simp) (Shift.slots' (by simp [encN1, mo0]) (by simp))
                  · rw [if_neg (by
                      simp only [List.all_cons, List.all_nil, Bool.and_true, Bool.and_eq_true, decide_eq_true_eq, List.getD_cons_zero, List.getD_cons_succ]
                      rintro ⟨q6, q7, q8, q9, q10⟩
                      rcases q10 with q | q
                      · omega
                      · exact hv (q.trans hv0))] at hres
                    rw [← hres]
                    simp (disch := first | omega | (simp; done) | (simp; omega)) [ltT, ltF, leT, leF, eqT', eqF, ltTn, leTn, ltFn, leFn, wrapI, mid, eq_false hv]
                    refine (atF_V 19 (-4) _).useV ?_
                    simp (disch := first | omega | (simp; done) | (simp; omega)) [ltT, ltF, leT, leF, eqT', eqF, ltTn, leTn, ltFn, leFn, wrapI, mid, mo0]
                    exact RShift.subs ⟨.refl _, .refl _, trivial⟩ (by simp) hok (Nat.le_refl _)
                · simp (disch := first | omega | (simp; done) | (simp; omega)) [ltT, ltF, leT, leF, eqT', eqF, ltTn, leTn, ltFn, leFn, wrapI, mid, encN1]
                  refine regV_all ?_
                  simp (disch := first | omega | (simp; done) | (simp; omega)) [ltT, ltF, leT, leF, eqT', eqF, ltTn, leTn, ltFn, leFn, wrapI, mid, hf]
                  exact hA 11 _ ⟨by simp, by simp, (fun i h1 h2 => by
                    by_cases hik : i = 10
                    · subst hik; exact .inl (by simpa using hf)
                    · exact hk3 i h1 (by omega))⟩ (by simp) (Shift.slots' (by simp [encN1, mo0]) (by simp))

          · have h6 : k = 0 ∨ k = 1 ∨ k = 2 ∨ k = 3 ∨ k = 4 ∨ k = 5 := by omega
            rcases h6 with rfl | rfl | rfl | rfl | rfl | rfl
            · by_cases hf : 0 ≤ a0
              · simp (disch := first | omega | (simp; done) | (simp; omega)) [ltT, ltF, leT, leF, eqT', eqF, ltTn, leTn, ltFn, leFn, wrapI, mid, encN1, hf]
                exact hA 1 _ (by simp) (by simp) (Shift.slots' (by simp [encN1, bg, pickR, hf, mo0]) (by simp))
              · simp (disch := first | omega | (simp; done) | (simp; omega)) [ltT, ltF, leT, leF, eqT', eqF, ltTn, leTn, ltFn, leFn, wrapI, mid, encN1, hf]
                exact hA 1 _ (by simp) (by simp) (Shift.slots' (by simp [encN1, bg, pickR, hf, mo0]) (by simp))
            · by_cases hf : 0 ≤ a11
              · simp (disch := first | omega | (simp; done) | (simp; omega)) [ltT, ltF, leT, leF, eqT', eqF, ltTn, leTn, ltFn, leFn, wrapI, mid, encN1, hf]
                exact hA 2 _ (by simp) (by simp) (Shift.slots' (by simp [encN1, bg, pickR, hf, mo0]) (by simp))
              · simp (disch := first | omega | (simp; done) | (simp; omega)) [ltT, ltF, leT, leF, eqT', eqF, ltTn, leTn, ltFn, leFn, wrapI, mid, encN1, hf]
                exact hA 2 _ (by simp) (by simp) (Shift.slots' (by simp [encN1, bg, pickR, hf, mo0]) (by simp))
            · by_cases hf : 0 ≤ a2
              · simp (disch := first | omega | (simp; done) | (simp; omega)) [ltT, ltF, leT, leF, eqT', eqF, ltTn, leTn, ltFn, leFn, wrapI, mid, encN1, hf]
                exact hA 3 _ (by simp) (by simp) (Shift.slots' (by simp [encN1, bg, pickR, hf, mo0]) (by simp))
              · simp (disch := first | omega | (simp; done) | (simp; omega)) [ltT, ltF, leT, leF, eqT', eqF, ltTn, leTn, ltFn, leFn, wrapI, mid, encN1, hf]
                exact hA 3 _ (by simp) (by simp) (Shift.slots' (by simp [encN1, bg, pickR, hf, mo0]) (by simp))
            · by_cases hf : 0 ≤ a3
              · simp (disch := first | omega | (simp; done) | (simp; omega)) [ltT, ltF, leT, leF, eqT', eqF, ltTn, leTn, ltFn, leFn, wrapI, mid, encN1, hf]
                exact hA 4 _ (by simp) (by simp) (Shift.slots' (by simp [encN1, bg, pickR, hf, mo0]) (by simp))
              · simp (disch := first | omega | (simp; done) | (simp; omega)) [ltT, ltF, leT, leF, eqT', eqF, ltTn, leTn, ltFn, leFn, wrapI, mid, encN1, hf]
                exact hA 4 _ (by simp) (by simp) (Shift.slots' (by simp [encN1, bg, pickR, hf, mo0]) (by simp))
            · by_cases hf : 0 ≤ a4
              · simp (disch := first | omega | (simp; done) | (simp; omega)) [ltT, ltF, leT, leF, eqT', eqF, ltTn, leTn, ltFn, leFn, wrapI, mid, encN1, hf]
                exact hA 5 _ (by simp) (by simp) (Shift.slots' (by simp [encN1, bg, pickR, hf, mo0]) (by simp))
              · simp (disch := first | omega | (simp; done) | (simp; omega)) [ltT, ltF, leT, leF, eqT', eqF, ltTn, leTn, ltFn, leFn, wrapI, mid, encN1, hf]
                exact hA 5 _ (by simp) (by simp) (Shift.slots' (by simp [encN1, bg, pickR, hf, mo0]) (by simp))
            · by_cases hf : 0 ≤ a5
              · simp (disch := first | omega | (simp; done) | (simp; omega)) [ltT, ltF, leT, leF, eqT', eqF, ltTn, leTn, ltFn, leFn, wrapI, mid, encN1, hf]
                exact hA 6 _ (by simp) (by simp) (Shift.slots' (by simp [encN1, bg, pickR, hf, mo0]) (by simp))
              · simp (disch := first | omega | (simp; done) | (simp; omega)) [ltT, ltF, leT, leF, eqT', eqF, ltTn, leTn, ltFn, leFn, wrapI, mid, encN1, hf]
                exact hA 6 _ (by simp) (by simp) (Shift.slots' (by simp [encN1, bg, pickR, hf, mo0]) (by simp))
        · have hb1 : ¬ a1 < 0 := h2
          have h3 : 0 ≤ a1 := by omega
          by_cases h4 : 0 ≤ a11
          · have h5 : a1 = a11 := Classical.byContradiction fun h => h1 ⟨h3, h4, h⟩
            subst h5
            simp (disch := first | omega | (simp; done) | (simp; omega)) [ltT, ltF, leT, leF, eqT', eqF, ltTn, leTn, ltFn, leFn, wrapI, mid, hPl, encN1, h2, h3]
            refine W_loopA (ι := Nat) (fun k => k ≤ 6) (fun k => ⟨[(4, .ptr h.length 23 0 0), (5, .ptr (h.length + 1) 25 0 0), (6, .ref (h.length + 2) 3 0 12), (14, .ref (h.length + 3) 3 0 6), (15, .d (.int .i64 k))],
              h ++ [.cells 23 [.d (encMo mo0)], .cells 25 [.d (encF (0, 0))], .cells 3 ([a0, a1, a2, a3, a4, a5, a6, a7, a8, a9, a10, a1].map encN1), .cells 3 ([bg k 0 a0 1, bg k 1 a1 1, bg k 2 a2 1, bg k 3 a3 0, bg k 4 a4 0, bg k 5 a5 0].map encN1)]⟩)
              (fun k => 6 - k) 0 (by simp) (Shift.slots' (by simp [mo0, encN1, bg]) (by simp)) ?_
            rintro k hk A hA
            by_cases hk6 : k = 6
            · subst hk6
              clear hA
              have e0 : (⟨bg 6 0 a0 1, bg 6 1 a1 1, bg 6 2 a2 1, bg 6 3 a3 0, bg 6 4 a4 0, bg 6 5 a5 0⟩ : Mo) = m := by rw [hm]; simp [bg, hb1]
              simp (disch := first | omega | (simp; done) | (simp; omega)) [ltT, ltF, leT, leF, eqT', eqF, ltTn, leTn, ltFn, leFn, wrapI, mid, encN1]
              refine regV_all ?_
              simp (disch := first | omega | (simp; done) | (simp; omega)) [ltT, ltF, leT, leF, eqT', eqF, ltTn, leTn, ltFn, leFn, wrapI, mid, e0]
              refine (momentFault_V m _).useV ?_
              by_cases h6 : (momF m).1 ≠ 0
              · rw [if_pos h6] at hres
                rw [← hres]
                simp (disch := first | omega | (simp; done) | (simp; omega)) [ltT, ltF, leT, leF, eqT', eqF, ltTn, leTn, ltFn, leFn, wrapI, mid, h6]
                refine (atF_V 4 (-3) _).useV ?_
                simp (disch := first | omega | (simp; done) | (simp; omega)) [ltT, ltF, leT, leF, eqT', eqF, ltTn, leTn, ltFn, leFn, wrapI, mid, mo0]
                exact RShift.subs ⟨.refl _, .refl _, trivial⟩ (by simp) hok (Nat.le_refl _)
              rw [if_neg h6] at hres
              obtain ⟨hmz, hmok⟩ := momF_ok h6
              simp (disch := first | omega | (simp; done) | (simp; omega)) [ltT, ltF, leT, leF, eqT', eqF, ltTn, leTn, ltFn, leFn, wrapI, mid, hmz]
              refine W_loopA (ι := Nat) (fun k => 6 ≤ k ∧ k ≤ 11 ∧ ∀ i, 6 ≤ i → i < k → (([a6, a7, a8, a9, a10] : List Int).getD (i - 6) 0 < 0 ∨ ([a6, a7, a8, a9, a10] : List Int).getD (i - 6) 0 = (fieldL m).getD i 0))
                (fun k => ⟨[(4, .ptr h.length 23 0 0), (5, .ptr (h.length + 1) 25 0 0), (6, .ref (h.length + 2) 3 0 12), (16, .ptr (h.length + 4) 23 0 0), (17, .d (.int .i64 k))],
                  h ++ [.cells 23 [.d (encMo mo0)], .cells 25 [.d (encF (0, 0))], .cells 3 ([a0, a1, a2, a3, a4, a5, a6, a7, a8, a9, a10, a1].map encN1), .cells 3 ([bg 6 0 a0 1, bg 6 1 a1 1, bg 6 2 a2 1, bg 6 3 a3 0, bg 6 4 a4 0, bg 6 5 a5 0].map encN1), .cells 23 [.d (encMo m)]]⟩)
                (fun k => 11 - k) 6 ⟨by simp, by simp, fun i h1 h2 => by omega⟩ (Shift.slots' (by simp [mo0, encN1]) (by simp)) ?_
              rintro k ⟨hk1, hk2, hk3⟩ A hA
              by_cases hk11 : k = 11
              · subst hk11
                clear hA
                rw [if_pos (by
                  have q6 := hk3 6 (by omega) (by omega)
                  have q7 := hk3 7 (by omega) (by omega)
                  have q8 := hk3 8 (by omega) (by omega)
                  have q9 := hk3 9 (by omega) (by omega)
                  have q10 := hk3 10 (by omega) (by omega)
                  simp only [Nat.sub_self, List.getD_cons_zero, List.getD_cons_succ, Nat.reduceSub] at q6 q7 q8 q9 q10
                  simp only [List.all_cons, List.all_nil, Bool.and_true, Bool.and_eq_true, decide_eq_true_eq, List.getD_cons_zero, List.getD_cons_succ]
                  exact ⟨q6, q7, q8, q9, q10⟩)] at hres
                rw [← hres]
                simp (disch := first | omega | (simp; done) | (simp; omega)) [ltT, ltF, leT, leF, eqT', eqF, ltTn, leTn, ltFn, leFn, wrapI, mid]
                refine regV_all ?_
                simp (disch := first | omega | (simp; done) | (simp; omega)) [ltT, ltF, leT, leF, eqT', eqF, ltTn, leTn, ltFn, leFn, wrapI, mid]
                refine (atF_V 0 0 _).useV ?_
                simp (disch := first | omega | (simp; done) | (simp; omega)) [ltT, ltF, leT, leF, eqT', eqF, ltTn, leTn, ltFn, leFn, wrapI, mid, mo0]
                exact RShift.subs ⟨.refl _, .refl _, trivial⟩ (by simp) hok (Nat.le_refl _)
              · have h11 : k = 6 ∨ k = 7 ∨ k = 8 ∨ k = 9 ∨ k = 10 := by omega
                rcases h11 with rfl | rfl | rfl | rfl | rfl
                · by_cases hf : 0 ≤ a6
                  · simp (disch := first | omega | (simp; done) | (simp; omega)) [ltT, ltF, leT, leF, eqT', eqF, ltTn, leTn, ltFn, leFn, wrapI, mid, encN1]
                    refine regV_all ?_
                    simp (disch := first | omega | (simp; done) | (simp; omega)) [ltT, ltF, leT, leF, eqT', eqF, ltTn, leTn, ltFn, leFn, wrapI, mid, hf]
                    obtain ⟨v, hv0⟩ : ∃ v, (fieldL m).getD 6 0 = v := ⟨_, rfl⟩
                    refine (field_V m 6 hmok (by omega) _).useV ?_
                    rw [hv0]
                    by_cases hv : a6 = v
                    · simp (disch := first | omega | (simp; done) | (simp; omega)) [ltT, ltF, leT, leF, eqT', eqF, ltTn, leTn, ltFn, leFn, wrapI, mid, eq_true hv]
                      exact hA 7 _ ⟨by simp, by simp, (fun i h1 h2 => by
                      by_cases hik : i = 6
                      · subst hik; exact .inr (hv.trans hv0.symm)
                      · exact hk3 i h1 (by omega))⟩ (by simp) (Shift.slots' (by simp [encN1, mo0]) (by simp))
                    · rw [if_neg (by
                        simp only [List.all_cons, List.all_nil, Bool.and_true, Bool.and_eq_true, decide_eq_true_eq, List.getD_cons_zero, List.getD_cons_succ]
                        rintro ⟨q6, q7, q8, q9, q10⟩
                        rcases q6 with q | q
                        · omega
                        · exact hv (q.trans hv0))] at hres
                      rw [← hres]
                      simp (disch := first | omega | (simp; done) | (simp; omega)) [ltT, ltF, leT, leF, eqT', eqF, ltTn, leTn, ltFn, leFn, wrapI, mid, eq_false hv]
                      refine (atF_V 19 (-4) _).useV ?_
                      simp (disch := first | omega | (simp; done) | (simp; omega)) [ltT, ltF, leT, leF, eqT', eqF, ltTn, leTn, ltFn, leFn, wrapI, mid, mo0]
                      exact RShift.subs ⟨.refl _, .refl _, trivial⟩ (by simp) hok (Nat.le_refl _)
                  · simp (disch := first | omega | (simp; done) | (simp; omega)) [ltT, ltF, leT, leF, eqT', eqF, ltTn, leTn, ltFn, leFn, wrapI, mid, encN1]
                    refine regV_all ?_
                    simp (disch := first | omega | (simp; done) | (simp; omega)) [ltT, ltF, leT, leF, eqT', eqF, ltTn, leTn, ltFn, leFn, wrapI, mid, hf]
                    exact hA 7 _ ⟨by simp, by simp, (fun i h1 h2 => by
                      by_cases hik : i = 6
                      · subst hik; exact .inl (by simpa using hf)
                      · exact hk3 i h1 (by omega))⟩ (by simp) (Shift.slots' (by simp [encN1, mo0]) (by simp))
                · by_cases hf : 0 ≤ a7
                  · simp (disch := first | omega | (simp; done) | (simp; omega)) [ltT, ltF, leT, leF, eqT', eqF, ltTn, leTn, ltFn, leFn, wrapI, mid, encN1]
                    refine regV_all ?_
                    simp (disch := first | omega | (simp; done) | (simp; omega)) [ltT, ltF, leT, leF, eqT', eqF, ltTn, leTn, ltFn, leFn, wrapI, mid, hf]
                    obtain ⟨v, hv0⟩ : ∃ v, (fieldL m).getD 7 0 = v := ⟨_, rfl⟩
                    refine (field_V m 7 hmok (by omega) _).useV ?_
                    rw [hv0]
                    by_cases hv : a7 = v
                    · simp (disch := first | omega | (simp; done) | (simp; omega)) [ltT, ltF, leT, leF, eqT', eqF, ltTn, leTn, ltFn, leFn, wrapI, mid, eq_true hv]
                      exact hA 8 _ ⟨by simp, by simp, (fun i h1 h2 => by
                      by_cases hik : i = 7
                      · subst hik; exact .inr (hv.trans hv0.symm)
                      · exact hk3 i h1 (by omega))⟩ (by simp) (Shift.slots' (by simp [encN1, mo0]) (by simp))
                    · rw [if_neg (by
                        simp only [List.all_cons, List.all_nil, Bool.and_true, Bool.and_eq_true, decide_eq_true_eq, List.getD_cons_zero, List.getD_cons_succ]
                        rintro ⟨q6, q7, q8, q9, q10⟩
                        rcases q7 with q | q
                        · omega
                        · exact hv (q.trans hv0))] at hres
                      rw [← hres]
                      simp (disch := first | omega | (simp; done) | (simp; omega)) [ltT, ltF, leT, leF, eqT', eqF, ltTn, leTn, ltFn, leFn, wrapI, mid, eq_false hv]
                      refine (atF_V 19 (-4) _).useV ?_
                      simp (disch := first | omega | (simp; done) | (simp; omega)) [ltT, ltF, leT, leF, eqT', eqF, ltTn, leTn, ltFn, leFn, wrapI, mid, mo0]
                      exact RShift.subs ⟨.refl _, .refl _, trivial⟩ (by simp) hok (Nat.le_refl _)
                  · simp (disch := first | omega | (simp; done) | (simp; omega)) [ltT, ltF, leT, leF, eqT', eqF, ltTn, leTn, ltFn, leFn, wrapI, mid, encN1]
                    refine regV_all ?_
                    simp (disch := first | omega | (simp; done) | (simp; omega)) [ltT, ltF, leT, leF, eqT', eqF, ltTn, leTn, ltFn, leFn, wrapI, mid, hf]
                    exact hA 8 _ ⟨by simp, by simp, (fun i h1 h2 => by
                      by_cases hik : i = 7
                      · subst hik; exact .inl (by simpa using hf)
                      · exact hk3 i h1 (by omega))⟩ (by simp) (Shift.slots' (by simp [encN1, mo0]) (by simp))
                · by_cases hf : 0 ≤ a8
                  · simp (disch := first | omega | (simp; done) | (simp; omega)) [ltT, ltF, leT, leF, eqT', eqF, ltTn, leTn, ltFn, leFn, wrapI, mid, encN1]
                    refine regV_all ?_
                    simp (disch := first | omega | (simp; done) | (simp; omega)) [ltT, ltF, leT, leF, eqT', eqF, ltTn, leTn, ltFn, leFn, wrapI, mid, hf]
                    obtain ⟨v, hv0⟩ : ∃ v, (fieldL m).getD 8 0 = v := ⟨_, rfl⟩
                    refine (field_V m 8 hmok (by omega) _).useV ?_
                    rw [hv0]
                    by_cases hv : a8 = v
                    · simp (disch := first | omega | (simp; done) | (simp; omega)) [ltT, ltF, leT, leF, eqT', eqF, ltTn, leTn, ltFn, leFn, wrapI, mid, eq_true hv]
                      exact hA 9 _ ⟨by simp, by simp, (fun i h1 h2 => by
                      by_cases hik : i = 8
                      · subst hik; exact .inr (hv.trans hv0.symm)
                      · exact hk3 i h1 (by omega))⟩ (by simp) (Shift.slots' (by simp [encN1, mo0]) (by simp))
                    · rw [if_neg (by
                        simp only [List.all_cons, List.all_nil, Bool.and_true, Bool.and_eq_true, decide_eq_true_eq, List.getD_cons_zero, List.getD_cons_succ]
                        rintro ⟨q6, q7, q8, q9, q10⟩
                        rcases q8 with q | q
                        · omega
                        · exact hv (q.trans hv0))] at hres
                      rw [← hres]
                      simp (disch := first | omega | (simp; done) | (simp; omega)) [ltT, ltF, leT, leF, eqT', eqF, ltTn, leTn, ltFn, leFn, wrapI, mid, eq_false hv]
                      refine (atF_V 19 (-4) _).useV ?_
                      simp (disch := first | omega | (simp; done) | (simp; omega)) [ltT, ltF, leT, leF, eqT', eqF, ltTn, leTn, ltFn, leFn, wrapI, mid, mo0]
                      exact RShift.subs ⟨.refl _, .refl _, trivial⟩ (by simp) hok (Nat.le_refl _)
                  · simp (disch := first | omega | (simp; done) | (simp; omega)) [ltT, ltF, leT, leF, eqT', eqF, ltTn, leTn, ltFn, leFn, wrapI, mid, encN1]
                    refine regV_all ?_
                    simp (disch := first | omega | (simp; done) | (simp; omega)) [ltT, ltF, leT, leF, eqT', eqF, ltTn, leTn, ltFn, leFn, wrapI, mid, hf]
                    exact hA 9 _ ⟨by simp, by simp, (fun i h1 h2 => by
                      by_cases hik : i = 8
                      · subst hik; exact .inl (by simpa using hf)
                      · exact hk3 i h1 (by omega))⟩ (by simp) (Shift.slots' (by simp [encN1, mo0]) (by simp))
                · by_cases hf : 0 ≤ a9
                  · simp (disch := first | omega | (simp; done) | (simp; omega)) [ltT, ltF, leT, leF, eqT', eqF, ltTn, leTn, ltFn, leFn, wrapI, mid, encN1]
                    refine regV_all ?_
                    simp (disch := first | omega | (simp; done) | (simp; omega)) [ltT, ltF, leT, leF, eqT', eqF, ltTn, leTn, ltFn, leFn, wrapI, mid, hf]
                    obtain ⟨v, hv0⟩ : ∃ v, (fieldL m).getD 9 0 = v := ⟨_, rfl⟩
                    refine (field_V m 9 hmok (by omega) _).useV ?_
                    rw [hv0]
                    by_cases hv : a9 = v
                    · simp (disch := first | omega | (simp; done) | (simp; omega)) [ltT, ltF, leT, leF, eqT', eqF, ltTn, leTn, ltFn, leFn, wrapI, mid, eq_true hv]
                      exact hA 10 _ ⟨by simp, by simp, (fun i h1 h2 => by
                      by_cases hik : i = 9
                      · subst hik; exact .inr (hv.trans hv0.symm)
                      · exact hk3 i h1 (by omega))⟩ (by simp) (Shift.slots' (by simp [encN1, mo0]) (by simp))
                    · rw [if_neg (by
                        simp only [List.all_cons, List.all_nil, Bool.and_true, Bool.and_eq_true, decide_eq_true_eq, List.getD_cons_zero, List.getD_cons_succ]
                        rintro ⟨q6, q7, q8, q9, q10⟩
                        rcases q9 with q | q
                        · omega
                        · exact hv (q.trans hv0))] at hres
                      rw [← hres]
                      simp (disch := first | omega | (simp; done) | (simp; omega)) [ltT, ltF, leT, leF, eqT', eqF, ltTn, leTn, ltFn, leFn, wrapI, mid, eq_false hv]
                      refine (atF_V 19 (-4) _).useV ?_
                      simp (disch := first | omega | (simp; done) | (simp; omega)) [ltT, ltF, leT, leF, eqT', eqF, ltTn, leTn, ltFn, leFn, wrapI, mid, mo0]
                      exact RShift.subs ⟨.refl _, .refl _, trivial⟩ (by simp) hok (Nat.le_refl _)
                  · simp (disch := first | omega | (simp; done) | (simp; omega)) [ltT, ltF, leT, leF, eqT', eqF, ltTn, leTn, ltFn, leFn, wrapI, mid, encN1]
                    refine regV_all ?_
                    simp (disch := first | omega | (simp; done) | (simp; omega)) [ltT, ltF, leT, leF, eqT', eqF, ltTn, leTn, ltFn, leFn, wrapI, mid, hf]
                    exact hA 10 _ ⟨by simp, by simp, (fun i h1 h2 => by
                      by_cases hik : i = 9
                      · subst hik; exact .inl (by simpa using hf)
                      · exact hk3 i h1 (by omega))⟩ (by simp) (Shift.slots' (by simp [encN1, mo0]) (by simp))
                · by_cases hf : 0 ≤ a10
                  · simp (disch := first | omega | (simp; done) | (simp; omega)) [ltT, ltF, leT, leF, eqT', eqF, ltTn, leTn, ltFn, leFn, wrapI, mid, encN1]
                    refine regV_all ?_
                    simp (disch := first | omega | (simp; done) | (simp; omega)) [ltT, ltF, leT, leF, eqT', eqF, ltTn, leTn, ltFn, leFn, wrapI, mid, hf]
                    obtain ⟨v, hv0⟩ : ∃ v, (fieldL m).getD 10 0 = v := ⟨_, rfl⟩
                    refine (field_V m 10 hmok (by omega) _).useV ?_
                    rw [hv0]
                    by_cases hv : a10 = v
                    · simp (disch := first | omega | (simp; done) | (simp; omega)) [ltT, ltF, leT, leF, eqT', eqF, ltTn, leTn, ltFn, leFn, wrapI, mid, eq_true hv]
                      exact hA 11 _ ⟨by simp, by simp, (fun i h1 h2 => by
                      by_cases hik : i = 10
                      · subst hik; exact .inr (hv.trans hv0.symm)
                      · exact hk3 i h1 (by omega))⟩ (by simp) (Shift.slots' (by simp [encN1, mo0]) (by simp))
                    · rw [if_neg (by
                        simp only [List.all_cons, List.all_nil, Bool.and_true, Bool.and_eq_true, decide_eq_true_eq, List.getD_cons_zero, List.getD_cons_succ]
                        rintro ⟨q6, q7, q8, q9, q10⟩
                        rcases q10 with q | q
                        · omega
                        · exact hv (q.trans hv0))] at hres
                      rw [← hres]
                      simp (disch := first | omega | (simp; done) | (simp; omega)) [ltT, ltF, leT, leF, eqT', eqF, ltTn, leTn, ltFn, leFn, wrapI, mid, eq_false hv]
                      refine (atF_V 19 (-4) _).useV ?_
                      simp (disch := first | omega | (simp; done) | (simp; omega)) [ltT, ltF, leT, leF, eqT', eqF, ltTn, leTn, ltFn, leFn, wrapI, mid, mo0]
                      exact RShift.subs ⟨.refl _, .refl _, trivial⟩ (by simp) hok (Nat.le_refl _)
                  · simp (disch := first | omega | (simp; done) | (simp; omega)) [ltT, ltF, leT, leF, eqT', eqF, ltTn, leTn, ltFn, leFn, wrapI, mid, encN1]
                    refine regV_all ?_
                    simp (disch := first | omega | (simp; done) | (simp; omega)) [ltT, ltF, leT, leF, eqT', eqF, ltTn, leTn, ltFn, leFn, wrapI, mid, hf]
                    exact hA 11 _ ⟨by simp, by simp, (fun i h1 h2 => by
                      by_cases hik : i = 10
                      · subst hik; exact .inl (by simpa using hf)
                      · exact hk3 i h1 (by omega))⟩ (by simp) (Shift.slots' (by simp [encN1, mo0]) (by simp))

            · have h6 : k = 0 ∨ k = 1 ∨ k = 2 ∨ k = 3 ∨ k = 4 ∨ k = 5 := by omega
              rcases h6 with rfl | rfl | rfl | rfl | rfl | rfl
              · by_cases hf : 0 ≤ a0
                · simp (disch := first | omega | (simp; done) | (simp; omega)) [ltT, ltF, leT, leF, eqT', eqF, ltTn, leTn, ltFn, leFn, wrapI, mid, encN1, hf]
                  exact hA 1 _ (by simp) (by simp) (Shift.slots' (by simp [encN1, bg, pickR, hf, mo0]) (by simp))
                · simp (disch := first | omega | (simp; done) | (simp; omega)) [ltT, ltF, leT, leF, eqT', eqF, ltTn, leTn, ltFn, leFn, wrapI, mid, encN1, hf]
                  exact hA 1 _ (by simp) (by simp) (Shift.slots' (by simp [encN1, bg, pickR, hf, mo0]) (by simp))
              · by_cases hf : 0 ≤ a1
                · simp (disch := first | omega | (simp; done) | (simp; omega)) [ltT, ltF, leT, leF, eqT', eqF, ltTn, leTn, ltFn, leFn, wrapI, mid, encN1, hf]
                  exact hA 2 _ (by simp) (by simp) (Shift.slots' (by simp [encN1, bg, pickR, hf, mo0]) (by simp))
                · exact absurd h3 hf
                  
              · by_cases hf : 0 ≤ a2
                · simp (disch := first | omega | (simp; done) | (simp; omega)) [ltT, ltF, leT, leF, eqT', eqF, ltTn, leTn, ltFn, leFn, wrapI, mid, encN1, hf]
                  exact hA 3 _ (by simp) (by simp) (Shift.slots' (by simp [encN1, bg, pickR, hf, mo0]) (by simp))
                · simp (disch := first | omega | (simp; done) | (simp; omega)) [ltT, ltF, leT, leF, eqT', eqF, ltTn, leTn, ltFn, leFn, wrapI, mid, encN1, hf]
                  exact hA 3 _ (by simp) (by simp) (Shift.slots' (by simp [encN1, bg, pickR, hf, mo0]) (by simp))
              · by_cases hf : 0 ≤ a3
                · simp (disch := first | omega | (simp; done) | (simp; omega)) [ltT, ltF, leT, leF, eqT', eqF, ltTn, leTn, ltFn, leFn, wrapI, mid, encN1, hf]
                  exact hA 4 _ (by simp) (by simp) (Shift.slots' (by simp [encN1, bg, pickR, hf, mo0]) (by simp))
                · simp (disch := first | omega | (simp; done) | (simp; omega)) [ltT, ltF, leT, leF, eqT', eqF, ltTn, leTn, ltFn, leFn, wrapI, mid, encN1, hf]
                  exact hA 4 _ (by simp) (by simp) (Shift.slots' (by simp [encN1, bg, pickR, hf, mo0]) (by simp))
              · by_cases hf : 0 ≤ a4
                · simp (disch := first | omega | (simp; done) | (simp; omega)) [ltT, ltF, leT, leF, eqT', eqF, ltTn, leTn, ltFn, leFn, wrapI, mid, encN1, hf]
                  exact hA 5 _ (by simp) (by simp) (Shift.slots' (by simp [encN1, bg, pickR, hf, mo0]) (by simp))
                · simp (disch := first | omega | (simp; done) | (simp; omega)) [ltT, ltF, leT, leF, eqT', eqF, ltTn, leTn, ltFn, leFn, wrapI, mid, encN1, hf]
                  exact hA 5 _ (by simp) (by simp) (Shift.slots' (by simp [encN1, bg, pickR, hf, mo0]) (by simp))
              · by_cases hf : 0 ≤ a5
                · simp (disch := first | omega | (simp; done) | (simp; omega)) [ltT, ltF, leT, leF, eqT', eqF, ltTn, leTn, ltFn, leFn, wrapI, mid, encN1, hf]
                  exact hA 6 _ (by simp) (by simp) (Shift.slots' (by simp [encN1, bg, pickR, hf, mo0]) (by simp))
                · simp (disch := first | omega | (simp; done) | (simp; omega)) [ltT, ltF, leT, leF, eqT', eqF, ltTn, leTn, ltFn, leFn, wrapI, mid, encN1, hf]
                  exact hA 6 _ (by simp) (by simp) (Shift.slots' (by simp [encN1, bg, pickR, hf, mo0]) (by simp))
          · simp (disch := first | omega | (simp; done) | (simp; omega)) [ltT, ltF, leT, leF, eqT', eqF, ltTn, leTn, ltFn, leFn, wrapI, mid, hPl, encN1, h2, h3, h4]
            refine W_loopA (ι := Nat) (fun k => k ≤ 6) (fun k => ⟨[(4, .ptr h.length 23 0 0), (5, .ptr (h.length + 1) 25 0 0), (6, .ref (h.length + 2) 3 0 12), (14, .ref (h.length + 3) 3 0 6), (15, .d (.int .i64 k))],
              h ++ [.cells 23 [.d (encMo mo0)], .cells 25 [.d (encF (0, 0))], .cells 3 ([a0, a1, a2, a3, a4, a5, a6, a7, a8, a9, a10, a11].map encN1), .cells 3 ([bg k 0 a0 1, bg k 1 a1 1, bg k 2 a2 1, bg k 3 a3 0, bg k 4 a4 0, bg k 5 a5 0].map encN1)]⟩)
              (fun k => 6 - k) 0 (by simp) (Shift.slots' (by simp [mo0, encN1, bg]) (by simp)) ?_
            rintro k hk A hA
            by_cases hk6 : k = 6
            · subst hk6
              clear hA
              have e0 : (⟨bg 6 0 a0 1, bg 6 1 a1 1, bg 6 2 a2 1, bg 6 3 a3 0, bg 6 4 a4 0, bg 6 5 a5 0⟩ : Mo) = m := by rw [hm]; simp [bg, hb1]
              simp (disch := first | omega | (simp; done) | (simp; omega)) [ltT, ltF, leT, leF, eqT', eqF, ltTn, leTn, ltFn, leFn, wrapI, mid, encN1]
              refine regV_all ?_
              simp (disch := first | omega | (simp; done) | (simp; omega)) [ltT, ltF, leT, leF, eqT', eqF, ltTn, leTn, ltFn, leFn, wrapI, mid, e0]
              refine (momentFault_V m _).useV ?_
              by_cases h6 : (momF m).1 ≠ 0
              · rw [if_pos h6] at hres
                rw [← hres]
                simp (disch := first | omega | (simp; done) | (simp; omega)) [ltT, ltF, leT, leF, eqT', eqF, ltTn, leTn, ltFn, leFn, wrapI, mid, h6]
                refine (atF_V 4 (-3) _).useV ?_
                simp (disch := first | omega | (simp; done) | (simp; omega)) [ltT, ltF, leT, leF, eqT', eqF, ltTn, leTn, ltFn, leFn, wrapI, mid, mo0]
                exact RShift.subs ⟨.refl _, .refl _, trivial⟩ (by simp) hok (Nat.le_refl _)
              rw [if_neg h6] at hres
              obtain ⟨hmz, hmok⟩ := momF_ok h6
              simp (disch := first | omega | (simp; done) | (simp; omega)) [ltT, ltF, leT, leF, eqT', eqF, ltTn, leTn, ltFn, leFn, wrapI, mid, hmz]
              refine W_loopA (ι := Nat) (fun k => 6 ≤ k ∧ k ≤ 11 ∧ ∀ i, 6 ≤ i → i < k → (([a6, a7, a8, a9, a10] : List Int).getD (i - 6) 0 < 0 ∨ ([a6, a7, a8, a9, a10] : List Int).getD (i - 6) 0 = (fieldL m).getD i 0))
                (fun k => ⟨[(4, .ptr h.length 23 0 0), (5, .ptr (h.length + 1) 25 0 0), (6, .ref (h.length + 2) 3 0 12), (16, .ptr (h.length + 4) 23 0 0), (17, .d (.int .i64 k))],
                  h ++ [.cells 23 [.d (encMo mo0)], .cells 25 [.d (encF (0, 0))], .cells 3 ([a0, a1, a2, a3, a4, a5, a6, a7, a8, a9, a10, a11].map encN1), .cells 3 ([bg 6 0 a0 1, bg 6 1 a1 1, bg 6 2 a2 1, bg 6 3 a3 0, bg 6 4 a4 0, bg 6 5 a5 0].map encN1), .cells 23 [.d (encMo m)]]⟩)
                (fun k => 11 - k) 6 ⟨by simp, by simp, fun i h1 h2 => by omega⟩ (Shift.slots' (by simp [mo0, encN1]) (by simp)) ?_
              rintro k ⟨hk1, hk2, hk3⟩ A hA
              by_cases hk11 : k = 11
              · subst hk11
                clear hA
                rw [if_pos (by
                  have q6 := hk3 6 (by omega) (by omega)
                  have q7 := hk3 7 (by omega) (by omega)
                  have q8 := hk3 8 (by omega) (by omega)
                  have q9 := hk3 9 (by omega) (by omega)
                  have q10 := hk3 10 (by omega) (by omega)
                  simp only [Nat.sub_self, List.getD_cons_zero, List.getD_cons_succ, Nat.reduceSub] at q6 q7 q8 q9 q10
                  simp only [List.all_cons, List.all_nil, Bool.and_true, Bool.and_eq_true, decide_eq_true_eq, List.getD_cons_zero, List.getD_cons_succ]
                  exact ⟨q6, q7, q8, q9, q10⟩)] at hres
                rw [← hres]
                simp (disch := first | omega | (simp; done) | (simp; omega)) [ltT, ltF, leT, leF, eqT', eqF, ltTn, leTn, ltFn, leFn, wrapI, mid]
                refine regV_all ?_
                simp (disch := first | omega | (simp; done) | (simp; omega)) [ltT, ltF, leT, leF, eqT', eqF, ltTn, leTn, ltFn, leFn, wrapI, mid]
                refine (atF_V 0 0 _).useV ?_
                simp (disch := first | omega | (simp; done) | (simp; omega)) [ltT, ltF, leT, leF, eqT', eqF, ltTn, leTn, ltFn, leFn, wrapI, mid, mo0]
                exact RShift.subs ⟨.refl _, .refl _, trivial⟩ (by simp) hok (Nat.le_refl _)
              · have h11 : k = 6 ∨ k = 7 ∨ k = 8 ∨ k = 9 ∨ k = 10 := by omega
                rcases h11 with rfl | rfl | rfl | rfl | rfl
                · by_cases hf : 0 ≤ a6
                  · simp (disch := first | omega | (simp; done) | (simp; omega)) [ltT, ltF, leT, leF, eqT', eqF, ltTn, leTn, ltFn, leFn, wrapI, mid, encN1]
                    refine regV_all ?_
                    simp (disch := first | omega | (simp; done) | (simp; omega)) [ltT, ltF, leT, leF, eqT', eqF, ltTn, leTn, ltFn, leFn, wrapI, mid, hf]
                    obtain ⟨v, hv0⟩ : ∃ v, (fieldL m).getD 6 0 = v := ⟨_, rfl⟩
                    refine (field_V m 6 hmok (by omega) _).useV ?_
                    rw [hv0]
                    by_cases hv : a6 = v
                    · simp (disch := first | omega | (simp; done) | (simp; omega)) [ltT, ltF, leT, leF, eqT', eqF, ltTn, leTn, ltFn, leFn, wrapI, mid, eq_true hv]
                      exact hA 7 _ ⟨by simp, by simp, (fun i h1 h2 => by
                      by_cases hik : i = 6
                      · subst hik; exact .inr (hv.trans hv0.symm)
                      · exact hk3 i h1 (by omega))⟩ (by simp) (Shift.slots' (by simp [encN1, mo0]) (by simp))
                    · rw [if_neg (by
                        simp only [List.all_cons, List.all_nil, Bool.and_true, Bool.and_eq_true, decide_eq_true_eq, List.getD_cons_zero, List.getD_cons_succ]
                        rintro ⟨q6, q7, q8, q9, q10⟩
                        rcases q6 with q | q
                        · omega
                        · exact hv (q.trans hv0))] at hres
                      rw [← hres]
                      simp (disch := first | omega | (simp; done) | (simp; omega)) [ltT, ltF, leT, leF, eqT', eqF, ltTn, leTn, ltFn, leFn, wrapI, mid, eq_false hv]
                      refine (atF_V 19 (-4) _).useV ?_
                      simp (disch := first | omega | (simp; done) | (simp; omega)) [ltT, ltF, leT, leF, eqT', eqF, ltTn, leTn, ltFn, leFn, wrapI, mid, mo0]
                      exact RShift.subs ⟨.refl _, .refl _, trivial⟩ (by simp) hok (Nat.le_refl _)
                  · simp (disch := first | omega | (simp; done) | (simp; omega)) [ltT, ltF, leT, leF, eqT', eqF, ltTn, leTn, ltFn, leFn, wrapI, mid, encN1]
                    refine regV_all ?_
                    simp (disch := first | omega | (simp; done) | (simp; omega)) [ltT, ltF, leT, leF, eqT', eqF, ltTn, leTn, ltFn, leFn, wrapI, mid, hf]
                    exact hA 7 _ ⟨by simp, by simp, (fun i h1 h2 => by
                      by_cases hik : i = 6
                      · subst hik; exact .inl (by simpa using hf)
                      · exact hk3 i h1 (by omega))⟩ (by simp) (Shift.slots' (by simp [encN1, mo0]) (by simp))
                · by_cases hf : 0 ≤ a7
                  · simp (disch := first | omega | (simp; done) | (simp; omega)) [ltT, ltF, leT, leF, eqT', eqF, ltTn, leTn, ltFn, leFn, wrapI, mid, encN1]
                    refine regV_all ?_
                    simp (disch := first | omega | (simp; done) | (simp; omega)) [ltT, ltF, leT, leF, eqT', eqF, ltTn, leTn, ltFn, leFn, wrapI, mid, hf]
                    obtain ⟨v, hv0⟩ : ∃ v, (fieldL m).getD 7 0 = v := ⟨_, rfl⟩
                    refine (field_V m 7 hmok (by omega) _).useV ?_
                    rw [hv0]
                    by_cases hv : a7 = v
                    · simp (disch := first | omega | (simp; done) | (simp; omega)) [ltT, ltF, leT, leF, eqT', eqF, ltTn, leTn, ltFn, leFn, wrapI, mid, eq_true hv]
                      exact hA 8 _ ⟨by simp, by simp, (fun i h1 h2 => by
                      by_cases hik : i = 7
                      · subst hik; exact .inr (hv.trans hv0.symm)
                      · exact hk3 i h1 (by omega))⟩ (by simp) (Shift.slots' (by simp [encN1, mo0]) (by simp))
                    · rw [if_neg (by
                        simp only [List.all_cons, List.all_nil, Bool.and_true, Bool.and_eq_true, decide_eq_true_eq, List.getD_cons_zero, List.getD_cons_succ]
                        rintro ⟨q6, q7, q8, q9, q10⟩
                        rcases q7 with q | q
                        · omega
                        · exact hv (q.trans hv0))] at hres
                      rw [← hres]
                      simp (disch := first | omega | (simp; done) | (simp; omega)) [ltT, ltF, leT, leF, eqT', eqF, ltTn, leTn, ltFn, leFn, wrapI, mid, eq_false hv]
                      refine (atF_V 19 (-4) _).useV ?_
                      simp (disch := first | omega | (simp; done) | (simp; omega)) [ltT, ltF, leT, leF, eqT', eqF, ltTn, leTn, ltFn, leFn, wrapI, mid, mo0]
                      exact RShift.subs ⟨.refl _, .refl _, trivial⟩ (by simp) hok (Nat.le_refl _)
                  · simp (disch := first | omega | (simp; done) | (simp; omega)) [ltT, ltF, leT, leF, eqT', eqF, ltTn, leTn, ltFn, leFn, wrapI, mid, encN1]
                    refine regV_all ?_
                    simp (disch := first | omega | (simp; done) | (simp; omega)) [ltT, ltF, leT, leF, eqT', eqF, ltTn, leTn, ltFn, leFn, wrapI, mid, hf]
                    exact hA 8 _ ⟨by simp, by simp, (fun i h1 h2 => by
                      by_cases hik : i = 7
                      · subst hik; exact .inl (by simpa using hf)
                      · exact hk3 i h1 (by omega))⟩ (by simp) (Shift.slots' (by simp [encN1, mo0]) (by simp))
                · by_cases hf : 0 ≤ a8
                  · simp (disch := first | omega | (simp; done) | (simp; omega)) [ltT, ltF, leT, leF, eqT', eqF, ltTn, leTn, ltFn, leFn, wrapI, mid, encN1]
                    refine regV_all ?_
                    simp (disch := first | omega | (simp; done) | (simp; omega)) [ltT, ltF, leT, leF, eqT', eqF, ltTn, leTn, ltFn, leFn, wrapI, mid, hf]
                    obtain ⟨v, hv0⟩ : ∃ v, (fieldL m).getD 8 0 = v := ⟨_, rfl⟩
                    refine (field_V m 8 hmok (by omega) _).useV ?_
                    rw [hv0]
                    by_cases hv : a8 = v
                    · simp (disch := first | omega | (simp; done) | (simp; omega)) [ltT, ltF, leT, leF, eqT', eqF, ltTn, leTn, ltFn, leFn, wrapI, mid, eq_true hv]
                      exact hA 9 _ ⟨by simp, by simp, (fun i h1 h2 => by
                      by_cases hik : i = 8
                      · subst hik; exact .inr (hv.trans hv0.symm)
                      · exact hk3 i h1 (by omega))⟩ (by simp) (Shift.slots' (by simp [encN1, mo0]) (by simp))
                    · rw [if_neg (by
                        simp only [List.all_cons, List.all_nil, Bool.and_true, Bool.and_eq_true, decide_eq_true_eq, List.getD_cons_zero, List.getD_cons_succ]
                        rintro ⟨q6, q7, q8, q9, q10⟩
                        rcases q8 with q | q
                        · omega
                        · exact hv (q.trans hv0))] at hres
                      rw [← hres]
                      simp (disch := first | omega | (simp; done) | (simp; omega)) [ltT, ltF, leT, leF, eqT', eqF, ltTn, leTn, ltFn, leFn, wrapI, mid, eq_false hv]
                      refine (atF_V 19 (-4) _).useV ?_
                      simp (disch := first | omega | (simp; done) | (simp; omega)) [ltT, ltF, leT, leF, eqT', eqF, ltTn, leTn, ltFn, leFn, wrapI, mid, mo0]
                      exact RShift.subs ⟨.refl _, .refl _, trivial⟩ (by simp) hok (Nat.le_refl _)
                  · simp (disch := first | omega | (simp; done) | (simp; omega)) [ltT, ltF, leT, leF, eqT', eqF, ltTn, leTn, ltFn, leFn, wrapI, mid, encN1]
                    refine regV_all ?_
                    simp (disch := first | omega | (simp; done) | (simp; omega)) [ltT, ltF, leT, leF, eqT', eqF, ltTn, leTn, ltFn, leFn, wrapI, mid, hf]
                    exact hA 9 _ ⟨by simp, by simp, (fun i h1 h2 => by
                      by_cases hik : i = 8
                      · subst hik; exact .inl (by simpa using hf)
                      · exact hk3 i h1 (by omega))⟩ (by simp) (Shift.slots' (by simp [encN1, mo0]) (by simp))
                · by_cases hf : 0 ≤ a9
                  · simp (disch := first | omega | (simp; done) | (simp; omega)) [ltT, ltF, leT, leF, eqT', eqF, ltTn, leTn, ltFn, leFn, wrapI, mid, encN1]
                    refine regV_all ?_
                    simp (disch := first | omega | (simp; done) | (simp; omega)) [ltT, ltF, leT, leF, eqT', eqF, ltTn, leTn, ltFn, leFn, wrapI, mid, hf]
                    obtain ⟨v, hv0⟩ : ∃ v, (fieldL m).getD 9 0 = v := ⟨_, rfl⟩
                    refine (field_V m 9 hmok (by omega) _).useV ?_
                    rw [hv0]
                    by_cases hv : a9 = v
                    · simp (disch := first | omega | (simp; done) | (simp; omega)) [ltT, ltF, leT, leF, eqT', eqF, ltTn, leTn, ltFn, leFn, wrapI, mid, eq_true hv]
                      exact hA 10 _ ⟨by simp, by simp, (fun i h1 h2 => by
                      by_cases hik : i = 9
                      · subst hik; exact .inr (hv.trans hv0.symm)
                      · exact hk3 i h1 (by omega))⟩ (by simp) (Shift.slots' (by simp [encN1, mo0]) (by simp))
                    · rw [if_neg (by
                        simp only [List.all_cons, List.all_nil, Bool.and_true, Bool.and_eq_true, decide_eq_true_eq, List.getD_cons_zero, List.getD_cons_succ]
                        rintro ⟨q6, q7, q8, q9, q10⟩
                        rcases q9 with q | q
                        · omega
                        · exact hv (q.trans hv0))] at hres
                      rw [← hres]
                      simp (disch := first | omega | (simp; done) | (simp; omega)) [ltT, ltF, leT, leF, eqT', eqF, ltTn, leTn, ltFn, leFn, wrapI, mid, eq_false hv]
                      refine (atF_V 19 (-4) _).useV ?_
                      simp (disch := first | omega | (simp; done) | (simp; omega)) [ltT, ltF, leT, leF, eqT', eqF, ltTn, leTn, ltFn, leFn, wrapI, mid, mo0]
                      exact RShift.subs ⟨.refl _, .refl _, trivial⟩ (by simp) hok (Nat.le_refl _)
                  · simp (disch := first | omega | (simp; done) | (simp; omega)) [ltT, ltF, leT, leF, eqT', eqF, ltTn, leTn, ltFn, leFn, wrapI, mid, encN1]
                    refine regV_all ?_
                    simp (disch := first | omega | (simp; done) | (simp; omega)) [ltT, ltF, leT, leF, eqT', eqF, ltTn, leTn, ltFn, leFn, wrapI, mid, hf]
                    exact hA 10 _ ⟨by simp, by simp, (fun i h1 h2 => by
                      by_cases hik : i = 9
                      · subst hik; exact .inl (by simpa using hf)
                      · exact hk3 i h1 (by omega))⟩ (by simp) (Shift.slots' (by simp [encN1, mo0]) (by simp))
                · by_cases hf : 0 ≤ a10
                  · simp (disch := first | omega | (simp; done) | (simp; omega)) [ltT, ltF, leT, leF, eqT', eqF, ltTn, leTn, ltFn, leFn, wrapI, mid, encN1]
                    refine regV_all ?_
                    simp (disch := first | omega | (simp; done) | (simp; omega)) [ltT, ltF, leT, leF, eqT', eqF, ltTn, leTn, ltFn, leFn, wrapI, mid, hf]
                    obtain ⟨v, hv0⟩ : ∃ v, (fieldL m).getD 10 0 = v := ⟨_, rfl⟩
                    refine (field_V m 10 hmok (by omega) _).useV ?_
                    rw [hv0]
                    by_cases hv : a10 = v
                    · simp (disch := first | omega | (simp; done) | (simp; omega)) [ltT, ltF, leT, leF, eqT', eqF, ltTn, leTn, ltFn, leFn, wrapI, mid, eq_true hv]
                      exact hA 11 _ ⟨by simp, by simp, (fun i h1 h2 => by
                      by_cases hik : i = 10
                      · subst hik; exact .inr (hv.trans hv0.symm)
                      · exact hk3 i h1 (by omega))⟩ (by simp) (Shift.slots' (by simp [encN1, mo0]) (by simp))
                    · rw [if_neg (by
                        simp only [List.all_cons, List.all_nil, Bool.and_true, Bool.and_eq_true, decide_eq_true_eq, List.getD_cons_zero, List.getD_cons_succ]
                        rintro ⟨q6, q7, q8, q9, q10⟩
                        rcases q10 with q | q
                        · omega
                        · exact hv (q.trans hv0))] at hres
                      rw [← hres]
                      simp (disch := first | omega | (simp; done) | (simp; omega)) [ltT, ltF, leT, leF, eqT', eqF, ltTn, leTn, ltFn, leFn, wrapI, mid, eq_false hv]
                      refine (atF_V 19 (-4) _).useV ?_
                      simp (disch := first | omega | (simp; done) | (simp; omega)) [ltT, ltF, leT, leF, eqT', eqF, ltTn, leTn, ltFn, leFn, wrapI, mid, mo0]
                      exact RShift.subs ⟨.refl _, .refl _, trivial⟩ (by simp) hok (Nat.le_refl _)
                  · simp (disch := first | omega | (simp; done) | (simp; omega)) [ltT, ltF, leT, leF, eqT', eqF, ltTn, leTn, ltFn, leFn, wrapI, mid, encN1]
                    refine regV_all ?_
                    simp (disch := first | omega | (simp; done) | (simp; omega)) [ltT, ltF, leT, leF, eqT', eqF, ltTn, leTn, ltFn, leFn, wrapI, mid, hf]
                    exact hA 11 _ ⟨by simp, by simp, (fun i h1 h2 => by
                      by_cases hik : i = 10
                      · subst hik; exact .inl (by simpa using hf)
                      · exact hk3 i h1 (by omega))⟩ (by simp) (Shift.slots' (by simp [encN1, mo0]) (by simp))

            · have h6 : k = 0 ∨ k = 1 ∨ k = 2 ∨ k = 3 ∨ k = 4 ∨ k = 5 := by omega
              rcases h6 with rfl | rfl | rfl | rfl | rfl | rfl
              · by_cases hf : 0 ≤ a0
                · simp (disch := first | omega | (simp; done) | (simp; omega)) [ltT, ltF, leT, leF, eqT', eqF, ltTn, leTn, ltFn, leFn, wrapI, mid, encN1, hf]
                  exact hA 1 _ (by simp) (by simp) (Shift.slots' (by simp [encN1, bg, pickR, hf, mo0]) (by simp))
                · simp (disch := first | omega | (simp; done) | (simp; omega)) [ltT, ltF, leT, leF, eqT', eqF, ltTn, leTn, ltFn, leFn, wrapI, mid, encN1, hf]
                  exact hA 1 _ (by simp) (by simp) (Shift.slots' (by simp [encN1, bg, pickR, hf, mo0]) (by simp))
              · by_cases hf : 0 ≤ a1
                · simp (disch := first | omega | (simp; done) | (simp; omega)) [ltT, ltF, leT, leF, eqT', eqF, ltTn, leTn, ltFn, leFn, wrapI, mid, encN1, hf]
                  exact hA 2 _ (by simp) (by simp) (Shift.slots' (by simp [encN1, bg, pickR, hf, mo0]) (by simp))
                · exact absurd h3 hf
                  
              · by_cases hf : 0 ≤ a2
                · simp (disch := first | omega | (simp; done) | (simp; omega)) [ltT, ltF, leT, leF, eqT', eqF, ltTn, leTn, ltFn, leFn, wrapI, mid, encN1, hf]
                  exact hA 3 _ (by simp) (by simp) (Shift.slots' (by simp [encN1, bg, pickR, hf, mo0]) (by simp))
                · simp (disch := first | omega | (simp; done) | (simp; omega)) [ltT, ltF, leT, leF, eqT', eqF, ltTn, leTn, ltFn, leFn, wrapI, mid, encN1, hf]
                  exact hA 3 _ (by simp) (by simp) (Shift.slots' (by simp [encN1, bg, pickR, hf, mo0]) (by simp))
              · by_cases hf : 0 ≤ a3
                · simp (disch := first | omega | (simp; done) | (simp; omega)) [ltT, ltF, leT, leF, eqT', eqF, ltTn, leTn, ltFn, leFn, wrapI, mid, encN1, hf]
                  exact hA 4 _ (by simp) (by simp) (Shift.slots' (by simp [encN1, bg, pickR, hf, mo0]) (by simp))
                · simp (disch := first | omega | (simp; done) | (simp; omega)) [ltT, ltF, leT, leF, eqT', eqF, ltTn, leTn, ltFn, leFn, wrapI, mid, encN1, hf]
                  exact hA 4 _ (by simp) (by simp) (Shift.slots' (by simp [encN1, bg, pickR, hf, mo0]) (by simp))
              · by_cases hf : 0 ≤ a4
                · simp (disch := first | omega | (simp; done) | (simp; omega)) [ltT, ltF, leT, leF, eqT', eqF, ltTn, leTn, ltFn, leFn, wrapI, mid, encN1, hf]
                  exact hA 5 _ (by simp) (by simp) (Shift.slots' (by simp [encN1, bg, pickR, hf, mo0]) (by simp))
                · simp (disch := first | omega | (simp; done) | (simp; omega)) [ltT, ltF, leT, leF, eqT', eqF, ltTn, leTn, ltFn, leFn, wrapI, mid, encN1, hf]
                  exact hA 5 _ (by simp) (by simp) (Shift.slots' (by simp [encN1, bg, pickR, hf, mo0]) (by simp))
              · by_cases hf : 0 ≤ a5
                · simp (disch := first | omega | (simp; done) | (simp; omega)) [ltT, ltF, leT, leF, eqT', eqF, ltTn, leTn, ltFn, leFn, wrapI, mid, encN1, hf]
                  exact hA 6 _ (by simp) (by simp) (Shift.slots' (by simp [encN1, bg, pickR, hf, mo0]) (by simp))
                · simp (disch := first | omega | (simp; done) | (simp; omega)) [ltT, ltF, leT, leF, eqT', eqF, ltTn, leTn, ltFn, leFn, wrapI, mid, encN1, hf]
                  exact hA 6 _ (by simp) (by simp) (Shift.slots' (by simp [encN1, bg, pickR, hf, mo0]) (by simp))
  | c :: l, hx, hz, hr, hA =>
    have hPl : P.length < p.length := by rw [← hx]; simp
    subst hx
    simp only [List.length_append, List.length_cons] at hPl hp
    by_cases hc : c = 37
    · subst hc
      match l, hz, hr, hA, hPl, hp with
      | [], hz, hr, hA, hPl, hp => simp [patFrom] at hz
      | e :: l, hz, hr, hA, hPl, hp =>
        rw [patFrom, if_neg (by simp)] at hz
        have hlet : letL.contains e = true := by
          cases hl : letL.contains e with
          | true => rfl
          | false => rw [hl] at hz; simp at hz
        rw [if_pos hlet] at hz
        rw [readR_dir] at hr
        simp only [List.length_cons] at hPl hp
        by_cases he : e = 37
        · subst he
          have hd : dirR 37 tr fs cf = ((byteS 37 tr).1, (byteS 37 tr).2, fs, cf) := by simp [dirR]
          rw [hd] at hr
          simp (disch := first | omega | (simp; done) | (simp; omega)) [ltT, ltF, leT, leF, eqT', eqF, ltTn, leTn, ltFn, leFn, wrapI, mid]
          refine (letter_V 37 _).useV ?_
          rw [show letR 37 = -1 from by decide]
          cases tr with
          | nil =>
            have hr' : R = (false, [], fs, cf) := by rw [← hr]; simp [byteS]
            subst hr'
            rw [show endR (tp ++ []) (false, [], fs, cf) = (mo0, (1, (tp.length : Int))) from by unfold endR; rw [if_pos (.inl rfl)]; simp]
            simp (disch := first | omega | (simp; done) | (simp; omega)) [ltT, ltF, leT, leF, eqT', eqF, ltTn, leTn, ltFn, leFn, wrapI, mid]
            refine (atF_V 1 tp.length _).useV ?_
            simp (disch := first | omega | (simp; done) | (simp; omega)) [ltT, ltF, leT, leF, eqT', eqF, ltTn, leTn, ltFn, leFn, wrapI, mid, mo0]
            exact RShift.subs ⟨.refl _, .refl _, trivial⟩ (by simp) hok (Nat.le_refl _)
          | cons e tr =>
            simp only [List.length_cons] at ht
            by_cases hec : e = 37
            · have hr' : readR l tr fs cf = R := by rw [← hr]; simp [byteS, hec]
              simp (disch := first | omega | (simp; done) | (simp; omega)) [ltT, ltF, leT, leF, eqT', eqF, ltTn, leTn, ltFn, leFn, wrapI, mid, u8_37, eq_true hec]
              exact hA (P ++ [37, 37], l, tr, fs, cf) _ ⟨by simp, ⟨tp ++ [e], by simp⟩, by simpa using hz, hfl, hr'⟩ (by simp only [List.length_cons]; omega) (Shift.slots' (by simp) (by simp [Int.add_assoc, show tp.length + (tr.length + 1) - tr.length = tp.length + 1 from by omega]))
            · have hr' : R = (false, e :: tr, fs, cf) := by rw [← hr]; simp [byteS, hec]
              subst hr'
              rw [show endR (tp ++ e :: tr) (false, e :: tr, fs, cf) = (mo0, (1, (tp.length : Int))) from by unfold endR; rw [if_pos (.inl rfl)]; simp]
              simp (disch := first | omega | (simp; done) | (simp; omega)) [ltT, ltF, leT, leF, eqT', eqF, ltTn, leTn, ltFn, leFn, wrapI, mid, u8_37, eq_false hec]
              refine (atF_V 1 tp.length _).useV ?_
              simp (disch := first | omega | (simp; done) | (simp; omega)) [ltT, ltF, leT, leF, eqT', eqF, ltTn, leTn, ltFn, leFn, wrapI, mid, mo0]
              exact RShift.subs ⟨.refl _, .refl _, trivial⟩ (by simp) hok (Nat.le_refl _)
        have hHb : ∀ k (hk : k < fs.length), (fs.map encN1)[k]? = some (encN1 fs[k]) := fun k hk => by simp [hk]
        rcases let_cases hlet he with ⟨k, hk10, hk, hns, hw4, hwid⟩ | ⟨hk, hns⟩ | ⟨hk, hns⟩
        · have hd : dirR e tr fs cf = if (numS (widP e) 0 tr).1.2 = true then (true, (numS (widP e) 0 tr).2, putR fs cf k (numS (widP e) 0 tr).1.1) else (false, (numS (widP e) 0 tr).2, fs, cf) := by
            simp only [dirR, if_neg he, hns, hk, Int.toNat_natCast]
          rw [hd] at hr
          clear hd
          obtain ⟨w, hw⟩ : ∃ w, widP e = w := ⟨_, rfl⟩
          rw [hw] at hw4 hwid hr
          obtain ⟨Q, hQ⟩ : ∃ Q, numS w 0 tr = Q := ⟨_, rfl⟩
          rw [hQ] at hr
          have hrQ := hr
          clear hr
          simp (disch := first | omega | (simp; done) | (simp; omega)) [ltT, ltF, leT, leF, eqT', eqF, ltTn, leTn, ltFn, leFn, wrapI, mid]
          refine (letter_V e _).useV ?_
          rw [hk]
          simp (disch := first | omega | (simp; done) | (simp; omega)) [ltT, ltF, leT, leF, eqT', eqF, ltTn, leTn, ltFn, leFn, wrapI, mid]
          refine W_loopA (ι := List UInt8 × List UInt8 × Nat × Int) (fun q => q.1 ++ q.2.1 = tr ∧ q.2.2.1 ≤ w ∧ 0 ≤ q.2.2.2 ∧ q.2.2.2 < 10 ^ q.2.2.1 ∧ numS (w - q.2.2.1) q.2.2.2 q.2.1 = Q)
            (fun q => ⟨[(0, .d (.str (tp ++ tr))), (1, .d (.str (P ++ 37 :: e :: l))), (4, .ptr h.length 23 0 0), (5, .ptr (h.length + 1) 25 0 0), (6, .ref (h.length + 2) 3 0 12), (7, .d (.bool cf)), (8, .d (.int .i64 (tp.length + q.1.length : Nat))), (9, .d (.int .i64 (P.length + 1 : Nat))), (10, .d (.int .i64 k)), (11, .d (.int .i64 q.2.2.2)), (13, .d (.int .i64 q.2.2.1))],
              h ++ [.cells 23 [.d (encMo mo0)], .cells 25 [.d (encF (0, 0))], .cells 3 (fs.map encN1)]⟩)
            (fun q => w - q.2.2.1) ([], tr, 0, 0) ⟨rfl, by simp, by simp, by simp, hQ⟩ (Shift.slots' (by simp) (by simp)) ?_
          rintro ⟨T, r, j, n⟩ ⟨hT, hj, hn0, hn1, hn⟩ A' hA'
          simp only at hT hj hn0 hn1 hn
          subst hT
          have hpw : (10 : Int) ^ j ≤ 10 ^ 4 := by
            have : (10 : Nat) ^ j ≤ 10 ^ 4 := Nat.pow_le_pow_right (by decide) (by omega)
            exact_mod_cast this
          have hpw1 : (10 : Int) ^ (j + 1) = 10 * 10 ^ j := by rw [Int.pow_succ]; omega
          have hwb : byteAt widT k = w + 48 := by
            unfold byteAt
            rw [List.getD_eq_getElem?_getD, hwid]
            simp only [Option.getD_some, UInt8.toNat_ofNat']
            omega
          unfold widT at hwb
          simp only [List.length_append] at ht
          by_cases hjw : j < w
          · obtain ⟨q, hq⟩ : ∃ q, w - j = q + 1 := ⟨w - j - 1, by omega⟩
            rw [hq] at hn
            cases r with
            | nil =>
              simp only [numS] at hn
              have hr' : R = (false, [], fs, cf) := by rw [← hrQ, ← hn]; rfl
              subst hr'
              rw [show endR (tp ++ (T ++ [])) (false, [], fs, cf) = (mo0, (1, ((tp.length + T.length : Nat) : Int))) from by unfold endR; rw [if_pos (.inl rfl)]; simp]
              simp (disch := first | omega | (simp; done) | (simp; omega)) [ltT, ltF, leT, leF, eqT', eqF, ltTn, leTn, ltFn, leFn, wrapI, mid, hwb]
              refine (atF_V 1 _ _).useV ?_
              simp (disch := first | omega | (simp; done) | (simp; omega)) [ltT, ltF, leT, leF, eqT', eqF, ltTn, leTn, ltFn, leFn, wrapI, mid, mo0]
              exact RShift.subs ⟨.refl _, .refl _, trivial⟩ (by simp) hok (Nat.le_refl _)
            | cons x r =>
              simp only [numS] at hn
              simp only [List.length_cons] at ht
              have hbx : byteAt (tp ++ (T ++ x :: r)) ((tp.length : Int) + (T.length : Int)).toNat = x.toNat := by
                rw [show ((tp.length : Int) + (T.length : Int)).toNat = (tp ++ T).length from by simp; omega, ← List.append_assoc]
                simp [byteAt]
              by_cases hx48 : (48 : Int) ≤ x.toNat ∧ (x.toNat : Int) ≤ 57
              · rw [if_pos hx48] at hn
                simp (disch := first | omega | (simp; done) | (simp; omega)) [ltT, ltF, leT, leF, eqT', eqF, ltTn, leTn, ltFn, leFn, wrapI, mid, hwb, hbx]
                refine (digit_V x _).useV ?_
                simp (disch := first | omega | (simp; done) | (simp; omega)) [ltT, ltF, leT, leF, eqT', eqF, ltTn, leTn, ltFn, leFn, wrapI, mid, hx48, hbx]
                exact hA' (T ++ [x], r, j + 1, 10 * n + (x.toNat - 48)) _ ⟨by simp, by show j + 1 ≤ w; omega, by show 0 ≤ 10 * n + ((x.toNat : Int) - 48); omega, by show 10 * n + ((x.toNat : Int) - 48) < 10 ^ (j + 1); rw [hpw1]; omega, by show numS (w - (j + 1)) _ r = _; rw [← hn, show w - (j + 1) = q from by omega]⟩ (by simp only; omega) (Shift.slots' (by simp) (by simp [Int.add_assoc, Int.add_sub_assoc]))
              · rw [if_neg hx48] at hn
                have hr' : R = (false, (x :: r), fs, cf) := by rw [← hrQ, ← hn]; rfl
                subst hr'
                rw [show endR (tp ++ (T ++ (x :: r))) (false, (x :: r), fs, cf) = (mo0, (1, ((tp.length + T.length : Nat) : Int))) from by unfold endR; rw [if_pos (.inl rfl)]; simp; omega]
                simp (disch := first | omega | (simp; done) | (simp; omega)) [ltT, ltF, leT, leF, eqT', eqF, ltTn, leTn, ltFn, leFn, wrapI, mid, hwb, hbx]
                refine (digit_V x _).useV ?_
                simp (disch := first | omega | (simp; done) | (simp; omega)) [ltT, ltF, leT, leF, eqT', eqF, ltTn, leTn, ltFn, leFn, wrapI, mid, hx48]
                refine (atF_V 1 _ _).useV ?_
                simp (disch := first | omega | (simp; done) | (simp; omega)) [ltT, ltF, leT, leF, eqT', eqF, ltTn, leTn, ltFn, leFn, wrapI, mid, mo0]
                exact RShift.subs ⟨.refl _, .refl _, trivial⟩ (by simp) hok (Nat.le_refl _)
          · rw [show w - j = 0 from by omega] at hn
            simp only [numS] at hn
            rw [← hn] at hrQ
            simp only [if_true] at hrQ
            obtain ⟨v, hv⟩ : ∃ v, fs[k]'(by omega) = v := ⟨_, rfl⟩
            have hvg : fs[k]?.getD 0 = v := by rw [List.getElem?_eq_getElem (by omega), hv]; rfl
            have hLn : tp.length + (T.length + r.length) - r.length = tp.length + T.length := by omega
            by_cases hf : 0 ≤ v
            · by_cases hvn : v = n
              · simp (disch := first | omega | (simp; done) | (simp; omega)) [ltT, ltF, leT, leF, eqT', eqF, ltTn, leTn, ltFn, leFn, wrapI, mid, hwb, encN1, hv, hf, eq_true hvn]
                exact hA (P ++ [37, e], l, r, (putR fs cf k n).1, (putR fs cf k n).2) _ ⟨by simp, ⟨tp ++ T, by simp⟩, by simpa using hz, by simp [putR, hfl], hrQ⟩ (by simp only [List.length_cons]; omega) (Shift.slots' (by simp [putR, encN1]) (by simp [putR, encN1, hv, hvg, hf, hLn, hvn, Int.add_assoc]))
              · simp (disch := first | omega | (simp; done) | (simp; omega)) [ltT, ltF, leT, leF, eqT', eqF, ltTn, leTn, ltFn, leFn, wrapI, mid, hwb, encN1, hv, hf, eq_false hvn]
                exact hA (P ++ [37, e], l, r, (putR fs cf k n).1, (putR fs cf k n).2) _ ⟨by simp, ⟨tp ++ T, by simp⟩, by simpa using hz, by simp [putR, hfl], hrQ⟩ (by simp only [List.length_cons]; omega) (Shift.slots' (by simp [putR, encN1]) (by simp [putR, encN1, hv, hvg, hf, hLn, hvn, Int.add_assoc]))
            · simp (disch := first | omega | (simp; done) | (simp; omega)) [ltT, ltF, leT, leF, eqT', eqF, ltTn, leTn, ltFn, leFn, wrapI, mid, hwb, encN1, hv, hf]
              exact hA (P ++ [37, e], l, r, (putR fs cf k n).1, (putR fs cf k n).2) _ ⟨by simp, ⟨tp ++ T, by simp⟩, by simpa using hz, by simp [putR, hfl], hrQ⟩ (by simp only [List.length_cons]; omega) (Shift.slots' (by simp [putR, encN1]) (by simp [putR, encN1, hv, hvg, hf, hLn, Int.add_assoc]))
        · obtain ⟨wv, hwv⟩ : ∃ wv, wordS dayNames (tr.take 3) 0 = wv := ⟨_, rfl⟩
          have hwb := wordS_bnd dayNames (tr.take 3) 0 (Int.le_refl _)
          rw [hwv, show (dayNames.length : Int) = 7 from rfl] at hwb
          have hq : nameS dayNames 0 tr = if 3 ≤ tr.length ∧ 0 ≤ wv then ((wv + 1, true), tr.drop 3) else ((0, false), tr) := by
            have := nameS_word dayNames 0 tr names_len.1
            rw [show ((0 : Nat) : Int) = 0 from rfl, hwv] at this
            exact this
          obtain ⟨v, hv⟩ : ∃ v, fs[10]'(by omega) = v := ⟨_, rfl⟩
          have hvg : fs[10]?.getD 0 = v := by rw [List.getElem?_eq_getElem (by omega), hv]; rfl
          by_cases h3 : 3 ≤ tr.length
          · have htk : (tr.take 3).length = 3 := by simp; omega
            have hLn : tp.length + tr.length - (tr.length - 3) = tp.length + 3 := by omega
            have hsl2 : ((tp ++ tr).take ((tp.length : Int) + 3).toNat).drop tp.length = tr.take 3 := by
              rw [show ((tp.length : Int) + 3).toNat = tp.length + 3 from by omega, List.take_append, List.drop_append]
              simp
            have hwq := fun h => word_V dayNames daysT (tr.take 3) dayS_at (by decide) (by decide) (by decide) htk h
            rw [hwv] at hwq
            unfold daysT at hwq
            by_cases hw0 : 0 ≤ wv
            · rw [if_pos ⟨h3, hw0⟩] at hq
              have hd : dirR e tr fs cf = (true, tr.drop 3, putR fs cf 10 (wv + 1)) := by simp [dirR, he, hns, hk, hq]
              rw [hd] at hr
              have hrQ := hr
              clear hr
              simp only [if_true] at hrQ
              simp (disch := first | omega | (simp; done) | (simp; omega)) [ltT, ltF, leT, leF, eqT', eqF, ltTn, leTn, ltFn, leFn, wrapI, mid]
              refine (letter_V e _).useV ?_
              rw [hk]
              simp (disch := first | omega | (simp; done) | (simp; omega)) [ltT, ltF, leT, leF, eqT', eqF, ltTn, leTn, ltFn, leFn, wrapI, mid, hsl2]
              refine (hwq _).useV ?_
              by_cases hf : 0 ≤ v
              · by_cases hvn : v = wv + 1
                · simp (disch := first | omega | (simp; done) | (simp; omega)) [ltT, ltF, leT, leF, eqT', eqF, ltTn, leTn, ltFn, leFn, wrapI, mid, encN1, hv, hf, eq_true hvn]
                  exact hA (P ++ [37, e], l, tr.drop 3, (putR fs cf 10 (wv + 1)).1, (putR fs cf 10 (wv + 1)).2) _ ⟨by simp, ⟨tp ++ tr.take 3, by rw [List.append_assoc, List.take_append_drop]⟩, by simpa using hz, by simp [putR, hfl], hrQ⟩ (by simp only [List.length_cons]; omega) (Shift.slots' (by simp [putR, encN1]) (by simp [putR, encN1, hv, hvg, hf, hLn, hvn, Int.add_assoc]))
                · simp (disch := first | omega | (simp; done) | (simp; omega)) [ltT, ltF, leT, leF, eqT', eqF, ltTn, leTn, ltFn, leFn, wrapI, mid, encN1, hv, hf, eq_false hvn]
                  exact hA (P ++ [37, e], l, tr.drop 3, (putR fs cf 10 (wv + 1)).1, (putR fs cf 10 (wv + 1)).2) _ ⟨by simp, ⟨tp ++ tr.take 3, by rw [List.append_assoc, List.take_append_drop]⟩, by simpa using hz, by simp [putR, hfl], hrQ⟩ (by simp only [List.length_cons]; omega) (Shift.slots' (by simp [putR, encN1]) (by simp [putR, encN1, hv, hvg, hf, hLn, hvn, Int.add_assoc]))
              · simp (disch := first | omega | (simp; done) | (simp; omega)) [ltT, ltF, leT, leF, eqT', eqF, ltTn, leTn, ltFn, leFn, wrapI, mid, encN1, hv, hf]
                exact hA (P ++ [37, e], l, tr.drop 3, (putR fs cf 10 (wv + 1)).1, (putR fs cf 10 (wv + 1)).2) _ ⟨by simp, ⟨tp ++ tr.take 3, by rw [List.append_assoc, List.take_append_drop]⟩, by simpa using hz, by simp [putR, hfl], hrQ⟩ (by simp only [List.length_cons]; omega) (Shift.slots' (by simp [putR, encN1]) (by simp [putR, encN1, hv, hvg, hf, hLn, Int.add_assoc]))
            · rw [if_neg (fun h => hw0 h.2)] at hq
              have hd : dirR e tr fs cf = (false, tr, fs, cf) := by simp [dirR, he, hns, hq]
              rw [hd] at hr
              have hr' : R = (false, tr, fs, cf) := by rw [← hr]; rfl
              subst hr'
              rw [show endR (tp ++ tr) (false, tr, fs, cf) = (mo0, (1, (tp.length : Int))) from by unfold endR; rw [if_pos (.inl rfl)]; simp]
              simp (disch := first | omega | (simp; done) | (simp; omega)) [ltT, ltF, leT, leF, eqT', eqF, ltTn, leTn, ltFn, leFn, wrapI, mid]
              refine (letter_V e _).useV ?_
              rw [hk]
              simp (disch := first | omega | (simp; done) | (simp; omega)) [ltT, ltF, leT, leF, eqT', eqF, ltTn, leTn, ltFn, leFn, wrapI, mid, hsl2]
              refine (hwq _).useV ?_
              simp (disch := first | omega | (simp; done) | (simp; omega)) [ltT, ltF, leT, leF, eqT', eqF, ltTn, leTn, ltFn, leFn, wrapI, mid]
              refine (atF_V 1 tp.length _).useV ?_
              simp (disch := first | omega | (simp; done) | (simp; omega)) [ltT, ltF, leT, leF, eqT', eqF, ltTn, leTn, ltFn, leFn, wrapI, mid, mo0]
              exact RShift.subs ⟨.refl _, .refl _, trivial⟩ (by simp) hok (Nat.le_refl _)
          · rw [if_neg (fun h => h3 h.1)] at hq
            have hd : dirR e tr fs cf = (false, tr, fs, cf) := by simp [dirR, he, hns, hq]
            rw [hd] at hr
            have hr' : R = (false, tr, fs, cf) := by rw [← hr]; rfl
            subst hr'
            rw [show endR (tp ++ tr) (false, tr, fs, cf) = (mo0, (1, (tp.length : Int))) from by unfold endR; rw [if_pos (.inl rfl)]; simp]
            simp (disch := first | omega | (simp; done) | (simp; omega)) [ltT, ltF, leT, leF, eqT', eqF, ltTn, leTn, ltFn, leFn, wrapI, mid]
            refine (letter_V e _).useV ?_
            rw [hk]
            simp (disch := first | omega | (simp; done) | (simp; omega)) [ltT, ltF, leT, leF, eqT', eqF, ltTn, leTn, ltFn, leFn, wrapI, mid]
            refine (atF_V 1 tp.length _).useV ?_
            simp (disch := first | omega | (simp; done) | (simp; omega)) [ltT, ltF, leT, leF, eqT', eqF, ltTn, leTn, ltFn, leFn, wrapI, mid, mo0]
            exact RShift.subs ⟨.refl _, .refl _, trivial⟩ (by simp) hok (Nat.le_refl _)
        · obtain ⟨wv, hwv⟩ : ∃ wv, wordS monthNames (tr.take 3) 0 = wv := ⟨_, rfl⟩
          have hwb := wordS_bnd monthNames (tr.take 3) 0 (Int.le_refl _)
          rw [hwv, show (monthNames.length : Int) = 12 from rfl] at hwb
          have hq : nameS monthNames 0 tr = if 3 ≤ tr.length ∧ 0 ≤ wv then ((wv + 1, true), tr.drop 3) else ((0, false), tr) := by
            have := nameS_word monthNames 0 tr names_len.2
            rw [show ((0 : Nat) : Int) = 0 from rfl, hwv] at this
            exact this
          obtain ⟨v, hv⟩ : ∃ v, fs[11]'(by omega) = v := ⟨_, rfl⟩
          have hvg : fs[11]?.getD 0 = v := by rw [List.getElem?_eq_getElem (by omega), hv]; rfl
          by_cases h3 : 3 ≤ tr.length
          · have htk : (tr.take 3).length = 3 := by simp; omega
            have hLn : tp.length + tr.length - (tr.length - 3) = tp.length + 3 := by omega
            have hsl2 : ((tp ++ tr).take ((tp.length : Int) + 3).toNat).drop tp.length = tr.take 3 := by
              rw [show ((tp.length : Int) + 3).toNat = tp.length + 3 from by omega, List.take_append, List.drop_append]
              simp
            have hwq := fun h => word_V monthNames monthsT (tr.take 3) monthS_at (by decide) (by decide) (by decide) htk h
            rw [hwv] at hwq
            unfold monthsT at hwq
            by_cases hw0 : 0 ≤ wv
            · rw [if_pos ⟨h3, hw0⟩] at hq
              have hd : dirR e tr fs cf = (true, tr.drop 3, putR fs cf 11 (wv + 1)) := by simp [dirR, he, hns, hk, hq]
              rw [hd] at hr
              have hrQ := hr
              clear hr
              simp only [if_true] at hrQ
              simp (disch := first | omega | (simp; done) | (simp; omega)) [ltT, ltF, leT, leF, eqT', eqF, ltTn, leTn, ltFn, leFn, wrapI, mid]
              refine (letter_V e _).useV ?_
              rw [hk]
              simp (disch := first | omega | (simp; done) | (simp; omega)) [ltT, ltF, leT, leF, eqT', eqF, ltTn, leTn, ltFn, leFn, wrapI, mid, hsl2]
              refine (hwq _).useV ?_
              by_cases hf : 0 ≤ v
              · by_cases hvn : v = wv + 1
                · simp (disch := first | omega | (simp; done) | (simp; omega)) [ltT, ltF, leT, leF, eqT', eqF, ltTn, leTn, ltFn, leFn, wrapI, mid, encN1, hv, hf, eq_true hvn]
                  exact hA (P ++ [37, e], l, tr.drop 3, (putR fs cf 11 (wv + 1)).1, (putR fs cf 11 (wv + 1)).2) _ ⟨by simp, ⟨tp ++ tr.take 3, by rw [List.append_assoc, List.take_append_drop]⟩, by simpa using hz, by simp [putR, hfl], hrQ⟩ (by simp only [List.length_cons]; omega) (Shift.slots' (by simp [putR, encN1]) (by simp [putR, encN1, hv, hvg, hf, hLn, hvn, Int.add_assoc]))
                · simp (disch := first | omega | (simp; done) | (simp; omega)) [ltT, ltF, leT, leF, eqT', eqF, ltTn, leTn, ltFn, leFn, wrapI, mid, encN1, hv, hf, eq_false hvn]
                  exact hA (P ++ [37, e], l, tr.drop 3, (putR fs cf 11 (wv + 1)).1, (putR fs cf 11 (wv + 1)).2) _ ⟨by simp, ⟨tp ++ tr.take 3, by rw [List.append_assoc, List.take_append_drop]⟩, by simpa using hz, by simp [putR, hfl], hrQ⟩ (by simp only [List.length_cons]; omega) (Shift.slots' (by simp [putR, encN1]) (by simp [putR, encN1, hv, hvg, hf, hLn, hvn, Int.add_assoc]))
              · simp (disch := first | omega | (simp; done) | (simp; omega)) [ltT, ltF, leT, leF, eqT', eqF, ltTn, leTn, ltFn, leFn, wrapI, mid, encN1, hv, hf]
                exact hA (P ++ [37, e], l, tr.drop 3, (putR fs cf 11 (wv + 1)).1, (putR fs cf 11 (wv + 1)).2) _ ⟨by simp, ⟨tp ++ tr.take 3, by rw [List.append_assoc, List.take_append_drop]⟩, by simpa using hz, by simp [putR, hfl], hrQ⟩ (by simp only [List.length_cons]; omega) (Shift.slots' (by simp [putR, encN1]) (by simp [putR, encN1, hv, hvg, hf, hLn, Int.add_assoc]))
            · rw [if_neg (fun h => hw0 h.2)] at hq
              have hd : dirR e tr fs cf = (false, tr, fs, cf) := by simp [dirR, he, hns, hq]
              rw [hd] at hr
              have hr' : R = (false, tr, fs, cf) := by rw [← hr]; rfl
              subst hr'
              rw [show endR (tp ++ tr) (false, tr, fs, cf) = (mo0, (1, (tp.length : Int))) from by unfold endR; rw [if_pos (.inl rfl)]; simp]
              simp (disch := first | omega | (simp; done) | (simp; omega)) [ltT, ltF, leT, leF, eqT', eqF, ltTn, leTn, ltFn, leFn, wrapI, mid]
              refine (letter_V e _).useV ?_
              rw [hk]
              simp (disch := first | omega | (simp; done) | (simp; omega)) [ltT, ltF, leT, leF, eqT', eqF, ltTn, leTn, ltFn, leFn, wrapI, mid, hsl2]
              refine (hwq _).useV ?_
              simp (disch := first | omega | (simp; done) | (simp; omega)) [ltT, ltF, leT, leF, eqT', eqF, ltTn, leTn, ltFn, leFn, wrapI, mid]
              refine (atF_V 1 tp.length _).useV ?_
              simp (disch := first | omega | (simp; done) | (simp; omega)) [ltT, ltF, leT, leF, eqT', eqF, ltTn, leTn, ltFn, leFn, wrapI, mid, mo0]
              exact RShift.subs ⟨.refl _, .refl _, trivial⟩ (by simp) hok (Nat.le_refl _)
          · rw [if_neg (fun h => h3 h.1)] at hq
            have hd : dirR e tr fs cf = (false, tr, fs, cf) := by simp [dirR, he, hns, hq]
            rw [hd] at hr
            have hr' : R = (false, tr, fs, cf) := by rw [← hr]; rfl
            subst hr'
            rw [show endR (tp ++ tr) (false, tr, fs, cf) = (mo0, (1, (tp.length : Int))) from by unfold endR; rw [if_pos (.inl rfl)]; simp]
            simp (disch := first | omega | (simp; done) | (simp; omega)) [ltT, ltF, leT, leF, eqT', eqF, ltTn, leTn, ltFn, leFn, wrapI, mid]
            refine (letter_V e _).useV ?_
            rw [hk]
            simp (disch := first | omega | (simp; done) | (simp; omega)) [ltT, ltF, leT, leF, eqT', eqF, ltTn, leTn, ltFn, leFn, wrapI, mid]
            refine (atF_V 1 tp.length _).useV ?_
            simp (disch := first | omega | (simp; done) | (simp; omega)) [ltT, ltF, leT, leF, eqT', eqF, ltTn, leTn, ltFn, leFn, wrapI, mid, mo0]
            exact RShift.subs ⟨.refl _, .refl _, trivial⟩ (by simp) hok (Nat.le_refl _)
    · rw [readR_byte hc] at hr
      cases tr with
      | nil =>
        have hr' : R = (false, [], fs, cf) := by rw [← hr]; simp [byteS]
        subst hr'
        rw [show endR (tp ++ []) (false, [], fs, cf) = (mo0, (1, (tp.length : Int))) from by unfold endR; rw [if_pos (.inl rfl)]; simp]
        simp (disch := first | omega | (simp; done) | (simp; omega)) [ltT, ltF, leT, leF, eqT', eqF, ltTn, leTn, ltFn, leFn, wrapI, mid, u8_37, eq_false hc]
        refine (atF_V 1 tp.length _).useV ?_
        simp (disch := first | omega | (simp; done) | (simp; omega)) [ltT, ltF, leT, leF, eqT', eqF, ltTn, leTn, ltFn, leFn, wrapI, mid, mo0]
        exact RShift.subs ⟨.refl _, .refl _, trivial⟩ (by simp) hok (Nat.le_refl _)
      | cons e tr =>
        simp only [List.length_cons] at ht
        by_cases hec : e = c
        · have hr' : readR l tr fs cf = R := by rw [← hr]; simp [byteS, hec]
          simp (disch := first | omega | (simp; done) | (simp; omega)) [ltT, ltF, leT, leF, eqT', eqF, ltTn, leTn, ltFn, leFn, wrapI, mid, u8_37, eq_false hc, eq_true hec, u8_inj]
          exact hA (P ++ [c], l, tr, fs, cf) _ ⟨by simp, ⟨tp ++ [e], by simp⟩, by simpa using patFrom_byte hc hz, hfl, hr'⟩ (by simp) (Shift.slots' (by simp) (by simp [show tp.length + (tr.length + 1) - tr.length = tp.length + 1 from by omega]))
        · have hr' : R = (false, e :: tr, fs, cf) := by rw [← hr]; simp [byteS, hec]
          subst hr'
          rw [show endR (tp ++ e :: tr) (false, e :: tr, fs, cf) = (mo0, (1, (tp.length : Int))) from by unfold endR; rw [if_pos (.inl rfl)]; simp]
          simp (disch := first | omega | (simp; done) | (simp; omega)) [ltT, ltF, leT, leF, eqT', eqF, ltTn, leTn, ltFn, leFn, wrapI, mid, u8_37, eq_false hc, eq_false hec, u8_inj]
          refine (atF_V 1 tp.length _).useV ?_
          simp (disch := first | omega | (simp; done) | (simp; omega)) [ltT, ltF, leT, leF, eqT', eqF, ltTn, leTn, ltFn, leFn, wrapI, mid, mo0]
          exact RShift.subs ⟨.refl _, .refl _, trivial⟩ (by simp) hok (Nat.le_refl _)

end Go.Vm
