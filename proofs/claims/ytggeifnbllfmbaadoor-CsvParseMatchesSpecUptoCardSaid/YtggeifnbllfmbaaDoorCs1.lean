/- csv: dialects, faults, check. -/
import Derived.Test.YtggeifnbllfmbaaDoorBuC
import Derived.Test.YtggeifnbllfmbaaDoorShelf
namespace Go.Vm
open Proofs
set_option maxRecDepth 20000
set_option maxHeartbeats 1000000
set_option linter.unusedSimpArgs false

structure Dia where
  sep : UInt8
  quote : UInt8
  always : Bool
  ret : Bool
  deriving DecidableEq, Inhabited
def encDia (d : Dia) : D := .agg [.int .u8 (d.sep.toNat : Int), .int .u8 (d.quote.toNat : Int), .bool d.always, .bool d.ret]
def encF (f : Int × Int) : D := .agg [.int .i64 f.1, .int .i64 f.2]
def encR (r : List (List UInt8)) : D := .sl 9 (r.map encS)
@[simp] theorem cells_Dia (d : Dia) : D.cells (encDia d) = [.int .u8 (d.sep.toNat : Int), .int .u8 (d.quote.toNat : Int), .bool d.always, .bool d.ret] := rfl
@[simp] theorem fold_Dia (d : Dia) : D.agg [.int .u8 (d.sep.toNat : Int), .int .u8 (d.quote.toNat : Int), .bool d.always, .bool d.ret] = encDia d := rfl
@[simp] theorem cells_F (f : Int × Int) : D.cells (encF f) = [.int .i64 f.1, .int .i64 f.2] := rfl
@[simp] theorem fold_F (a b : Int) : D.agg [.int .i64 a, .int .i64 b] = encF (a, b) := rfl
@[simp] theorem cells_R (r : List (List UInt8)) : D.cells (encR r) = [encR r] := rfl
@[simp high] theorem field_F0 (f : Int × Int) : fieldAV tb 26 (.d (encF f)) 0 = some (True, .d (.int .i64 f.1)) := by simp [-fold_F, encF]

theorem u8_10 (c : UInt8) : ((c.toNat : Int) = 10) = (c = 10) := u8_inj c 10
theorem u8_13 (c : UInt8) : ((c.toNat : Int) = 13) = (c = 13) := u8_inj c 13

def isEnd (c : UInt8) : Bool := decide (c = 10) || decide (c = 13)
theorem end_V (c : UInt8) (h : List Blk) : CallP Tryd.prog 33 [.d (.int .u8 (c.toNat : Int))] h (.d (.bool (isEnd c))) := by
  refine callW tb_ok fn33 (by simp) (fun hok => ?_)
  by_cases h1 : c = 10 <;> by_cases h2 : c = 13 <;> simp [c33, isEnd, u8_10, u8_13, h1, h2]

def diaFault (d : Dia) : Int × Int := if d.sep = d.quote ∨ isEnd d.sep = true ∨ isEnd d.quote = true then (6, -1) else (0, 0)

theorem at_V (a b : Int) (h : List Blk) : CallP Tryd.prog 16 [.d (.int .i64 a), .d (.int .i64 b)] h (.d (encF (a, b))) := by
  refine callW tb_ok fn16 (by simp) (fun hok => ?_)
  simp [c16]
  exact rshift_d hok

theorem validate_V (d : Dia) (h : List Blk) : CallP Tryd.prog 13 [.d (encDia d)] h (.d (encF (diaFault d))) := by
  refine callW tb_ok fn13 (by simp) (fun hok => ?_)
  by_cases h1 : d.sep = d.quote
  · simp [c13, u8_inj, h1, diaFault]
    exact rshift_d hok
  · simp [c13, u8_inj, h1, diaFault]
    refine (end_V _ _).useV ?_
    cases h2 : isEnd d.sep with
    | true => simp [h2]; exact rshift_d hok
    | false =>
      simp [h2]
      refine (end_V _ _).useV ?_
      cases h3 : isEnd d.quote <;> simp [h3] <;> exact rshift_d hok

theorem diaRef_V (d : Dia) (h : List Blk) : CallP Tryd.prog 12 [.d (encDia d)] h (.d (encF (diaFault d))) := by
  refine callW tb_ok fn12 (by simp) (fun hok => ?_)
  have e1 := u8_inj d.sep d.quote
  have e2 := u8_10 d.sep
  have e3 := u8_13 d.sep
  have e4 := u8_10 d.quote
  have e5 := u8_13 d.quote
  obtain ⟨s, hs⟩ : ∃ s : Int, s = (d.sep.toNat : Int) := ⟨_, rfl⟩
  obtain ⟨q, hq⟩ : ∃ q : Int, q = (d.quote.toNat : Int) := ⟨_, rfl⟩
  rw [← hs] at e1 e2 e3
  rw [← hq] at e1 e4 e5
  have hR : ∀ b : Bool, b = (decide (s = q) || decide (s = 10) || decide (s = 13) || decide (q = 10) || decide (q = 13)) → diaFault d = if b = true then (6, -1) else (0, 0) := by
    intro b hb
    simp only [diaFault, isEnd, ← e1, ← e2, ← e3, ← e4, ← e5, Bool.or_eq_true, decide_eq_true_eq, hb]
    by_cases h1 : s = q <;> by_cases h2 : s = 10 <;> by_cases h3 : s = 13 <;> by_cases h4 : q = 10 <;> by_cases h5 : q = 13 <;> simp [h1, h2, h3, h4, h5]
  by_cases h1 : s = q
  · rw [hR true (by simp [h1])]
    simp [c12, ← hs, ← hq, h1]
    refine (at_V _ _ _).useV ?_
    simp
    exact rshift_d hok
  by_cases h2 : s = 10
  · rw [hR true (by simp [h2])]
    simp (disch := first | omega | (simp; done) | (simp; omega)) [ltT, ltF, leT, leF, eqT', eqF, ltTn, leTn, ltFn, leFn, wrapI, mid, c12, ← hs, ← hq]
    refine (at_V _ _ _).useV ?_
    simp
    exact rshift_d hok
  by_cases h3 : s = 13
  · rw [hR true (by simp [h3])]
    simp (disch := first | omega | (simp; done) | (simp; omega)) [ltT, ltF, leT, leF, eqT', eqF, ltTn, leTn, ltFn, leFn, wrapI, mid, c12, ← hs, ← hq]
    refine (at_V _ _ _).useV ?_
    simp
    exact rshift_d hok
  by_cases h4 : q = 10
  · rw [hR true (by simp [h4])]
    simp (disch := first | omega | (simp; done) | (simp; omega)) [ltT, ltF, leT, leF, eqT', eqF, ltTn, leTn, ltFn, leFn, wrapI, mid, c12, ← hs, ← hq]
    refine (at_V _ _ _).useV ?_
    simp
    exact rshift_d hok
  by_cases h5 : q = 13
  · rw [hR true (by simp [h5])]
    simp (disch := first | omega | (simp; done) | (simp; omega)) [ltT, ltF, leT, leF, eqT', eqF, ltTn, leTn, ltFn, leFn, wrapI, mid, c12, ← hs, ← hq]
    refine (at_V _ _ _).useV ?_
    simp
    exact rshift_d hok
  rw [hR false (by simp [h1, h2, h3, h4, h5])]
  simp (disch := first | omega | (simp; done) | (simp; omega)) [ltT, ltF, leT, leF, eqT', eqF, ltTn, leTn, ltFn, leFn, wrapI, mid, c12, ← hs, ← hq]
  refine (at_V _ _ _).useV ?_
  simp
  exact rshift_d hok

theorem indexFunc42_V (xs : List (List (List UInt8))) (g : FuncId) (p : List (List UInt8) → Bool) (h : List Blk) (hl : xs.length < 1000000000)
    (hg : ∀ x ∈ xs, CallP Tryd.prog g [.d (encR x)] h (.d (.bool (p x)))) : CallP Tryd.prog 42 [.d (.sl 39 (xs.map encR)), .d (.fn g)] h (.d (.int .i64 (idxFrom p 0 xs))) := by
  refine callW tb_ok fn42 (by simp) (fun hok => ?_)
  simp [c42]
  refine W_loopA (ι := List (List (List UInt8)) × List (List (List UInt8))) (fun q => q.1 ++ q.2 = xs ∧ idxFrom p q.1.length q.2 = idxFrom p 0 xs) (fun q => ⟨[(0, .d (.sl 39 (xs.map encR))), (1, .d (.fn g)), (7, .d (.int .i64 xs.length)), (8, .d (.int .i64 q.1.length))], h⟩) (fun q => q.2.length) ([], xs) (by simp) (Shift.slots' rfl (by simp [look])) ?_
  rintro ⟨pre, rest⟩ ⟨hx, hc⟩ A hA
  simp only at hx hc
  subst hx
  cases rest with
  | nil =>
    simp only [idxFrom, List.append_nil] at hc
    simp (disch := first | omega | (simp; done) | (simp; omega)) [ltT, ltF, leT, leF, eqT', eqF, ltTn, leTn, ltFn, leFn, wrapI, mid, ← hc]
  | cons x rest =>
    simp only [List.length_append, List.length_cons] at hl
    simp (disch := first | omega | (simp; done) | (simp; omega)) [ltT, ltF, leT, leF, eqT', eqF, ltTn, leTn, ltFn, leFn, wrapI, mid]
    refine (hg x (by simp)).useV ?_
    by_cases hp : p x = true
    · have hr : idxFrom p 0 (pre ++ x :: rest) = pre.length := by rw [← hc, idxFrom, if_pos hp]
      simp [hp, hr]
    · have hp' : p x = false := by simpa using hp
      simp (disch := first | omega | (simp; done) | (simp; omega)) [ltT, ltF, leT, leF, eqT', eqF, ltTn, leTn, ltFn, leFn, wrapI, mid, hp']
      refine hA (pre ++ [x], rest) _ ⟨by simp, ?_⟩ (by simp) (Shift.slots' rfl (by simp))
      rw [← hc, idxFrom, if_neg hp]
      simp

theorem empty_V (r : List (List UInt8)) (h : List Blk) : CallP Tryd.prog 43 [.d (encR r)] h (.d (.bool (decide (r = [])))) := by
  refine callW tb_ok fn43 (by simp) (fun hok => ?_)
  by_cases h1 : r = []
  · simp [c43, encR, h1]
  · have : r.length ≠ 0 := fun e => h1 (List.eq_nil_of_length_eq_zero e)
    simp [c43, encR, h1, this]

def tabFault (rows : List (List (List UInt8))) (at' : Int) : Int × Int :=
  if 200 < rows.length ∨ 1000 < total rows then (2, at') else if 0 ≤ idxFrom (fun r => decide (r = [])) 0 rows then (10, idxFrom (fun r => decide (r = [])) 0 rows) else (0, 0)

theorem check_V (rows : List (List (List UInt8))) (at' : Int) (hl : rows.length < 2000000) (ht : total rows < 2000000000000) (h : List Blk) : CallP Tryd.prog 27 [.d (.sl 39 (rows.map encR)), .d (.int .i64 at')] h (.d (encF (tabFault rows at'))) := by
  refine callW tb_ok fn27 (by simp) (fun hok => ?_)
  simp [c27]
  refine W_loopA (ι := List (List (List UInt8)) × List (List (List UInt8))) (fun p => p.1 ++ p.2 = rows) (fun p => ⟨[(0, .d (.sl 39 (rows.map encR))), (1, .d (.int .i64 at')), (4, .ptr h.length 26 0 0), (5, .d (.int .i64 (total p.1))), (9, .d (.sl 39 (rows.map encR))), (10, .d (.int .i64 rows.length)), (11, .d (.int .i64 p.1.length))],
    h ++ [.cells 26 [.d (encF (0, 0))]]⟩) (fun p => p.2.length) ([], rows) (by simp) (Shift.slots' (by simp) (by simp [total])) ?_
  rintro ⟨pre, rest⟩ hx A hA
  simp only at hx
  cases rest with
  | nil =>
    simp only [List.append_nil] at hx
    subst hx
    by_cases h1 : 200 < pre.length
    · simp (disch := first | omega | (simp; done) | (simp; omega)) [ltT, ltF, leT, leF, eqT', eqF, ltTn, leTn, ltFn, leFn, wrapI, mid, tabFault, h1]
      exact rshift_d hok
    · by_cases h2 : 1000 < total pre
      · simp (disch := first | omega | (simp; done) | (simp; omega)) [ltT, ltF, leT, leF, eqT', eqF, ltTn, leTn, ltFn, leFn, wrapI, mid, tabFault, h1, h2]
        exact rshift_d hok
      · simp (disch := first | omega | (simp; done) | (simp; omega)) [ltT, ltF, leT, leF, eqT', eqF, ltTn, leTn, ltFn, leFn, wrapI, mid]
        refine (indexFunc42_V pre 43 (fun r => decide (r = [])) _ (by omega) (fun x _ => empty_V x _)).useV ?_
        by_cases h3 : 0 ≤ idxFrom (fun r => decide (r = [])) 0 pre
        · simp (disch := first | omega | (simp; done) | (simp; omega)) [ltT, ltF, leT, leF, eqT', eqF, ltTn, leTn, ltFn, leFn, wrapI, mid, tabFault, h1, h2, h3]
          exact rshift_d hok
        · simp (disch := first | omega | (simp; done) | (simp; omega)) [ltT, ltF, leT, leF, eqT', eqF, ltTn, leTn, ltFn, leFn, wrapI, mid, tabFault, h1, h2, h3]
          exact rshift_d hok
  | cons x rest =>
    subst hx
    rw [total_app] at ht
    simp only [List.length_append, List.length_cons, total] at hl ht
    simp (disch := first | omega | (simp; done) | (simp; omega)) [ltT, ltF, leT, leF, eqT', eqF, ltTn, leTn, ltFn, leFn, wrapI, mid, encR]
    exact hA (pre ++ [x], rest) _ (by simp) (by simp) (Shift.slots' rfl (by simp [total_app, total, encR]))

theorem tableFault_V (rows : List (List (List UInt8))) (at' : Int) (hl : rows.length < 2000000) (ht : total rows < 2000000000000) (h : List Blk) : CallP Tryd.prog 14 [.d (.sl 39 (rows.map encR)), .d (.int .i64 at')] h (.d (encF (tabFault rows at'))) := by
  refine callW tb_ok fn14 (by simp) (fun hok => ?_)
  simp [c14]
  refine W_loopA (ι := List (List (List UInt8)) × List (List (List UInt8)) × Int) (fun p => p.1 ++ p.2.1 = rows ∧ ((p.2.2 < 0 ∧ p.2.2 = -1 ∧ idxFrom (fun r => decide (r = [])) p.1.length p.2.1 = idxFrom (fun r => decide (r = [])) 0 rows) ∨ (0 ≤ p.2.2 ∧ p.2.2 = idxFrom (fun r => decide (r = [])) 0 rows)))
    (fun p => ⟨[(0, .d (.sl 39 (rows.map encR))), (1, .d (.int .i64 at')), (4, .ptr h.length 26 0 0), (5, .d (.int .i64 (total p.1))), (6, .d (.int .i64 p.2.2)), (7, .d (.int .i64 p.1.length))],
    h ++ [.cells 26 [.d (encF (0, 0))]]⟩) (fun p => p.2.1.length) ([], rows, -1) (by simp) (Shift.slots' (by simp) (by simp [total])) ?_
  rintro ⟨pre, rest, k⟩ ⟨hx, hk⟩ A hA
  simp only at hx hk
  cases rest with
  | nil =>
    simp only [List.append_nil] at hx
    subst hx
    have hkk : k = idxFrom (fun r => decide (r = [])) 0 pre := by
      rcases hk with ⟨_, h2, h3⟩ | ⟨_, h2⟩
      · rw [h2, ← h3]; rfl
      · exact h2
    by_cases h2 : 1000 < total pre
    · simp (disch := first | omega | (simp; done) | (simp; omega)) [ltT, ltF, leT, leF, eqT', eqF, ltTn, leTn, ltFn, leFn, wrapI, mid]
      refine (at_V _ _ _).useV ?_
      simp [tabFault, h2]
      exact rshift_d hok
    · by_cases h1 : 200 < pre.length
      · simp (disch := first | omega | (simp; done) | (simp; omega)) [ltT, ltF, leT, leF, eqT', eqF, ltTn, leTn, ltFn, leFn, wrapI, mid]
        refine (at_V _ _ _).useV ?_
        simp [tabFault, h1]
        exact rshift_d hok
      · by_cases h3 : 0 ≤ k
        · simp (disch := first | omega | (simp; done) | (simp; omega)) [ltT, ltF, leT, leF, eqT', eqF, ltTn, leTn, ltFn, leFn, wrapI, mid]
          refine (at_V _ _ _).useV ?_
          simp [tabFault, h1, h2, ← hkk, h3]
          exact rshift_d hok
        · simp (disch := first | omega | (simp; done) | (simp; omega)) [ltT, ltF, leT, leF, eqT', eqF, ltTn, leTn, ltFn, leFn, wrapI, mid]
          refine (at_V _ _ _).useV ?_
          simp [tabFault, h1, h2, ← hkk, h3]
          exact rshift_d hok
  | cons x rest =>
    subst hx
    rw [total_app] at ht
    simp only [List.length_append, List.length_cons, total] at hl ht
    by_cases hxe : x = []
    · rcases hk with ⟨h1, h2, h3⟩ | ⟨h1, h2⟩
      · simp (disch := first | omega | (simp; done) | (simp; omega)) [ltT, ltF, leT, leF, eqT', eqF, ltTn, leTn, ltFn, leFn, wrapI, mid, encR, hxe]
        refine hA (pre ++ [x], rest, (pre.length : Int)) _ ⟨by simp, .inr ⟨by simp, ?_⟩⟩ (by simp) (Shift.slots' rfl (by simp [total_app, total, hxe, encR]))
        rw [← h3, idxFrom, if_pos (by simp [hxe])]
      · simp (disch := first | omega | (simp; done) | (simp; omega)) [ltT, ltF, leT, leF, eqT', eqF, ltTn, leTn, ltFn, leFn, wrapI, mid, encR, hxe]
        exact hA (pre ++ [x], rest, k) _ ⟨by simp, .inr ⟨h1, h2⟩⟩ (by simp) (Shift.slots' rfl (by simp [total_app, total, hxe, encR]))
    · have hxl : x.length ≠ 0 := fun e => hxe (List.eq_nil_of_length_eq_zero e)
      simp (disch := first | omega | (simp; done) | (simp; omega)) [ltT, ltF, leT, leF, eqT', eqF, ltTn, leTn, ltFn, leFn, wrapI, mid, encR, hxe]
      refine hA (pre ++ [x], rest, k) _ ⟨by simp, ?_⟩ (by simp) (Shift.slots' rfl (by simp [total_app, total, encR]))
      rcases hk with ⟨h1, h2, h3⟩ | ⟨h1, h2⟩
      · refine .inl ⟨h1, h2, ?_⟩
        rw [← h3, idxFrom, if_neg (by simp [hxe])]
        simp
      · exact .inr ⟨h1, h2⟩

end Go.Vm
