/- CsA: Cs1, Cs2, Cs3, Cs4. -/
import Derived.Test.YtggeifnbllfmbaaDoorBu
import Derived.Lib.ReplaceLaws
/- csv: dialects, faults, check. -/
namespace Go.Vm
open Proofs
set_option maxRecDepth 20000
set_option maxHeartbeats 1000000
set_option linter.unusedSimpArgs false

structure Dia where
  sep : UInt8
  quote : UInt8
  always : Bool
  ret : Bool
  deriving DecidableEq, Inhabited
def encDia (d : Dia) : D := .agg [.int .u8 (d.sep.toNat : Int), .int .u8 (d.quote.toNat : Int), .bool d.always, .bool d.ret]
def encF (f : Int × Int) : D := .agg [.int .i64 f.1, .int .i64 f.2]
def encR (r : List (List UInt8)) : D := .sl 9 (r.map encS)
@[simp] theorem cells_Dia (d : Dia) : D.cells (encDia d) = [.int .u8 (d.sep.toNat : Int), .int .u8 (d.quote.toNat : Int), .bool d.always, .bool d.ret] := rfl
@[simp] theorem fold_Dia (d : Dia) : D.agg [.int .u8 (d.sep.toNat : Int), .int .u8 (d.quote.toNat : Int), .bool d.always, .bool d.ret] = encDia d := rfl
@[simp] theorem cells_F (f : Int × Int) : D.cells (encF f) = [.int .i64 f.1, .int .i64 f.2] := rfl
@[simp] theorem fold_F (a b : Int) : D.agg [.int .i64 a, .int .i64 b] = encF (a, b) := rfl
@[simp] theorem cells_R (r : List (List UInt8)) : D.cells (encR r) = [encR r] := rfl
@[simp high] theorem field_F0 (f : Int × Int) : fieldAV tb 26 (.d (encF f)) 0 = some (True, .d (.int .i64 f.1)) := by simp [-fold_F, encF]

theorem u8_10 (c : UInt8) : ((c.toNat : Int) = 10) = (c = 10) := u8_inj c 10
theorem u8_13 (c : UInt8) : ((c.toNat : Int) = 13) = (c = 13) := u8_inj c 13

def isEnd (c : UInt8) : Bool := decide (c = 10) || decide (c = 13)
theorem end_V (c : UInt8) (h : List Blk) : CallP Tryd.prog 33 [.d (.int .u8 (c.toNat : Int))] h (.d (.bool (isEnd c))) := by
  refine callW tb_ok fn33 (by simp) (fun hok => ?_)
  by_cases h1 : c = 10 <;> by_cases h2 : c = 13 <;> simp [c33, isEnd, u8_10, u8_13, h1, h2]

def diaFault (d : Dia) : Int × Int := if d.sep = d.quote ∨ isEnd d.sep = true ∨ isEnd d.quote = true then (6, -1) else (0, 0)

theorem at_V (a b : Int) (h : List Blk) : CallP Tryd.prog 16 [.d (.int .i64 a), .d (.int .i64 b)] h (.d (encF (a, b))) := by
  refine callW tb_ok fn16 (by simp) (fun hok => ?_)
  simp [c16]
  exact rshift_d hok

theorem validate_V (d : Dia) (h : List Blk) : CallP Tryd.prog 13 [.d (encDia d)] h (.d (encF (diaFault d))) := by
  refine callW tb_ok fn13 (by simp) (fun hok => ?_)
  by_cases h1 : d.sep = d.quote
  · simp [c13, u8_inj, h1, diaFault]
    exact rshift_d hok
  · simp [c13, u8_inj, h1, diaFault]
    refine (end_V _ _).useV ?_
    cases h2 : isEnd d.sep with
    | true => simp [h2]; exact rshift_d hok
    | false =>
      simp [h2]
      refine (end_V _ _).useV ?_
      cases h3 : isEnd d.quote <;> simp [h3] <;> exact rshift_d hok

theorem diaRef_V (d : Dia) (h : List Blk) : CallP Tryd.prog 12 [.d (encDia d)] h (.d (encF (diaFault d))) := by
  refine callW tb_ok fn12 (by simp) (fun hok => ?_)
  have e1 := u8_inj d.sep d.quote
  have e2 := u8_10 d.sep
  have e3 := u8_13 d.sep
  have e4 := u8_10 d.quote
  have e5 := u8_13 d.quote
  obtain ⟨s, hs⟩ : ∃ s : Int, s = (d.sep.toNat : Int) := ⟨_, rfl⟩
  obtain ⟨q, hq⟩ : ∃ q : Int, q = (d.quote.toNat : Int) := ⟨_, rfl⟩
  rw [← hs] at e1 e2 e3
  rw [← hq] at e1 e4 e5
  have hR : ∀ b : Bool, b = (decide (s = q) || decide (s = 10) || decide (s = 13) || decide (q = 10) || decide (q = 13)) → diaFault d = if b = true then (6, -1) else (0, 0) := by
    intro b hb
    simp only [diaFault, isEnd, ← e1, ← e2, ← e3, ← e4, ← e5, Bool.or_eq_true, decide_eq_true_eq, hb]
    by_cases h1 : s = q <;> by_cases h2 : s = 10 <;> by_cases h3 : s = 13 <;> by_cases h4 : q = 10 <;> by_cases h5 : q = 13 <;> simp [h1, h2, h3, h4, h5]
  by_cases h1 : s = q
  · rw [hR true (by simp [h1])]
    simp [c12, ← hs, ← hq, h1]
    refine (at_V _ _ _).useV ?_
    simp
    exact rshift_d hok
  by_cases h2 : s = 10
  · rw [hR true (by simp [h2])]
    simp (disch := first | omega | (simp; done) | (simp; omega)) [ltT, ltF, leT, leF, eqT', eqF, ltTn, leTn, ltFn, leFn, wrapI, mid, c12, ← hs, ← hq]
    refine (at_V _ _ _).useV ?_
    simp
    exact rshift_d hok
  by_cases h3 : s = 13
  · rw [hR true (by simp [h3])]
    simp (disch := first | omega | (simp; done) | (simp; omega)) [ltT, ltF, leT, leF, eqT', eqF, ltTn, leTn, ltFn, leFn, wrapI, mid, c12, ← hs, ← hq]
    refine (at_V _ _ _).useV ?_
    simp
    exact rshift_d hok
  by_cases h4 : q = 10
  · rw [hR true (by simp [h4])]
    simp (disch := first | omega | (simp; done) | (simp; omega)) [ltT, ltF, leT, leF, eqT', eqF, ltTn, leTn, ltFn, leFn, wrapI, mid, c12, ← hs, ← hq]
    refine (at_V _ _ _).useV ?_
    simp
    exact rshift_d hok
  by_cases h5 : q = 13
  · rw [hR true (by simp [h5])]
    simp (disch := first | omega | (simp; done) | (simp; omega)) [ltT, ltF, leT, leF, eqT', eqF, ltTn, leTn, ltFn, leFn, wrapI, mid, c12, ← hs, ← hq]
    refine (at_V _ _ _).useV ?_
    simp
    exact rshift_d hok
  rw [hR false (by simp [h1, h2, h3, h4, h5])]
  simp (disch := first | omega | (simp; done) | (simp; omega)) [ltT, ltF, leT, leF, eqT', eqF, ltTn, leTn, ltFn, leFn, wrapI, mid, c12, ← hs, ← hq]
  refine (at_V _ _ _).useV ?_
  simp
  exact rshift_d hok

theorem indexFunc42_V (xs : List (List (List UInt8))) (g : FuncId) (p : List (List UInt8) → Bool) (h : List Blk) (hl : xs.length < 1000000000)
    (hg : ∀ x ∈ xs, CallP Tryd.prog g [.d (encR x)] h (.d (.bool (p x)))) : CallP Tryd.prog 42 [.d (.sl 39 (xs.map encR)), .d (.fn g)] h (.d (.int .i64 (idxFrom p 0 xs))) := by
  refine callW tb_ok fn42 (by simp) (fun hok => ?_)
  simp [c42]
  refine W_loopA (ι := List (List (List UInt8)) × List (List (List UInt8))) (fun q => q.1 ++ q.2 = xs ∧ idxFrom p q.1.length q.2 = idxFrom p 0 xs) (fun q => ⟨[(0, .d (.sl 39 (xs.map encR))), (1, .d (.fn g)), (7, .d (.int .i64 xs.length)), (8, .d (.int .i64 q.1.length))], h⟩) (fun q => q.2.length) ([], xs) (by simp) (Shift.slots' rfl (by simp [look])) ?_
  rintro ⟨pre, rest⟩ ⟨hx, hc⟩ A hA
  simp only at hx hc
  subst hx
  cases rest with
  | nil =>
    simp only [idxFrom, List.append_nil] at hc
    simp (disch := first | omega | (simp; done) | (simp; omega)) [ltT, ltF, leT, leF, eqT', eqF, ltTn, leTn, ltFn, leFn, wrapI, mid, ← hc]
  | cons x rest =>
    simp only [List.length_append, List.length_cons] at hl
    simp (disch := first | omega | (simp; done) | (simp; omega)) [ltT, ltF, leT, leF, eqT', eqF, ltTn, leTn, ltFn, leFn, wrapI, mid]
    refine (hg x (by simp)).useV ?_
    by_cases hp : p x = true
    · have hr : idxFrom p 0 (pre ++ x :: rest) = pre.length := by rw [← hc, idxFrom, if_pos hp]
      simp [hp, hr]
    · have hp' : p x = false := by simpa using hp
      simp (disch := first | omega | (simp; done) | (simp; omega)) [ltT, ltF, leT, leF, eqT', eqF, ltTn, leTn, ltFn, leFn, wrapI, mid, hp']
      refine hA (pre ++ [x], rest) _ ⟨by simp, ?_⟩ (by simp) (Shift.slots' rfl (by simp))
      rw [← hc, idxFrom, if_neg hp]
      simp

theorem empty_V (r : List (List UInt8)) (h : List Blk) : CallP Tryd.prog 43 [.d (encR r)] h (.d (.bool (decide (r = [])))) := by
  refine callW tb_ok fn43 (by simp) (fun hok => ?_)
  by_cases h1 : r = []
  · simp [c43, encR, h1]
  · have : r.length ≠ 0 := fun e => h1 (List.eq_nil_of_length_eq_zero e)
    simp [c43, encR, h1, this]

def tabFault (rows : List (List (List UInt8))) (at' : Int) : Int × Int :=
  if 200 < rows.length ∨ 1000 < total rows then (2, at') else if 0 ≤ idxFrom (fun r => decide (r = [])) 0 rows then (10, idxFrom (fun r => decide (r = [])) 0 rows) else (0, 0)

theorem check_V (rows : List (List (List UInt8))) (at' : Int) (hl : rows.length < 2000000) (ht : total rows < 2000000000000) (h : List Blk) : CallP Tryd.prog 27 [.d (.sl 39 (rows.map encR)), .d (.int .i64 at')] h (.d (encF (tabFault rows at'))) := by
  refine callW tb_ok fn27 (by simp) (fun hok => ?_)
  simp [c27]
  refine W_loopA (ι := List (List (List UInt8)) × List (List (List UInt8))) (fun p => p.1 ++ p.2 = rows) (fun p => ⟨[(0, .d (.sl 39 (rows.map encR))), (1, .d (.int .i64 at')), (4, .ptr h.length 26 0 0), (5, .d (.int .i64 (total p.1))), (9, .d (.sl 39 (rows.map encR))), (10, .d (.int .i64 rows.length)), (11, .d (.int .i64 p.1.length))],
    h ++ [.cells 26 [.d (encF (0, 0))]]⟩) (fun p => p.2.length) ([], rows) (by simp) (Shift.slots' (by simp) (by simp [total])) ?_
  rintro ⟨pre, rest⟩ hx A hA
  simp only at hx
  cases rest with
  | nil =>
    simp only [List.append_nil] at hx
    subst hx
    by_cases h1 : 200 < pre.length
    · simp (disch := first | omega | (simp; done) | (simp; omega)) [ltT, ltF, leT, leF, eqT', eqF, ltTn, leTn, ltFn, leFn, wrapI, mid, tabFault, h1]
      exact rshift_d hok
    · by_cases h2 : 1000 < total pre
      · simp (disch := first | omega | (simp; done) | (simp; omega)) [ltT, ltF, leT, leF, eqT', eqF, ltTn, leTn, ltFn, leFn, wrapI, mid, tabFault, h1, h2]
        exact rshift_d hok
      · simp (disch := first | omega | (simp; done) | (simp; omega)) [ltT, ltF, leT, leF, eqT', eqF, ltTn, leTn, ltFn, leFn, wrapI, mid]
        refine (indexFunc42_V pre 43 (fun r => decide (r = [])) _ (by omega) (fun x _ => empty_V x _)).useV ?_
        by_cases h3 : 0 ≤ idxFrom (fun r => decide (r = [])) 0 pre
        · simp (disch := first | omega | (simp; done) | (simp; omega)) [ltT, ltF, leT, leF, eqT', eqF, ltTn, leTn, ltFn, leFn, wrapI, mid, tabFault, h1, h2, h3]
          exact rshift_d hok
        · simp (disch := first | omega | (simp; done) | (simp; omega)) [ltT, ltF, leT, leF, eqT', eqF, ltTn, leTn, ltFn, leFn, wrapI, mid, tabFault, h1, h2, h3]
          exact rshift_d hok
  | cons x rest =>
    subst hx
    rw [total_app] at ht
    simp only [List.length_append, List.length_cons, total] at hl ht
    simp (disch := first | omega | (simp; done) | (simp; omega)) [ltT, ltF, leT, leF, eqT', eqF, ltTn, leTn, ltFn, leFn, wrapI, mid, encR]
    exact hA (pre ++ [x], rest) _ (by simp) (by simp) (Shift.slots' rfl (by simp [total_app, total, encR]))

theorem tableFault_V (rows : List (List (List UInt8))) (at' : Int) (hl : rows.length < 2000000) (ht : total rows < 2000000000000) (h : List Blk) : CallP Tryd.prog 14 [.d (.sl 39 (rows.map encR)), .d (.int .i64 at')] h (.d (encF (tabFault rows at'))) := by
  refine callW tb_ok fn14 (by simp) (fun hok => ?_)
  simp [c14]
  refine W_loopA (ι := List (List (List UInt8)) × List (List (List UInt8)) × Int) (fun p => p.1 ++ p.2.1 = rows ∧ ((p.2.2 < 0 ∧ p.2.2 = -1 ∧ idxFrom (fun r => decide (r = [])) p.1.length p.2.1 = idxFrom (fun r => decide (r = [])) 0 rows) ∨ (0 ≤ p.2.2 ∧ p.2.2 = idxFrom (fun r => decide (r = [])) 0 rows)))
    (fun p => ⟨[(0, .d (.sl 39 (rows.map encR))), (1, .d (.int .i64 at')), (4, .ptr h.length 26 0 0), (5, .d (.int .i64 (total p.1))), (6, .d (.int .i64 p.2.2)), (7, .d (.int .i64 p.1.length))],
    h ++ [.cells 26 [.d (encF (0, 0))]]⟩) (fun p => p.2.1.length) ([], rows, -1) (by simp) (Shift.slots' (by simp) (by simp [total])) ?_
  rintro ⟨pre, rest, k⟩ ⟨hx, hk⟩ A hA
  simp only at hx hk
  cases rest with
  | nil =>
    simp only [List.append_nil] at hx
    subst hx
    have hkk : k = idxFrom (fun r => decide (r = [])) 0 pre := by
      rcases hk with ⟨_, h2, h3⟩ | ⟨_, h2⟩
      · rw [h2, ← h3]; rfl
      · exact h2
    by_cases h2 : 1000 < total pre
    · simp (disch := first | omega | (simp; done) | (simp; omega)) [ltT, ltF, leT, leF, eqT', eqF, ltTn, leTn, ltFn, leFn, wrapI, mid]
      refine (at_V _ _ _).useV ?_
      simp [tabFault, h2]
      exact rshift_d hok
    · by_cases h1 : 200 < pre.length
      · simp (disch := first | omega | (simp; done) | (simp; omega)) [ltT, ltF, leT, leF, eqT', eqF, ltTn, leTn, ltFn, leFn, wrapI, mid]
        refine (at_V _ _ _).useV ?_
        simp [tabFault, h1]
        exact rshift_d hok
      · by_cases h3 : 0 ≤ k
        · simp (disch := first | omega | (simp; done) | (simp; omega)) [ltT, ltF, leT, leF, eqT', eqF, ltTn, leTn, ltFn, leFn, wrapI, mid]
          refine (at_V _ _ _).useV ?_
          simp [tabFault, h1, h2, ← hkk, h3]
          exact rshift_d hok
        · simp (disch := first | omega | (simp; done) | (simp; omega)) [ltT, ltF, leT, leF, eqT', eqF, ltTn, leTn, ltFn, leFn, wrapI, mid]
          refine (at_V _ _ _).useV ?_
          simp [tabFault, h1, h2, ← hkk, h3]
          exact rshift_d hok
  | cons x rest =>
    subst hx
    rw [total_app] at ht
    simp only [List.length_append, List.length_cons, total] at hl ht
    by_cases hxe : x = []
    · rcases hk with ⟨h1, h2, h3⟩ | ⟨h1, h2⟩
      · simp (disch := first | omega | (simp; done) | (simp; omega)) [ltT, ltF, leT, leF, eqT', eqF, ltTn, leTn, ltFn, leFn, wrapI, mid, encR, hxe]
        refine hA (pre ++ [x], rest, (pre.length : Int)) _ ⟨by simp, .inr ⟨by simp, ?_⟩⟩ (by simp) (Shift.slots' rfl (by simp [total_app, total, hxe, encR]))
        rw [← h3, idxFrom, if_pos (by simp [hxe])]
      · simp (disch := first | omega | (simp; done) | (simp; omega)) [ltT, ltF, leT, leF, eqT', eqF, ltTn, leTn, ltFn, leFn, wrapI, mid, encR, hxe]
        exact hA (pre ++ [x], rest, k) _ ⟨by simp, .inr ⟨h1, h2⟩⟩ (by simp) (Shift.slots' rfl (by simp [total_app, total, hxe, encR]))
    · have hxl : x.length ≠ 0 := fun e => hxe (List.eq_nil_of_length_eq_zero e)
      simp (disch := first | omega | (simp; done) | (simp; omega)) [ltT, ltF, leT, leF, eqT', eqF, ltTn, leTn, ltFn, leFn, wrapI, mid, encR, hxe]
      refine hA (pre ++ [x], rest, k) _ ⟨by simp, ?_⟩ (by simp) (Shift.slots' rfl (by simp [total_app, total, encR]))
      rcases hk with ⟨h1, h2, h3⟩ | ⟨h1, h2⟩
      · refine .inl ⟨h1, h2, ?_⟩
        rw [← h3, idxFrom, if_neg (by simp [hxe])]
        simp
      · exact .inr ⟨h1, h2⟩

end Go.Vm

/- csv: the text of a cell. -/
namespace Go.Vm
open Proofs
set_option maxRecDepth 20000
set_option maxHeartbeats 1000000
set_option linter.unusedSimpArgs false

theorem index_one (q b : UInt8) (l : List UInt8) : Lib.index (b :: l) [q] = if b = q then 0 else if Lib.index l [q] = -1 then -1 else Lib.index l [q] + 1 := by
  simp only [Lib.index, List.isPrefixOf_cons_cons, List.isPrefixOf_nil_left, Bool.and_true, beq_iff_eq]
  by_cases h : b = q
  · simp [h]
  · simp [h, Ne.symm h]

theorem count_one (q b : UInt8) (l : List UInt8) : Lib.count (b :: l) [q] = (if b = q then 1 else 0) + Lib.count l [q] := by
  have hi := index_one q b l
  by_cases h : b = q
  · rw [if_pos h] at hi
    have := Lib.count_hit (s := b :: l) (sub := [q]) (i := 0) (by simp) hi
    rw [this, if_pos h]
    simp
  · rw [if_neg h] at hi
    by_cases hm : Lib.index l [q] = -1
    · rw [if_pos hm] at hi
      rw [Lib.count_miss hi, Lib.count_miss hm, if_neg h]
    · rw [if_neg hm] at hi
      have hge := Lib.index_ge l [q]
      obtain ⟨i, hl⟩ : ∃ i : Nat, Lib.index l [q] = i := ⟨(Lib.index l [q]).toNat, by omega⟩
      have h1 := Lib.count_hit (s := b :: l) (sub := [q]) (i := i + 1) (by simp) (by rw [hi, hl]; rfl)
      have h2 := Lib.count_hit (s := l) (sub := [q]) (i := i) (by simp) hl
      rw [h1, h2, if_neg h]
      simp

theorem replaceK_one (q : UInt8) (new : List UInt8) : ∀ (s : List UInt8) (k : Nat), Lib.count s [q] ≤ k → Lib.replaceK [q] new k s = s.flatMap fun c => if c = q then new else [c]
  | [], k, _ => by
    cases k with
    | zero => rfl
    | succ k => simp [Lib.replaceK, Lib.index]
  | b :: l, k, hk => by
    have hi := index_one q b l
    rw [count_one] at hk
    by_cases h : b = q
    · rw [if_pos h] at hk
      cases k with
      | zero => omega
      | succ k =>
        have ih := replaceK_one q new l k (by omega)
        rw [if_pos h] at hi
        rw [Lib.replaceK, hi]
        simp only [Int.toNat_zero, List.take_zero, List.nil_append, Nat.zero_add, List.length_singleton, List.drop_succ_cons, List.drop_zero, ih, List.flatMap_cons, h, if_true]
        simp
    · rw [if_neg h] at hi
      have ih := replaceK_one q new l k (by rw [if_neg h] at hk; omega)
      simp only [List.flatMap_cons, h, if_false, List.singleton_append, ← ih]
      cases k with
      | zero => rfl
      | succ k =>
        by_cases hm : Lib.index l [q] = -1
        · rw [if_pos hm] at hi
          simp [Lib.replaceK, hi, hm]
        · rw [if_neg hm] at hi
          have hge := Lib.index_ge l [q]
          obtain ⟨i, hl⟩ : ∃ i : Nat, Lib.index l [q] = i := ⟨(Lib.index l [q]).toNat, by omega⟩
          have hi' : Lib.index (b :: l) [q] = ((i + 1 : Nat) : Int) := by rw [hi, hl]; rfl
          rw [Lib.replaceK_hit [q] new k (b :: l) (i + 1) hi', Lib.replaceK_hit [q] new k l i hl]
          simp

def doubled (q : UInt8) (s : List UInt8) : List UInt8 := s.flatMap fun c => if c = q then [q, q] else [c]

theorem replaceAll_one (q : UInt8) (s : List UInt8) : Lib.replaceAll s [q] [q, q] = doubled q s := by
  unfold Lib.replaceAll Lib.replace Lib.replaceNum
  rw [if_neg (by simp), if_pos (.inl (by omega))]
  exact replaceK_one q [q, q] s _ (Nat.le_refl _)

theorem count_len (q : UInt8) : ∀ s : List UInt8, Lib.count s [q] ≤ s.length
  | [] => by simp [Lib.count, Lib.countFrom, Lib.index]
  | b :: l => by rw [count_one]; have := count_len q l; simp only [List.length_cons]; split <;> omega

theorem indexByte_mem (c : UInt8) : ∀ s : List UInt8, (0 ≤ Lib.indexByte s c) = (c ∈ s)
  | [] => by simp [Lib.indexByte]
  | b :: l => by
    have ih := indexByte_mem c l
    have hge := Lib.indexByte_ge l c
    unfold Lib.indexByte
    by_cases h : b = c
    · simp [h]
    · have h' : (b == c) = false := by simpa using h
      rw [h']
      simp only [Bool.false_eq_true, if_false, List.mem_cons, Ne.symm h, false_or, ← ih]
      split
      · rename_i hm; rw [beq_iff_eq] at hm; rw [hm]
      · rename_i hm; rw [beq_iff_eq] at hm; apply propext; constructor <;> intro _ <;> omega

theorem indexByte_V (s : List UInt8) (c : UInt8) (h : List Blk) : CallP Tryd.prog 45 [.d (.str s), .d (.int .u8 (c.toNat : Int))] h (.d (.int .i64 (Lib.indexByte s c))) := by
  refine callP_below (ds := [.str s, .int .u8 (c.toNat : Int)]) (r := .int .i64 (Lib.indexByte s c)) ⟨Tryd.f45, Tryd.func45, by kernel_rfl, by kernel_rfl⟩ rfl rfl (fun base w0 w _ _ _ => ?_)
  refine (Tryd.strings_IndexByte ⟨s.toArray⟩ (c.toNat : Int) w).mono ?_
  rintro e w' ⟨rfl, rfl⟩
  exact ⟨by simp [D.val], RowKit.Below.refl _ _⟩

theorem replaceAll_V (s : List UInt8) (q : UInt8) (hs : s.length ≤ 1048576) (h : List Blk) : CallP Tryd.prog 46 [.d (.str s), .d (.str [q]), .d (.str [q, q])] h (.d (.str (doubled q s))) := by
  refine callP_below (ds := [.str s, .str [q], .str [q, q]]) (r := .str (doubled q s)) ⟨Tryd.f46, Tryd.func46, by kernel_rfl, by kernel_rfl⟩ rfl rfl (fun base w0 w hg hb hw => ?_)
  obtain ⟨m, hg1, hg2⟩ := hg
  have hm : w.cell? ⟨0, 0, none⟩ = some (.int .i64 m) := by
    simp only [World.cell?, hw 0 hg1] at hg2 ⊢
    exact hg2
  have hsz : (ByteArray.mk s.toArray).size = s.length := by show s.toArray.size = _; simp
  have hsz2 : (ByteArray.mk [q, q].toArray).size = 2 := rfl
  have hsz1 : (ByteArray.mk [q].toArray).size = 1 := rfl
  have hcnt : Lib.countB ⟨s.toArray⟩ ⟨[q].toArray⟩ ≤ s.length := by simpa [Lib.countB] using count_len q s
  refine (Tryd.strings_ReplaceAll ⟨s.toArray⟩ ⟨[q].toArray⟩ ⟨[q, q].toArray⟩ m w (by rw [hsz]; omega) hm (by rw [hsz1]; omega) (by rw [hsz, hsz2]; omega)).mono ?_
  rintro e w' ⟨rfl, hb'⟩
  exact ⟨by simp [D.val, replaceAll_one], hb'⟩

/-- Has a text a byte that must stand in quotes? -/
def special (d : Dia) (c : UInt8) : Bool := decide (c = d.sep) || decide (c = d.quote) || decide (c = 10) || decide (c = 13)
def cellText (d : Dia) (s : List UInt8) : List UInt8 := if (d.always || s.any (special d)) = true then d.quote :: (doubled d.quote s ++ [d.quote]) else s

theorem special_mem (d : Dia) (c : UInt8) : (0 ≤ Lib.indexByte [d.sep, d.quote, 10, 13] c) = (special d c = true) := by
  rw [indexByte_mem]
  simp [special, or_assoc]

@[simp] theorem ofNat_toNat_u8 (c : UInt8) : UInt8.ofNat ((c.toNat : Int).toNat) = c := by simp

theorem doubled_len (q : UInt8) : ∀ s : List UInt8, (doubled q s).length ≤ 2 * s.length
  | [] => by simp [doubled]
  | b :: l => by
    have ih := doubled_len q l
    have : doubled q (b :: l) = (if b = q then [q, q] else [b]) ++ doubled q l := rfl
    rw [this, List.length_append, List.length_cons]
    split <;> simp only [List.length_cons, List.length_nil] <;> omega

theorem cell_V (s : List UInt8) (d : Dia) (hs : s.length ≤ 1048576) (h : List Blk) : CallP Tryd.prog 30 [.d (.str s), .d (encDia d)] h (.d (.str (cellText d s))) := by
  refine callW tb_ok fn30 (by simp) (fun hok => ?_)
  simp [c30]
  refine W_loopA (ι := List UInt8 × List UInt8) (fun p => p.1 ++ p.2 = s) (fun p => ⟨[(0, .d (.str s)), (3, .ptr h.length 24 0 0), (5, .d (.str [d.sep, d.quote, 10, 13])), (6, .d (.bool (p.1.any (special d)))), (16, .d (.int .i64 s.length)), (17, .d (.int .i64 p.1.length))],
    h ++ [.cells 24 [.d (encDia d)]]⟩) (fun p => p.2.length) ([], s) (by simp) (Shift.slots' (by simp) (by simp)) ?_
  rintro ⟨pre, rest⟩ hx A hA
  simp only at hx
  cases rest with
  | nil =>
    simp only [List.append_nil] at hx
    subst hx
    have hdl := doubled_len d.quote pre
    have quoted : (d.always || pre.any (special d)) = true → cellText d pre = d.quote :: (doubled d.quote pre ++ [d.quote]) := fun hc => by unfold cellText; rw [if_pos hc]
    cases ha : d.always with
    | false =>
      cases hs2 : pre.any (special d) with
      | false =>
        simp (disch := first | omega | (simp; done) | (simp; omega)) [ltT, ltF, leT, leF, eqT', eqF, ltTn, leTn, ltFn, leFn, wrapI, mid, ha, hs2, cellText]
        exact rshift_d hok
      | true =>
        simp (disch := first | omega | (simp; done) | (simp; omega)) [ltT, ltF, leT, leF, eqT', eqF, ltTn, leTn, ltFn, leFn, wrapI, mid, ha, hs2]
        refine (replaceAll_V pre d.quote hs _).useV ?_
        simp (disch := first | omega | (simp; done) | (simp; omega)) [ltT, ltF, leT, leF, eqT', eqF, ltTn, leTn, ltFn, leFn, wrapI, mid, quoted (by simp [hs2])]
        exact rshift_d hok
    | true =>
      simp (disch := first | omega | (simp; done) | (simp; omega)) [ltT, ltF, leT, leF, eqT', eqF, ltTn, leTn, ltFn, leFn, wrapI, mid, ha]
      refine (replaceAll_V pre d.quote hs _).useV ?_
      simp (disch := first | omega | (simp; done) | (simp; omega)) [ltT, ltF, leT, leF, eqT', eqF, ltTn, leTn, ltFn, leFn, wrapI, mid, quoted (by simp [ha])]
      exact rshift_d hok
  | cons x rest =>
    subst hx
    simp only [List.length_append, List.length_cons] at hs
    cases hs2 : pre.any (special d) with
    | true =>
      simp (disch := first | omega | (simp; done) | (simp; omega)) [ltT, ltF, leT, leF, eqT', eqF, ltTn, leTn, ltFn, leFn, wrapI, mid, hs2]
      exact hA (pre ++ [x], rest) _ (by simp) (by simp) (Shift.slots' (by simp) (by simp [hs2]))
    | false =>
      simp (disch := first | omega | (simp; done) | (simp; omega)) [ltT, ltF, leT, leF, eqT', eqF, ltTn, leTn, ltFn, leFn, wrapI, mid, hs2]
      refine (indexByte_V _ _ _).useV ?_
      simp (disch := first | omega | (simp; done) | (simp; omega)) [ltT, ltF, leT, leF, eqT', eqF, ltTn, leTn, ltFn, leFn, wrapI, mid, special_mem]
      exact hA (pre ++ [x], rest) _ (by simp) (by simp) (Shift.slots' (by simp) (by simp [hs2]))

end Go.Vm

/- csv: the text of a table. -/
namespace Go.Vm
open Proofs
set_option maxRecDepth 20000
set_option maxHeartbeats 1000000
set_option linter.unusedSimpArgs false

@[simp] theorem byteAt_app (a b : List UInt8) (c : UInt8) : byteAt (a ++ c :: b) a.length = (c.toNat : Int) := by simp [byteAt]

@[simp] theorem midOne_app (a b : List UInt8) (c : UInt8) : List.drop a.length (List.take (a.length + 1) (a ++ c :: b)) = [c] := by simp [List.take_append, List.take_of_length_le]

def rowFrom (d : Dia) : Nat → List (List UInt8) → List UInt8
  | _, [] => []
  | i, x :: l => (if i = 0 then [] else [d.sep]) ++ (cellText d x ++ rowFrom d (i + 1) l)
def lineEnd (d : Dia) : List UInt8 := (if d.ret = true then [13] else []) ++ [10]
def rowText (d : Dia) (r : List (List UInt8)) : List UInt8 := rowFrom d 0 r ++ lineEnd d
def tableText (d : Dia) (rows : List (List (List UInt8))) : List UInt8 := rows.flatMap (rowText d)

theorem rowFrom_app (d : Dia) : ∀ (a b : List (List UInt8)) (i : Nat), rowFrom d i (a ++ b) = rowFrom d i a ++ rowFrom d (i + a.length) b
  | [], b, i => by simp [rowFrom]
  | x :: a, b, i => by
    simp only [List.cons_append, rowFrom, rowFrom_app d a b (i + 1), List.append_assoc, List.length_cons]
    rw [show i + 1 + a.length = i + (a.length + 1) by omega]
theorem rowFrom_one (d : Dia) (x : List UInt8) (i : Nat) : rowFrom d i [x] = (if i = 0 then [] else [d.sep]) ++ cellText d x := by simp [rowFrom]
theorem tableText_app (d : Dia) (a b : List (List (List UInt8))) : tableText d (a ++ b) = tableText d a ++ tableText d b := by simp [tableText]
theorem tableText_one (d : Dia) (x : List (List UInt8)) : tableText d [x] = rowFrom d 0 x ++ lineEnd d := by simp [tableText, rowText]
theorem doubled_app (q : UInt8) (a b : List UInt8) : doubled q (a ++ b) = doubled q a ++ doubled q b := by simp [doubled]
theorem doubled_one (q c : UInt8) : doubled q [c] = if c = q then [c, c] else [c] := by by_cases h : c = q <;> simp [doubled, h]

theorem cellText_len (d : Dia) (s : List UInt8) (hs : s.length ≤ 1048576) : (cellText d s).length ≤ 2097154 := by
  have := doubled_len d.quote s
  unfold cellText
  split
  · simp only [List.length_cons, List.length_append, List.length_nil]; omega
  · omega
theorem rowFrom_len (d : Dia) : ∀ (r : List (List UInt8)) (i : Nat), (∀ s ∈ r, s.length ≤ 1048576) → (rowFrom d i r).length ≤ r.length * 2097155
  | [], _, _ => by simp [rowFrom]
  | x :: l, i, h => by
    have ih := rowFrom_len d l (i + 1) (fun s hs => h s (by simp [hs]))
    have hc := cellText_len d x (h x (by simp))
    simp only [rowFrom, List.length_append, List.length_cons]
    split <;> simp only [List.length_nil, List.length_cons] <;> omega
theorem lineEnd_len (d : Dia) : (lineEnd d).length ≤ 2 := by unfold lineEnd; split <;> simp
theorem tableText_len (d : Dia) : ∀ (rows : List (List (List UInt8))), (∀ r ∈ rows, ∀ s ∈ r, s.length ≤ 1048576) → (tableText d rows).length ≤ total rows * 2097155 + 2 * rows.length
  | [], _ => by simp [tableText, total]
  | x :: l, h => by
    have ih := tableText_len d l (fun r hr => h r (by simp [hr]))
    have hc := rowFrom_len d x 0 (h x (by simp))
    have he := lineEnd_len d
    have : tableText d (x :: l) = (rowFrom d 0 x ++ lineEnd d) ++ tableText d l := rfl
    rw [this]
    simp only [List.length_append, List.length_cons, total]
    omega

theorem tableText_V (rows : List (List (List UInt8))) (d : Dia) (hl : rows.length < 2000000) (ht : total rows < 2000000) (hr : ∀ r ∈ rows, ∀ s ∈ r, s.length ≤ 1048576) (h : List Blk) :
    CallP Tryd.prog 15 [.d (.sl 39 (rows.map encR)), .d (encDia d)] h (.d (.str (tableText d rows))) := by
  refine callW tb_ok fn15 (by simp) (fun hok => ?_)
  simp (disch := first | omega | (simp; done) | (simp; omega)) [ltT, ltF, leT, leF, eqT', eqF, ltTn, leTn, ltFn, leFn, wrapI, mid, c15]
  refine W_loopA (ι := List (List (List UInt8)) × List (List (List UInt8))) (fun p => p.1 ++ p.2 = rows) (fun p => ⟨[(0, .d (.sl 39 (rows.map encR))), (3, .ptr h.length 24 0 0), (5, .d (.str (tableText d p.1))), (6, .d (.int .i64 p.1.length))],
    h ++ [.cells 24 [.d (encDia d)]]⟩) (fun p => p.2.length) ([], rows) (by simp) (Shift.slots' (by simp) (by simp [tableText])) ?_
  rintro ⟨pre, rest⟩ hx A hA
  simp only at hx
  cases rest with
  | nil =>
    simp only [List.append_nil] at hx
    subst hx
    simp (disch := first | omega | (simp; done) | (simp; omega)) [ltT, ltF, leT, leF, eqT', eqF, ltTn, leTn, ltFn, leFn, wrapI, mid]
    exact rshift_d hok
  | cons x rest =>
    subst hx
    have hr2 := hr x (by simp)
    have hT := tableText_len d pre (fun r h => hr r (by simp [h]))
    rw [total_app] at ht
    simp only [List.length_append, List.length_cons, total] at hl ht
    simp (disch := first | omega | (simp; done) | (simp; omega)) [ltT, ltF, leT, leF, eqT', eqF, ltTn, leTn, ltFn, leFn, wrapI, mid]
    refine W_loopA (ι := List (List UInt8) × List (List UInt8)) (fun p => p.1 ++ p.2 = x) (fun p => ⟨[(0, .d (.sl 39 ((pre ++ x :: rest).map encR))), (3, .ptr h.length 24 0 0), (5, .d (.str (tableText d pre ++ rowFrom d 0 p.1))), (6, .d (.int .i64 pre.length)), (7, .d (.int .i64 p.1.length))],
      h ++ [.cells 24 [.d (encDia d)]]⟩) (fun p => p.2.length) ([], x) (by simp) (Shift.slots' (by simp) (by simp [rowFrom])) ?_
    rintro ⟨pr, rs⟩ hx2 A2 hA2
    simp only at hx2
    cases rs with
    | nil =>
      simp only [List.append_nil] at hx2
      subst hx2
      have hR := rowFrom_len d pr 0 hr2
      cases hret : d.ret with
      | true =>
        simp (disch := first | omega | (simp; done) | (simp; omega)) [ltT, ltF, leT, leF, eqT', eqF, ltTn, leTn, ltFn, leFn, wrapI, mid, encR, hret]
        exact hA (pre ++ [pr], rest) _ (by simp) (by simp) (Shift.slots' rfl (by simp [tableText_app, tableText_one, lineEnd, hret, encR]))
      | false =>
        simp (disch := first | omega | (simp; done) | (simp; omega)) [ltT, ltF, leT, leF, eqT', eqF, ltTn, leTn, ltFn, leFn, wrapI, mid, encR, hret]
        exact hA (pre ++ [pr], rest) _ (by simp) (by simp) (Shift.slots' rfl (by simp [tableText_app, tableText_one, lineEnd, hret, encR]))
    | cons s rs =>
      subst hx2
      have hs := hr2 s (by simp)
      have hR := rowFrom_len d pr 0 (fun s h => hr2 s (by simp [h]))
      simp only [List.length_append, List.length_cons] at ht
      obtain ⟨sp, hsp⟩ : ∃ sp, sp = (if pr.length = 0 then [] else [d.sep]) := ⟨_, rfl⟩
      have hsl : sp.length ≤ 1 := by rw [hsp]; split <;> simp
      by_cases h0 : pr.length = 0 <;>
      · simp (disch := first | omega | (simp; done) | (simp; omega)) [ltT, ltF, leT, leF, eqT', eqF, ltTn, leTn, ltFn, leFn, wrapI, mid, encR]
        refine W_loopA (ι := List UInt8 × List UInt8) (fun p => p.1 ++ p.2 = s) (fun p => ⟨[(0, .d (.sl 39 ((pre ++ (pr ++ s :: rs) :: rest).map encR))), (3, .ptr h.length 24 0 0), (5, .d (.str (tableText d pre ++ rowFrom d 0 pr ++ sp))), (6, .d (.int .i64 pre.length)), (7, .d (.int .i64 pr.length)),
          (8, .d (.bool (d.always || p.1.any (special d)))), (9, .d (.str (doubled d.quote p.1))), (10, .d (.str s)), (11, .d (.int .i64 p.1.length))],
          h ++ [.cells 24 [.d (encDia d)]]⟩) (fun p => p.2.length) ([], s) (by simp) (Shift.slots' rfl (by simp [hsp, h0, doubled, encR, encS])) ?_
        rintro ⟨ps, ss⟩ hx3 A3 hA3
        simp only at hx3
        cases ss with
        | nil =>
          simp only [List.append_nil] at hx3
          subst hx3
          have hD := doubled_len d.quote ps
          cases hq : (d.always || ps.any (special d)) with
          | true =>
            simp (disch := first | omega | (simp; done) | (simp; omega)) [ltT, ltF, leT, leF, eqT', eqF, ltTn, leTn, ltFn, leFn, wrapI, mid]
            exact hA2 (pr ++ [ps], rs) _ (by simp) (by simp) (Shift.slots' rfl (by simp [rowFrom_app, rowFrom_one, cellText, hq, hsp, h0]))
          | false =>
            simp (disch := first | omega | (simp; done) | (simp; omega)) [ltT, ltF, leT, leF, eqT', eqF, ltTn, leTn, ltFn, leFn, wrapI, mid]
            exact hA2 (pr ++ [ps], rs) _ (by simp) (by simp) (Shift.slots' rfl (by simp [rowFrom_app, rowFrom_one, cellText, hq, hsp, h0]))
        | cons c ss =>
          subst hx3
          simp only [List.length_append, List.length_cons] at hs
          have hD := doubled_len d.quote ps
          by_cases hq : c = d.quote
          · by_cases hsep : c = d.sep
            · simp (disch := first | omega | (simp; done) | (simp; omega)) [ltT, ltF, leT, leF, eqT', eqF, ltTn, leTn, ltFn, leFn, wrapI, mid, u8_inj, u8_10, u8_13, eq_true hq, eq_true hsep]
              exact hA3 (ps ++ [c], ss) _ (by simp) (by simp) (Shift.slots' rfl (by simp [special, eq_true hq, eq_true hsep, doubled_app, doubled_one]))
            · simp (disch := first | omega | (simp; done) | (simp; omega)) [ltT, ltF, leT, leF, eqT', eqF, ltTn, leTn, ltFn, leFn, wrapI, mid, u8_inj, u8_10, u8_13, eq_true hq, eq_false hsep]
              exact hA3 (ps ++ [c], ss) _ (by simp) (by simp) (Shift.slots' rfl (by simp [special, eq_true hq, eq_false hsep, doubled_app, doubled_one]))
          · by_cases hsep : c = d.sep
            · simp (disch := first | omega | (simp; done) | (simp; omega)) [ltT, ltF, leT, leF, eqT', eqF, ltTn, leTn, ltFn, leFn, wrapI, mid, u8_inj, u8_10, u8_13, eq_false hq, eq_true hsep]
              exact hA3 (ps ++ [c], ss) _ (by simp) (by simp) (Shift.slots' rfl (by simp [special, eq_false hq, eq_true hsep, doubled_app, doubled_one]))
            · by_cases h10 : c = 10
              · simp (disch := first | omega | (simp; done) | (simp; omega)) [ltT, ltF, leT, leF, eqT', eqF, ltTn, leTn, ltFn, leFn, wrapI, mid, u8_inj, u8_10, u8_13, eq_false hq, eq_false hsep, eq_true h10]
                exact hA3 (ps ++ [c], ss) _ (by simp) (by simp) (Shift.slots' rfl (by simp [special, eq_false hq, eq_false hsep, eq_true h10, doubled_app, doubled_one]))
              · by_cases h13 : c = 13
                · simp (disch := first | omega | (simp; done) | (simp; omega)) [ltT, ltF, leT, leF, eqT', eqF, ltTn, leTn, ltFn, leFn, wrapI, mid, u8_inj, u8_10, u8_13, eq_false hq, eq_false hsep, eq_false h10, eq_true h13]
                  exact hA3 (ps ++ [c], ss) _ (by simp) (by simp) (Shift.slots' rfl (by simp [special, eq_false hq, eq_false hsep, eq_false h10, eq_true h13, doubled_app, doubled_one]))
                · simp (disch := first | omega | (simp; done) | (simp; omega)) [ltT, ltF, leT, leF, eqT', eqF, ltTn, leTn, ltFn, leFn, wrapI, mid, u8_inj, u8_10, u8_13, eq_false hq, eq_false hsep, eq_false h10, eq_false h13]
                  exact hA3 (ps ++ [c], ss) _ (by simp) (by simp) (Shift.slots' rfl (by simp [special, eq_false hq, eq_false hsep, eq_false h10, eq_false h13, doubled_app, doubled_one]))

end Go.Vm

/- csv: Print. -/
namespace Go.Vm
open Proofs
set_option maxRecDepth 20000
set_option maxHeartbeats 1000000
set_option linter.unusedSimpArgs false

def printS (rows : List (List (List UInt8))) (d : Dia) : List UInt8 × (Int × Int) :=
  if (diaFault d).1 ≠ 0 then ([], diaFault d) else if (tabFault rows (-2)).1 ≠ 0 then ([], tabFault rows (-2)) else if 4000 < (tableText d rows).length then ([], (14, -3)) else (tableText d rows, (0, 0))

theorem tabFault_ok {rows : List (List (List UInt8))} {k : Int} (h : ¬ (tabFault rows k).1 ≠ 0) : tabFault rows k = (0, 0) ∧ rows.length ≤ 200 ∧ total rows ≤ 1000 := by
  unfold tabFault at h ⊢
  by_cases h1 : 200 < rows.length ∨ 1000 < total rows
  · simp [h1] at h
  · rw [if_neg h1] at h ⊢
    by_cases h2 : 0 ≤ idxFrom (fun r => decide (r = [])) 0 rows
    · simp [h2] at h
    · rw [if_neg h2]
      refine ⟨rfl, ?_, ?_⟩ <;> omega
theorem diaFault_ok {d : Dia} (h : ¬ (diaFault d).1 ≠ 0) : diaFault d = (0, 0) := by
  unfold diaFault at h ⊢
  split
  · rename_i h1; simp [h1] at h
  · rfl

theorem print_V (rows : List (List (List UInt8))) (d : Dia) (hl : rows.length < 2000000) (ht : total rows < 2000000000000) (hr : ∀ r ∈ rows, ∀ s ∈ r, s.length ≤ 1048576) (h : List Blk) :
    CallP Tryd.prog 11 [.d (.sl 39 (rows.map encR)), .d (encDia d)] h (.tup [.d (.str (printS rows d).1), .d (encF (printS rows d).2)]) := by
  refine callW tb_ok fn11 (by simp) (fun hok => ?_)
  simp (disch := first | omega | (simp; done) | (simp; omega)) [ltT, ltF, leT, leF, eqT', eqF, ltTn, leTn, ltFn, leFn, wrapI, mid, c11]
  refine (validate_V d _).useV ?_
  by_cases h1 : (diaFault d).1 ≠ 0
  · simp (disch := first | omega | (simp; done) | (simp; omega)) [ltT, ltF, leT, leF, eqT', eqF, ltTn, leTn, ltFn, leFn, wrapI, mid, h1, printS]
    exact RShift.drop (.refl _) (by simp) hok (Nat.le_refl _)
  simp (disch := first | omega | (simp; done) | (simp; omega)) [ltT, ltF, leT, leF, eqT', eqF, ltTn, leTn, ltFn, leFn, wrapI, mid, h1]
  refine (check_V rows _ hl (by omega) _).useV ?_
  by_cases h2 : (tabFault rows (-2)).1 ≠ 0
  · simp (disch := first | omega | (simp; done) | (simp; omega)) [ltT, ltF, leT, leF, eqT', eqF, ltTn, leTn, ltFn, leFn, wrapI, mid, h1, h2, printS]
    exact RShift.drop (.refl _) (by simp) hok (Nat.le_refl _)
  simp (disch := first | omega | (simp; done) | (simp; omega)) [ltT, ltF, leT, leF, eqT', eqF, ltTn, leTn, ltFn, leFn, wrapI, mid, h2]
  obtain ⟨hf, hl2, ht2⟩ := tabFault_ok h2
  have hd := diaFault_ok h1
  rw [hf, hd]
  obtain ⟨fs, hfs⟩ : ∃ fs, fs = [Blk.cells 24 [AV.d (encDia d)], Blk.cells 26 [AV.d (encF (0, 0))], Blk.cells 26 [AV.d (encF (0, 0))], Blk.cells 26 [AV.d (encF (0, 0))]] := ⟨_, rfl⟩
  refine W_loopA (ι := List (List (List UInt8)) × List (List (List UInt8)) × Bool) (fun p => p.1 ++ p.2.1 = rows ∧ (tableText d p.1).length ≤ 4000) (fun p => ⟨[(3, .ptr h.length 24 0 0), (5, .ptr (h.length + 1) 26 0 0), (8, .ptr (h.length + 4) 56 0 0), (25, .d (.sl 39 (rows.map encR))), (26, .d (.int .i64 rows.length)), (27, .d (.int .i64 p.1.length))],
    h ++ [.cells 24 [.d (encDia d)], .cells 26 [.d (encF (0, 0))], .cells 26 [.d (encF (0, 0))], .cells 26 [.d (encF (0, 0))], bldB (h.length + 4) (h.length + 5) p.2.2 (tableText d p.1), rowB (tableText d p.1)]⟩) (fun p => p.2.1.length) ([], rows, true) (by simp [tableText]) ?_ ?_
  · refine (Shift.openB (b := h.length + 4) (e := 5) (T := 56) (x := .d (.agg [.nilptr, .nilsl])) rfl (by simp) rfl).trans (Shift.slots' ?_ (by simp))
    simp [tableText, bldB, bcell, bufB, rowB]
  rintro ⟨pre, rest, fr⟩ ⟨hx, h4⟩ A hA
  simp only at hx h4
  cases rest with
  | nil =>
    simp only [List.append_nil] at hx
    subst hx
    simp (disch := first | omega | (simp; done) | (simp; omega)) [ltT, ltF, leT, leF, eqT', eqF, ltTn, leTn, ltFn, leFn, wrapI, mid]
    refine callV_of (string_V (b := h.length + 4) (k := h.length + 5) (fr := fr) (s := tableText d pre) (by simp) (by simp) (by omega)) ?_
    rintro _ _ ⟨rfl, rfl⟩
    simp (disch := first | omega | (simp; done) | (simp; omega)) [ltT, ltF, leT, leF, eqT', eqF, ltTn, leTn, ltFn, leFn, wrapI, mid, printS, h1, h2]
    exact RShift.drop (.refl _) (by simp) hok (Nat.le_refl _)
  | cons x rest =>
    subst hx
    have hr2 := hr x (by simp)
    rw [total_app] at ht2
    simp only [List.length_append, List.length_cons, total] at hl ht2
    simp (disch := first | omega | (simp; done) | (simp; omega)) [ltT, ltF, leT, leF, eqT', eqF, ltTn, leTn, ltFn, leFn, wrapI, mid, encR]
    refine W_loopA (ι := List (List UInt8) × List (List UInt8) × Bool) (fun p => p.1 ++ p.2.1 = x) (fun p => ⟨[(3, .ptr h.length 24 0 0), (5, .ptr (h.length + 1) 26 0 0), (8, .ptr (h.length + 4) 56 0 0), (25, .d (.sl 39 ((pre ++ x :: rest).map encR))), (26, .d (.int .i64 (pre ++ x :: rest).length)), (27, .d (.int .i64 pre.length)),
      (31, .d (encR x)), (32, .d (.int .i64 x.length)), (33, .d (.int .i64 p.1.length))],
      h ++ [.cells 24 [.d (encDia d)], .cells 26 [.d (encF (0, 0))], .cells 26 [.d (encF (0, 0))], .cells 26 [.d (encF (0, 0))], bldB (h.length + 4) (h.length + 5) p.2.2 (tableText d pre ++ rowFrom d 0 p.1), rowB (tableText d pre ++ rowFrom d 0 p.1)]⟩) (fun p => p.2.1.length) ([], x, fr) (by simp) (Shift.slots' (by simp [rowFrom]) (by simp [encR])) ?_
    rintro ⟨pr, rs, fr2⟩ hx2 A2 hA2
    simp only at hx2
    cases rs with
    | nil =>
      simp only [List.append_nil] at hx2
      subst hx2
      have hR := rowFrom_len d pr 0 hr2
      cases hret : d.ret with
      | true =>
        have hT : tableText d (pre ++ [pr]) = ((tableText d pre ++ rowFrom d 0 pr) ++ [13]) ++ [10] := by simp [tableText_app, tableText_one, lineEnd, hret]
        simp (disch := first | omega | (simp; done) | (simp; omega)) [ltT, ltF, leT, leF, eqT', eqF, ltTn, leTn, ltFn, leFn, wrapI, mid, hret]
        refine callV_of (writeByte_V (b := h.length + 4) (k := h.length + 5) (fr := fr2) (s := tableText d pre ++ rowFrom d 0 pr) 13 (by simp) (by simp) (by omega) (by simp only [List.length_append]; simp; omega)) ?_
        rintro _ _ ⟨rfl, rfl⟩
        simp (disch := first | omega | (simp; done) | (simp; omega)) [ltT, ltF, leT, leF, eqT', eqF, ltTn, leTn, ltFn, leFn, wrapI, mid]
        refine callV_of (writeByte_V (b := h.length + 4) (k := h.length + 5) (fr := false) (s := (tableText d pre ++ rowFrom d 0 pr) ++ [13]) 10 (by simp) (by simp) (by omega) (by simp only [List.length_append]; simp; omega)) ?_
        rintro _ _ ⟨rfl, rfl⟩
        simp (disch := first | omega | (simp; done) | (simp; omega)) [ltT, ltF, leT, leF, eqT', eqF, ltTn, leTn, ltFn, leFn, wrapI, mid]
        refine (len_V (b := h.length + 4) (k := h.length + 5) (fr := false) (s := ((tableText d pre ++ rowFrom d 0 pr) ++ [13]) ++ [10]) (by simp)).useV ?_
        by_cases h5 : 4000 < (tableText d (pre ++ [pr])).length
        · have h6 : 4000 < (tableText d (pre ++ pr :: rest)).length := by
            have : pre ++ pr :: rest = (pre ++ [pr]) ++ rest := by simp
            rw [this, tableText_app, List.length_append]; omega
          have h7 := hT ▸ h5
          simp only [List.length_append, List.length_cons, List.length_nil] at h7
          simp (disch := first | omega | (simp; done) | (simp; omega)) [ltT, ltF, leT, leF, eqT', eqF, ltTn, leTn, ltFn, leFn, wrapI, mid, printS, h1, h2, h6]
          exact RShift.drop (.refl _) (by simp) hok (Nat.le_refl _)
        · have h7 := hT ▸ h5
          simp only [List.length_append, List.length_cons, List.length_nil] at h7
          simp (disch := first | omega | (simp; done) | (simp; omega)) [ltT, ltF, leT, leF, eqT', eqF, ltTn, leTn, ltFn, leFn, wrapI, mid]
          exact hA (pre ++ [pr], rest, false) _ ⟨by simp, by simpa using h5⟩ (by simp) (Shift.slots' (by simp [hT]) (by simp [encR]))
      | false =>
        have hT : tableText d (pre ++ [pr]) = (tableText d pre ++ rowFrom d 0 pr) ++ [10] := by simp [tableText_app, tableText_one, lineEnd, hret]
        simp (disch := first | omega | (simp; done) | (simp; omega)) [ltT, ltF, leT, leF, eqT', eqF, ltTn, leTn, ltFn, leFn, wrapI, mid, hret]
        refine callV_of (writeByte_V (b := h.length + 4) (k := h.length + 5) (fr := fr2) (s := tableText d pre ++ rowFrom d 0 pr) 10 (by simp) (by simp) (by omega) (by simp only [List.length_append]; simp; omega)) ?_
        rintro _ _ ⟨rfl, rfl⟩
        simp (disch := first | omega | (simp; done) | (simp; omega)) [ltT, ltF, leT, leF, eqT', eqF, ltTn, leTn, ltFn, leFn, wrapI, mid]
        refine (len_V (b := h.length + 4) (k := h.length + 5) (fr := false) (s := (tableText d pre ++ rowFrom d 0 pr) ++ [10]) (by simp)).useV ?_
        by_cases h5 : 4000 < (tableText d (pre ++ [pr])).length
        · have h6 : 4000 < (tableText d (pre ++ pr :: rest)).length := by
            have : pre ++ pr :: rest = (pre ++ [pr]) ++ rest := by simp
            rw [this, tableText_app, List.length_append]; omega
          have h7 := hT ▸ h5
          simp only [List.length_append, List.length_cons, List.length_nil] at h7
          simp (disch := first | omega | (simp; done) | (simp; omega)) [ltT, ltF, leT, leF, eqT', eqF, ltTn, leTn, ltFn, leFn, wrapI, mid, printS, h1, h2, h6]
          exact RShift.drop (.refl _) (by simp) hok (Nat.le_refl _)
        · have h7 := hT ▸ h5
          simp only [List.length_append, List.length_cons, List.length_nil] at h7
          simp (disch := first | omega | (simp; done) | (simp; omega)) [ltT, ltF, leT, leF, eqT', eqF, ltTn, leTn, ltFn, leFn, wrapI, mid]
          exact hA (pre ++ [pr], rest, false) _ ⟨by simp, by simpa using h5⟩ (by simp) (Shift.slots' (by simp [hT]) (by simp [encR]))
    | cons s rs =>
      subst hx2
      have hs := hr2 s (by simp)
      have hc := cellText_len d s hs
      have hR := rowFrom_len d pr 0 (fun s h => hr2 s (by simp [h]))
      simp only [List.length_append, List.length_cons] at ht2
      by_cases h0 : pr.length = 0
      · simp (disch := first | omega | (simp; done) | (simp; omega)) [ltT, ltF, leT, leF, eqT', eqF, ltTn, leTn, ltFn, leFn, wrapI, mid, encR]
        refine (cell_V s d hs _).useV ?_
        simp (disch := first | omega | (simp; done) | (simp; omega)) [ltT, ltF, leT, leF, eqT', eqF, ltTn, leTn, ltFn, leFn, wrapI, mid]
        refine callV_of (writeString_V (b := h.length + 4) (k := h.length + 5) (fr := fr2) (s := tableText d pre ++ rowFrom d 0 pr) _ (by simp) (by simp) (by omega) (by simp only [List.length_append]; omega)) ?_
        rintro _ _ ⟨rfl, rfl⟩
        simp (disch := first | omega | (simp; done) | (simp; omega)) [ltT, ltF, leT, leF, eqT', eqF, ltTn, leTn, ltFn, leFn, wrapI, mid]
        exact hA2 (pr ++ [s], rs, false) _ (by simp) (by simp) (Shift.slots' (by simp [rowFrom_app, rowFrom_one, h0]) (by simp [encR]))
      · simp (disch := first | omega | (simp; done) | (simp; omega)) [ltT, ltF, leT, leF, eqT', eqF, ltTn, leTn, ltFn, leFn, wrapI, mid, encR]
        refine callV_of (writeByte_V (b := h.length + 4) (k := h.length + 5) (fr := fr2) (s := tableText d pre ++ rowFrom d 0 pr) _ (by simp) (by simp) (by omega) (by simp only [List.length_append]; omega)) ?_
        rintro _ _ ⟨rfl, rfl⟩
        simp (disch := first | omega | (simp; done) | (simp; omega)) [ltT, ltF, leT, leF, eqT', eqF, ltTn, leTn, ltFn, leFn, wrapI, mid]
        refine (cell_V s d hs _).useV ?_
        simp (disch := first | omega | (simp; done) | (simp; omega)) [ltT, ltF, leT, leF, eqT', eqF, ltTn, leTn, ltFn, leFn, wrapI, mid]
        refine callV_of (writeString_V (b := h.length + 4) (k := h.length + 5) (fr := false) (s := (tableText d pre ++ rowFrom d 0 pr) ++ [d.sep]) _ (by simp) (by simp) (by omega) (by simp only [List.length_append]; simp; omega)) ?_
        rintro _ _ ⟨rfl, rfl⟩
        simp (disch := first | omega | (simp; done) | (simp; omega)) [ltT, ltF, leT, leF, eqT', eqF, ltTn, leTn, ltFn, leFn, wrapI, mid]
        exact hA2 (pr ++ [s], rs, false) _ (by simp) (by simp) (Shift.slots' (by simp [rowFrom_app, rowFrom_one, h0]) (by simp [encR]))

end Go.Vm
