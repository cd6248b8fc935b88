/- csv: the text of a table. -/
import Derived.Test.YtggeifnbllfmbaaDoorCs2
namespace Go.Vm
open Proofs
set_option maxRecDepth 20000
set_option maxHeartbeats 1000000
set_option linter.unusedSimpArgs false

@[simp] theorem byteAt_app (a b : List UInt8) (c : UInt8) : byteAt (a ++ c :: b) a.length = (c.toNat : Int) := by simp [byteAt]

@[simp] theorem midOne_app (a b : List UInt8) (c : UInt8) : List.drop a.length (List.take (a.length + 1) (a ++ c :: b)) = [c] := by simp [List.take_append, List.take_of_length_le]

def rowFrom (d : Dia) : Nat → List (List UInt8) → List UInt8
  | _, [] => []
  | i, x :: l => (if i = 0 then [] else [d.sep]) ++ (cellText d x ++ rowFrom d (i + 1) l)
def lineEnd (d : Dia) : List UInt8 := (if d.ret = true then [13] else []) ++ [10]
def rowText (d : Dia) (r : List (List UInt8)) : List UInt8 := rowFrom d 0 r ++ lineEnd d
def tableText (d : Dia) (rows : List (List (List UInt8))) : List UInt8 := rows.flatMap (rowText d)

theorem rowFrom_app (d : Dia) : ∀ (a b : List (List UInt8)) (i : Nat), rowFrom d i (a ++ b) = rowFrom d i a ++ rowFrom d (i + a.length) b
  | [], b, i => by simp [rowFrom]
  | x :: a, b, i => by
    simp only [List.cons_append, rowFrom, rowFrom_app d a b (i + 1), List.append_assoc, List.length_cons]
    rw [show i + 1 + a.length = i + (a.length + 1) by omega]
theorem rowFrom_one (d : Dia) (x : List UInt8) (i : Nat) : rowFrom d i [x] = (if i = 0 then [] else [d.sep]) ++ cellText d x := by simp [rowFrom]
theorem tableText_app (d : Dia) (a b : List (List (List UInt8))) : tableText d (a ++ b) = tableText d a ++ tableText d b := by simp [tableText]
theorem tableText_one (d : Dia) (x : List (List UInt8)) : tableText d [x] = rowFrom d 0 x ++ lineEnd d := by simp [tableText, rowText]
theorem doubled_app (q : UInt8) (a b : List UInt8) : doubled q (a ++ b) = doubled q a ++ doubled q b := by simp [doubled]
theorem doubled_one (q c : UInt8) : doubled q [c] = if c = q then [c, c] else [c] := by by_cases h : c = q <;> simp [doubled, h]

theorem cellText_len (d : Dia) (s : List UInt8) (hs : s.length ≤ 1048576) : (cellText d s).length ≤ 2097154 := by
  have := doubled_len d.quote s
  unfold cellText
  split
  · simp only [List.length_cons, List.length_append, List.length_nil]; omega
  · omega
theorem rowFrom_len (d : Dia) : ∀ (r : List (List UInt8)) (i : Nat), (∀ s ∈ r, s.length ≤ 1048576) → (rowFrom d i r).length ≤ r.length * 2097155
  | [], _, _ => by simp [rowFrom]
  | x :: l, i, h => by
    have ih := rowFrom_len d l (i + 1) (fun s hs => h s (by simp [hs]))
    have hc := cellText_len d x (h x (by simp))
    simp only [rowFrom, List.length_append, List.length_cons]
    split <;> simp only [List.length_nil, List.length_cons] <;> omega
theorem lineEnd_len (d : Dia) : (lineEnd d).length ≤ 2 := by unfold lineEnd; split <;> simp
theorem tableText_len (d : Dia) : ∀ (rows : List (List (List UInt8))), (∀ r ∈ rows, ∀ s ∈ r, s.length ≤ 1048576) → (tableText d rows).length ≤ total rows * 2097155 + 2 * rows.length
  | [], _ => by simp [tableText, total]
  | x :: l, h => by
    have ih := tableText_len d l (fun r hr => h r (by simp [hr]))
    have hc := rowFrom_len d x 0 (h x (by simp))
    have he := lineEnd_len d
    have : tableText d (x :: l) = (rowFrom d 0 x ++ lineEnd d) ++ tableText d l := rfl
    rw [this]
    simp only [List.length_append, List.length_cons, total]
    omega

theorem tableText_V (rows : List (List (List UInt8))) (d : Dia) (hl : rows.length < 2000000) (ht : total rows < 2000000) (hr : ∀ r ∈ rows, ∀ s ∈ r, s.length ≤ 1048576) (h : List Blk) :
    CallP Tryd.prog 15 [.d (.sl 39 (rows.map encR)), .d (encDia d)] h (.d (.str (tableText d rows))) := by
  refine callW tb_ok fn15 (by simp) (fun hok => ?_)
  simp (disch := first | omega | (simp; done) | (simp; omega)) [ltT, ltF, leT, leF, eqT', eqF, ltTn, leTn, ltFn, leFn, wrapI, mid, c15]
  refine W_loopA (ι := List (List (List UInt8)) × List (List (List UInt8))) (fun p => p.1 ++ p.2 = rows) (fun p => ⟨[(0, .d (.sl 39 (rows.map encR))), (3, .ptr h.length 24 0 0), (5, .d (.str (tableText d p.1))), (6, .d (.int .i64 p.1.length))],
    h ++ [.cells 24 [.d (encDia d)]]⟩) (fun p => p.2.length) ([], rows) (by simp) (Shift.slots' (by simp) (by simp [tableText])) ?_
  rintro ⟨pre, rest⟩ hx A hA
  simp only at hx
  cases rest with
  | nil =>
    simp only [List.append_nil] at hx
    subst hx
    simp (disch := first | omega | (simp; done) | (simp; omega)) [ltT, ltF, leT, leF, eqT', eqF, ltTn, leTn, ltFn, leFn, wrapI, mid]
    exact rshift_d hok
  | cons x rest =>
    subst hx
    have hr2 := hr x (by simp)
    have hT := tableText_len d pre (fun r h => hr r (by simp [h]))
    rw [total_app] at ht
    simp only [List.length_append, List.length_cons, total] at hl ht
    simp (disch := first | omega | (simp; done) | (simp; omega)) [ltT, ltF, leT, leF, eqT', eqF, ltTn, leTn, ltFn, leFn, wrapI, mid]
    refine W_loopA (ι := List (List UInt8) × List (List UInt8)) (fun p => p.1 ++ p.2 = x) (fun p => ⟨[(0, .d (.sl 39 ((pre ++ x :: rest).map encR))), (3, .ptr h.length 24 0 0), (5, .d (.str (tableText d pre ++ rowFrom d 0 p.1))), (6, .d (.int .i64 pre.length)), (7, .d (.int .i64 p.1.length))],
      h ++ [.cells 24 [.d (encDia d)]]⟩) (fun p => p.2.length) ([], x) (by simp) (Shift.slots' (by simp) (by simp [rowFrom])) ?_
    rintro ⟨pr, rs⟩ hx2 A2 hA2
    simp only at hx2
    cases rs with
    | nil =>
      simp only [List.append_nil] at hx2
      subst hx2
      have hR := rowFrom_len d pr 0 hr2
      cases hret : d.ret with
      | true =>
        simp (disch := first | omega | (simp; done) | (simp; omega)) [ltT, ltF, leT, leF, eqT', eqF, ltTn, leTn, ltFn, leFn, wrapI, mid, encR, hret]
        exact hA (pre ++ [pr], rest) _ (by simp) (by simp) (Shift.slots' rfl (by simp [tableText_app, tableText_one, lineEnd, hret, encR]))
      | false =>
        simp (disch := first | omega | (simp; done) | (simp; omega)) [ltT, ltF, leT, leF, eqT', eqF, ltTn, leTn, ltFn, leFn, wrapI, mid, encR, hret]
        exact hA (pre ++ [pr], rest) _ (by simp) (by simp) (Shift.slots' rfl (by simp [tableText_app, tableText_one, lineEnd, hret, encR]))
    | cons s rs =>
      subst hx2
      have hs := hr2 s (by simp)
      have hR := rowFrom_len d pr 0 (fun s h => hr2 s (by simp [h]))
      simp only [List.length_append, List.length_cons] at ht
      obtain ⟨sp, hsp⟩ : ∃ sp, sp = (if pr.length = 0 then [] else [d.sep]) := ⟨_, rfl⟩
      have hsl : sp.length ≤ 1 := by rw [hsp]; split <;> simp
      by_cases h0 : pr.length = 0 <;>
      · simp (disch := first | omega | (simp; done) | (simp; omega)) [ltT, ltF, leT, leF, eqT', eqF, ltTn, leTn, ltFn, leFn, wrapI, mid, encR]
        refine W_loopA (ι := List UInt8 × List UInt8) (fun p => p.1 ++ p.2 = s) (fun p => ⟨[(0, .d (.sl 39 ((pre ++ (pr ++ s :: rs) :: rest).map encR))), (3, .ptr h.length 24 0 0), (5, .d (.str (tableText d pre ++ rowFrom d 0 pr ++ sp))), (6, .d (.int .i64 pre.length)), (7, .d (.int .i64 pr.length)),
          (8, .d (.bool (d.always || p.1.any (special d)))), (9, .d (.str (doubled d.quote p.1))), (10, .d (.str s)), (11, .d (.int .i64 p.1.length))],
          h ++ [.cells 24 [.d (encDia d)]]⟩) (fun p => p.2.length) ([], s) (by simp) (Shift.slots' rfl (by simp [hsp, h0, doubled, encR, encS])) ?_
        rintro ⟨ps, ss⟩ hx3 A3 hA3
        simp only at hx3
        cases ss with
        | nil =>
          simp only [List.append_nil] at hx3
          subst hx3
          have hD := doubled_len d.quote ps
          cases hq : (d.always || ps.any (special d)) with
          | true =>
            simp (disch := first | omega | (simp; done) | (simp; omega)) [ltT, ltF, leT, leF, eqT', eqF, ltTn, leTn, ltFn, leFn, wrapI, mid]
            exact hA2 (pr ++ [ps], rs) _ (by simp) (by simp) (Shift.slots' rfl (by simp [rowFrom_app, rowFrom_one, cellText, hq, hsp, h0]))
          | false =>
            simp (disch := first | omega | (simp; done) | (simp; omega)) [ltT, ltF, leT, leF, eqT', eqF, ltTn, leTn, ltFn, leFn, wrapI, mid]
            exact hA2 (pr ++ [ps], rs) _ (by simp) (by simp) (Shift.slots' rfl (by simp [rowFrom_app, rowFrom_one, cellText, hq, hsp, h0]))
        | cons c ss =>
          subst hx3
          simp only [List.length_append, List.length_cons] at hs
          have hD := doubled_len d.quote ps
          by_cases hq : c = d.quote
          · by_cases hsep : c = d.sep
            · simp (disch := first | omega | (simp; done) | (simp; omega)) [ltT, ltF, leT, leF, eqT', eqF, ltTn, leTn, ltFn, leFn, wrapI, mid, u8_inj, u8_10, u8_13, eq_true hq, eq_true hsep]
              exact hA3 (ps ++ [c], ss) _ (by simp) (by simp) (Shift.slots' rfl (by simp [special, eq_true hq, eq_true hsep, doubled_app, doubled_one]))
            · simp (disch := first | omega | (simp; done) | (simp; omega)) [ltT, ltF, leT, leF, eqT', eqF, ltTn, leTn, ltFn, leFn, wrapI, mid, u8_inj, u8_10, u8_13, eq_true hq, eq_false hsep]
              exact hA3 (ps ++ [c], ss) _ (by simp) (by simp) (Shift.slots' rfl (by simp [special, eq_true hq, eq_false hsep, doubled_app, doubled_one]))
          · by_cases hsep : c = d.sep
            · simp (disch := first | omega | (simp; done) | (simp; omega)) [ltT, ltF, leT, leF, eqT', eqF, ltTn, leTn, ltFn, leFn, wrapI, mid, u8_inj, u8_10, u8_13, eq_false hq, eq_true hsep]
              exact hA3 (ps ++ [c], ss) _ (by simp) (by simp) (Shift.slots' rfl (by simp [special, eq_false hq, eq_true hsep, doubled_app, doubled_one]))
            · by_cases h10 : c = 10
              · simp (disch := first | omega | (simp; done) | (simp; omega)) [ltT, ltF, leT, leF, eqT', eqF, ltTn, leTn, ltFn, leFn, wrapI, mid, u8_inj, u8_10, u8_13, eq_false hq, eq_false hsep, eq_true h10]
                exact hA3 (ps ++ [c], ss) _ (by simp) (by simp) (Shift.slots' rfl (by simp [special, eq_false hq, eq_false hsep, eq_true h10, doubled_app, doubled_one]))
              · by_cases h13 : c = 13
                · simp (disch := first | omega | (simp; done) | (simp; omega)) [ltT, ltF, leT, leF, eqT', eqF, ltTn, leTn, ltFn, leFn, wrapI, mid, u8_inj, u8_10, u8_13, eq_false hq, eq_false hsep, eq_false h10, eq_true h13]
                  exact hA3 (ps ++ [c], ss) _ (by simp) (by simp) (Shift.slots' rfl (by simp [special, eq_false hq, eq_false hsep, eq_false h10, eq_true h13, doubled_app, doubled_one]))
                · simp (disch := first | omega | (simp; done) | (simp; omega)) [ltT, ltF, leT, leF, eqT', eqF, ltTn, leTn, ltFn, leFn, wrapI, mid, u8_inj, u8_10, u8_13, eq_false hq, eq_false hsep, eq_false h10, eq_false h13]
                  exact hA3 (ps ++ [c], ss) _ (by simp) (by simp) (Shift.slots' rfl (by simp [special, eq_false hq, eq_false hsep, eq_false h10, eq_false h13, doubled_app, doubled_one]))

end Go.Vm
