/- csv: the reader. -/
import Derived.Test.YtggeifnbllfmbaaDoorCs4
namespace Go.Vm
open Proofs
set_option maxRecDepth 20000
set_option maxHeartbeats 1000000
set_option linter.unusedSimpArgs false

def encRd (d : Dia) (text : List UInt8) (at' : Int) : D := .agg [.int .u8 (d.sep.toNat : Int), .int .u8 (d.quote.toNat : Int), .bool d.always, .bool d.ret, .str text, .int .i64 at']
@[simp] theorem cells_Rd (d : Dia) (text : List UInt8) (at' : Int) : D.cells (encRd d text at') = [.int .u8 (d.sep.toNat : Int), .int .u8 (d.quote.toNat : Int), .bool d.always, .bool d.ret, .str text, .int .i64 at'] := rfl
@[simp] theorem fold_Rd (d : Dia) (text : List UInt8) (at' : Int) : D.agg [.int .u8 (d.sep.toNat : Int), .int .u8 (d.quote.toNat : Int), .bool d.always, .bool d.ret, .str text, .int .i64 at'] = encRd d text at' := rfl
def rdB (d : Dia) (text : List UInt8) (at' : Int) : Blk := .cells 69 [.d (encRd d text at')]

/-- Can a cell end where this is left? -/
def endsS (d : Dia) : List UInt8 → Bool
  | [] => true
  | c :: _ => decide (c = d.sep) || decide (c = 10) || decide (c = 13)

theorem ends_V {b : Nat} {d : Dia} {pre rest : List UInt8} {h : List Blk} (hb : h[b]? = some (rdB d (pre ++ rest) pre.length)) (hs : (pre ++ rest).length ≤ 1048576) :
    CallP Tryd.prog 55 [.ptr b 69 0 0] h (.d (.bool (endsS d rest))) := by
  refine callW tb_ok fn55 (by simp) (fun hok => ?_)
  have hbl := (List.getElem?_eq_some_iff.mp hb).1
  have hb' := (List.getElem?_eq_some_iff.mp hb).2
  cases rest with
  | nil =>
    simp (disch := first | omega | (simp; done) | (simp; omega)) [ltT, ltF, leT, leF, eqT', eqF, ltTn, leTn, ltFn, leFn, wrapI, mid, c55, hb', hbl, rdB, endsS]
  | cons c l =>
    simp only [List.length_append, List.length_cons] at hs
    by_cases h1 : c = d.sep
    · simp (disch := first | omega | (simp; done) | (simp; omega)) [ltT, ltF, leT, leF, eqT', eqF, ltTn, leTn, ltFn, leFn, wrapI, mid, c55, hb', hbl, rdB, endsS, u8_inj, u8_10, u8_13, eq_true h1]
    · by_cases h2 : c = 10
      · simp (disch := first | omega | (simp; done) | (simp; omega)) [ltT, ltF, leT, leF, eqT', eqF, ltTn, leTn, ltFn, leFn, wrapI, mid, c55, hb', hbl, rdB, endsS, u8_inj, u8_10, u8_13, eq_false h1, eq_true h2]
      · simp (disch := first | omega | (simp; done) | (simp; omega)) [ltT, ltF, leT, leF, eqT', eqF, ltTn, leTn, ltFn, leFn, wrapI, mid, c55, hb', hbl, rdB, endsS, u8_inj, u8_10, u8_13, eq_false h1, eq_false h2]

/-- The text in quotes behind a quote, and what follows. -/
def quotedS (q : UInt8) : List UInt8 → Option (List UInt8 × List UInt8)
  | [] => none
  | [c] => if c = q then some ([], []) else none
  | c :: e :: l => if c = q then (if e = q then (quotedS q l).map fun r => (q :: r.1, r.2) else some ([], e :: l)) else (quotedS q (e :: l)).map fun r => (c :: r.1, r.2)

theorem quotedS_cons {q c : UInt8} (l : List UInt8) (h : c ≠ q) : quotedS q (c :: l) = (quotedS q l).map fun r => (c :: r.1, r.2) := by
  cases l with
  | nil => simp [quotedS, h]
  | cons e l => simp [quotedS, h]

theorem quotedS_suffix (q : UInt8) : ∀ (n : Nat) (l : List UInt8) (s r : List UInt8), l.length ≤ n → quotedS q l = some (s, r) → ∃ p, p ++ r = l
  | _, [], s, r, _, h => by simp [quotedS] at h
  | _, [c], s, r, _, h => by
    simp only [quotedS] at h
    split at h <;> simp at h
    exact ⟨[c], by simp [h.2.symm]⟩
  | 0, c :: e :: l, s, r, hn, h => by simp at hn
  | n + 1, c :: e :: l, s, r, hn, h => by
    simp only [List.length_cons] at hn
    simp only [quotedS] at h
    split at h
    · split at h
      · rw [Option.map_eq_some_iff] at h
        obtain ⟨⟨s1, r1⟩, h1, h2⟩ := h
        obtain ⟨p, hp⟩ := quotedS_suffix q n l s1 r1 (by omega) h1
        simp only [Prod.mk.injEq] at h2
        exact ⟨c :: e :: p, by rw [← h2.2, ← hp]; rfl⟩
      · simp only [Option.some.injEq, Prod.mk.injEq] at h
        exact ⟨[c], by rw [← h.2]; rfl⟩
    · rw [Option.map_eq_some_iff] at h
      obtain ⟨⟨s1, r1⟩, h1, h2⟩ := h
      obtain ⟨p, hp⟩ := quotedS_suffix q n (e :: l) s1 r1 (by simp; omega) h1
      simp only [Prod.mk.injEq] at h2
      exact ⟨c :: p, by rw [← h2.2, List.cons_append, hp]⟩

/-- What `quoted` gives: the text, what follows, and whether a cell can end there. -/
def quotedR (d : Dia) (l : List UInt8) : List UInt8 × List UInt8 × Bool :=
  match quotedS d.quote l with
  | none => ([], [], false)
  | some (s, r) => (s, r, endsS d r)
def accR (acc : List UInt8) (d : Dia) (o : Option (List UInt8 × List UInt8)) : List UInt8 × List UInt8 × Bool :=
  match o with
  | none => ([], [], false)
  | some (s, r) => (acc ++ s, r, endsS d r)

theorem rdB_bel (d : Dia) (text : List UInt8) (k : Int) (n : Nat) : BlkBel n (rdB d text k) := by
  intro x hx y hy
  rw [List.mem_singleton] at hx
  subst hx
  simp only [AV.cells, List.mem_map] at hy
  obtain ⟨z, _, rfl⟩ := hy
  exact .d _
theorem rshift_set {P : Program} {H h g : List Blk} {b : Nat} {X : Blk} {v : AV} (hok : HOk h) (hX : BlkBel h.length X) (hv : Bel h.length v) (e : H = h.set b X ++ g) : RShift P h.length v H v (h.set b X) := by
  subst e
  exact RShift.drop (.refl _) (by rw [List.length_set]; exact hv) (hok.set hX) (by simp)

@[simp] theorem bytesOk_encU (l : List UInt8) : bytesOk (l.map encU) := by
  induction l with
  | nil => trivial
  | cons a l ih => exact ⟨rfl, ih⟩
@[simp] theorem byteOf_encU (l : List UInt8) : l.map (byteOf ∘ encU) = l := by
  conv => rhs; rw [← List.map_id l]
  apply List.map_congr_left
  intro a _
  simp [byteOf, encU]

@[simp] theorem byteAt_app1 (a b : List UInt8) (x c : UInt8) : byteAt (a ++ x :: c :: b) (a.length + 1) = (c.toNat : Int) := by
  have := byteAt_app (a ++ [x]) b c
  simpa using this

theorem quoted_V {b : Nat} {d : Dia} {c : UInt8} {pre body text : List UInt8} {h : List Blk} (hp : pre ++ c :: body = text) (hb : h[b]? = some (rdB d text pre.length)) (hs : text.length ≤ 1048576) :
    CallW Tryd.prog 54 [.ptr b 69 0 0] h fun x h' => x = .tup [.d (.str (quotedR d body).1), .d (.bool (quotedR d body).2.2)] ∧ h' = h.set b (rdB d text (text.length - (quotedR d body).2.1.length : Nat)) := by
  refine callW tb_ok fn54 (by simp) (fun hok => ?_)
  have hbl := (List.getElem?_eq_some_iff.mp hb).1
  have hb' := (List.getElem?_eq_some_iff.mp hb).2
  have hpl : pre.length ≤ text.length := by rw [← hp]; simp
  simp (disch := first | omega | (simp; done) | (simp; omega)) [ltT, ltF, leT, leF, eqT', eqF, ltTn, leTn, ltFn, leFn, wrapI, mid, c54, hb', hbl, rdB]
  refine W_loopA (ι := List UInt8 × List UInt8 × List UInt8) (fun p => p.1 ++ p.2.1 = text ∧ accR p.2.2 d (quotedS d.quote p.2.1) = quotedR d body ∧ p.2.2.length ≤ p.1.length) (fun p => ⟨[(0, .ptr b 69 0 0), (4, .bl h.length 5 (p.2.2.map encU))],
    h.set b (rdB d text p.1.length) ++ [.tail 5 p.2.2.length]⟩) (fun p => p.2.1.length) (pre ++ [c], body, []) ?_ ((Shift.nilbl (i := 4) 5 (by simp)).trans (Shift.slots' (by simp [rdB]) (by simp))) ?_
  · refine ⟨by simpa using hp, ?_, by simp⟩
    unfold accR quotedR
    cases quotedS d.quote body <;> rfl
  rintro ⟨P, rest, acc⟩ ⟨hx, hc, ha⟩ A hA
  simp only at hx hc ha
  clear hb hb' hp hpl
  subst hx
  have go : ∀ (e : UInt8) (l : List UInt8), accR acc d ((quotedS d.quote l).map fun r => (e :: r.1, r.2)) = accR (acc ++ [e]) d (quotedS d.quote l) := by
    intro e l
    unfold accR
    cases quotedS d.quote l <;> simp
  match rest, hc, hs, hA with
  | [], hc, hs, hA =>
    simp only [quotedS, accR] at hc
    rw [← hc]
    simp (disch := first | omega | (simp; done) | (simp; omega)) [ltT, ltF, leT, leF, eqT', eqF, ltTn, leTn, ltFn, leFn, wrapI, mid, rdB, hbl]
    exact rshift_set hok (rdB_bel d P _ _) (by simp) rfl
  | [e], hc, hs, hA =>
    simp only [List.length_append, List.length_cons, List.length_nil] at hs
    by_cases h1 : e = d.quote
    · have hc' : quotedR d body = (acc, [], true) := by rw [← hc]; simp [quotedS, h1, accR, endsS]
      rw [hc']
      simp (disch := first | omega | (simp; done) | (simp; omega)) [ltT, ltF, leT, leF, eqT', eqF, ltTn, leTn, ltFn, leFn, wrapI, mid, rdB, hbl, u8_inj, eq_true h1]
      refine (ends_V (b := b) (d := d) (pre := P ++ [e]) (rest := []) (h := h.set b (.cells 69 [.d (encRd d (P ++ [e]) ((P.length : Int) + 1))]) ++ [.tail 5 acc.length]) (by simp [rdB, hbl, List.getElem?_append_left]) (by simp; omega)).useV ?_
      simp (disch := first | omega | (simp; done) | (simp; omega)) [ltT, ltF, leT, leF, eqT', eqF, ltTn, leTn, ltFn, leFn, wrapI, mid, endsS]
      exact rshift_set hok (rdB_bel d _ _ _) (by simp) rfl
    · rw [quotedS_cons _ h1, go] at hc
      simp (disch := first | omega | (simp; done) | (simp; omega)) [ltT, ltF, leT, leF, eqT', eqF, ltTn, leTn, ltFn, leFn, wrapI, mid, rdB, hbl, u8_inj, eq_false h1]
      exact hA (P ++ [e], [], acc ++ [e]) _ ⟨by simp, hc, by simp; omega⟩ (by simp) (Shift.slots' (by simp [rdB]) (by simp [encU]))
  | e :: f :: l, hc, hs, hA =>
    simp only [List.length_append, List.length_cons, List.length_nil] at hs
    by_cases h1 : e = d.quote
    · by_cases h2 : f = d.quote
      · have hc' : accR (acc ++ [e]) d (quotedS d.quote l) = quotedR d body := by rw [← hc, ← go]; simp [quotedS, h1, h2]
        simp (disch := first | omega | (simp; done) | (simp; omega)) [ltT, ltF, leT, leF, eqT', eqF, ltTn, leTn, ltFn, leFn, wrapI, mid, rdB, hbl, u8_inj, eq_true h1, eq_true h2]
        exact hA (P ++ [e, f], l, acc ++ [e]) _ ⟨by simp, hc', by simp; omega⟩ (by simp; omega) (Shift.slots' (by simp [rdB, Int.add_assoc]) (by simp [encU]))
      · have hc' : quotedR d body = (acc, f :: l, endsS d (f :: l)) := by rw [← hc]; simp [quotedS, h1, h2, accR]
        rw [hc']
        simp (disch := first | omega | (simp; done) | (simp; omega)) [ltT, ltF, leT, leF, eqT', eqF, ltTn, leTn, ltFn, leFn, wrapI, mid, rdB, hbl, u8_inj, eq_true h1, eq_false h2]
        refine (ends_V (b := b) (d := d) (pre := P ++ [e]) (rest := f :: l) (h := h.set b (.cells 69 [.d (encRd d (P ++ e :: f :: l) ((P.length : Int) + 1))]) ++ [.tail 5 acc.length]) (by simp [rdB, hbl, List.getElem?_append_left]) (by simp; omega)).useV ?_
        have e1 : P.length + (l.length + 1 + 1) - (l.length + 1) = P.length + 1 := by omega
        simp (disch := first | omega | (simp; done) | (simp; omega)) [ltT, ltF, leT, leF, eqT', eqF, ltTn, leTn, ltFn, leFn, wrapI, mid, e1]
        exact rshift_set hok (rdB_bel d _ _ _) (by simp) rfl
    · rw [quotedS_cons _ h1, go] at hc
      simp (disch := first | omega | (simp; done) | (simp; omega)) [ltT, ltF, leT, leF, eqT', eqF, ltTn, leTn, ltFn, leFn, wrapI, mid, rdB, hbl, u8_inj, eq_false h1]
      exact hA (P ++ [e], f :: l, acc ++ [e]) _ ⟨by simp, hc, by simp; omega⟩ (by simp) (Shift.slots' (by simp [rdB]) (by simp [encU]))

end Go.Vm
