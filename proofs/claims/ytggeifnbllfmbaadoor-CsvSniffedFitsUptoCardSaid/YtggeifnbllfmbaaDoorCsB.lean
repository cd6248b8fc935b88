/- CsB: Cs5, Cs6, Cs7, Cs8, Cs9, Cs10, Cs11. -/
import Derived.Test.YtggeifnbllfmbaaDoorCsA
/- csv: the reader. -/
namespace Go.Vm
open Proofs
set_option maxRecDepth 20000
set_option maxHeartbeats 1000000
set_option linter.unusedSimpArgs false

def encRd (d : Dia) (text : List UInt8) (at' : Int) : D := .agg [.int .u8 (d.sep.toNat : Int), .int .u8 (d.quote.toNat : Int), .bool d.always, .bool d.ret, .str text, .int .i64 at']
@[simp] theorem cells_Rd (d : Dia) (text : List UInt8) (at' : Int) : D.cells (encRd d text at') = [.int .u8 (d.sep.toNat : Int), .int .u8 (d.quote.toNat : Int), .bool d.always, .bool d.ret, .str text, .int .i64 at'] := rfl
@[simp] theorem fold_Rd (d : Dia) (text : List UInt8) (at' : Int) : D.agg [.int .u8 (d.sep.toNat : Int), .int .u8 (d.quote.toNat : Int), .bool d.always, .bool d.ret, .str text, .int .i64 at'] = encRd d text at' := rfl
def rdB (d : Dia) (text : List UInt8) (at' : Int) : Blk := .cells 69 [.d (encRd d text at')]

/-- Can a cell end where this is left? -/
def endsS (d : Dia) : List UInt8 → Bool
  | [] => true
  | c :: _ => decide (c = d.sep) || decide (c = 10) || decide (c = 13)

theorem ends_V {b : Nat} {d : Dia} {pre rest : List UInt8} {h : List Blk} (hb : h[b]? = some (rdB d (pre ++ rest) pre.length)) (hs : (pre ++ rest).length ≤ 1048576) :
    CallP Tryd.prog 55 [.ptr b 69 0 0] h (.d (.bool (endsS d rest))) := by
  refine callW tb_ok fn55 (by simp) (fun hok => ?_)
  have hbl := (List.getElem?_eq_some_iff.mp hb).1
  have hb' := (List.getElem?_eq_some_iff.mp hb).2
  cases rest with
  | nil =>
    simp (disch := first | omega | (simp; done) | (simp; omega)) [ltT, ltF, leT, leF, eqT', eqF, ltTn, leTn, ltFn, leFn, wrapI, mid, c55, hb', hbl, rdB, endsS]
  | cons c l =>
    simp only [List.length_append, List.length_cons] at hs
    by_cases h1 : c = d.sep
    · simp (disch := first | omega | (simp; done) | (simp; omega)) [ltT, ltF, leT, leF, eqT', eqF, ltTn, leTn, ltFn, leFn, wrapI, mid, c55, hb', hbl, rdB, endsS, u8_inj, u8_10, u8_13, eq_true h1]
    · by_cases h2 : c = 10
      · simp (disch := first | omega | (simp; done) | (simp; omega)) [ltT, ltF, leT, leF, eqT', eqF, ltTn, leTn, ltFn, leFn, wrapI, mid, c55, hb', hbl, rdB, endsS, u8_inj, u8_10, u8_13, eq_false h1, eq_true h2]
      · simp (disch := first | omega | (simp; done) | (simp; omega)) [ltT, ltF, leT, leF, eqT', eqF, ltTn, leTn, ltFn, leFn, wrapI, mid, c55, hb', hbl, rdB, endsS, u8_inj, u8_10, u8_13, eq_false h1, eq_false h2]

/-- The text in quotes behind a quote, and what follows. -/
def quotedS (q : UInt8) : List UInt8 → Option (List UInt8 × List UInt8)
  | [] => none
  | [c] => if c = q then some ([], []) else none
  | c :: e :: l => if c = q then (if e = q then (quotedS q l).map fun r => (q :: r.1, r.2) else some ([], e :: l)) else (quotedS q (e :: l)).map fun r => (c :: r.1, r.2)

theorem quotedS_cons {q c : UInt8} (l : List UInt8) (h : c ≠ q) : quotedS q (c :: l) = (quotedS q l).map fun r => (c :: r.1, r.2) := by
  cases l with
  | nil => simp [quotedS, h]
  | cons e l => simp [quotedS, h]

theorem quotedS_suffix (q : UInt8) : ∀ (n : Nat) (l : List UInt8) (s r : List UInt8), l.length ≤ n → quotedS q l = some (s, r) → ∃ p, p ++ r = l
  | _, [], s, r, _, h => by simp [quotedS] at h
  | _, [c], s, r, _, h => by
    simp only [quotedS] at h
    split at h <;> simp at h
    exact ⟨[c], by simp [h.2.symm]⟩
  | 0, c :: e :: l, s, r, hn, h => by simp at hn
  | n + 1, c :: e :: l, s, r, hn, h => by
    simp only [List.length_cons] at hn
    simp only [quotedS] at h
    split at h
    · split at h
      · rw [Option.map_eq_some_iff] at h
        obtain ⟨⟨s1, r1⟩, h1, h2⟩ := h
        obtain ⟨p, hp⟩ := quotedS_suffix q n l s1 r1 (by omega) h1
        simp only [Prod.mk.injEq] at h2
        exact ⟨c :: e :: p, by rw [← h2.2, ← hp]; rfl⟩
      · simp only [Option.some.injEq, Prod.mk.injEq] at h
        exact ⟨[c], by rw [← h.2]; rfl⟩
    · rw [Option.map_eq_some_iff] at h
      obtain ⟨⟨s1, r1⟩, h1, h2⟩ := h
      obtain ⟨p, hp⟩ := quotedS_suffix q n (e :: l) s1 r1 (by simp; omega) h1
      simp only [Prod.mk.injEq] at h2
      exact ⟨c :: p, by rw [← h2.2, List.cons_append, hp]⟩

/-- What `quoted` gives: the text, what follows, and whether a cell can end there. -/
def quotedR (d : Dia) (l : List UInt8) : List UInt8 × List UInt8 × Bool :=
  match quotedS d.quote l with
  | none => ([], [], false)
  | some (s, r) => (s, r, endsS d r)
def accR (acc : List UInt8) (d : Dia) (o : Option (List UInt8 × List UInt8)) : List UInt8 × List UInt8 × Bool :=
  match o with
  | none => ([], [], false)
  | some (s, r) => (acc ++ s, r, endsS d r)

theorem rdB_bel (d : Dia) (text : List UInt8) (k : Int) (n : Nat) : BlkBel n (rdB d text k) := by
  intro x hx y hy
  rw [List.mem_singleton] at hx
  subst hx
  simp only [AV.cells, List.mem_map] at hy
  obtain ⟨z, _, rfl⟩ := hy
  exact .d _
theorem rshift_set {P : Program} {H h g : List Blk} {b : Nat} {X : Blk} {v : AV} (hok : HOk h) (hX : BlkBel h.length X) (hv : Bel h.length v) (e : H = h.set b X ++ g) : RShift P h.length v H v (h.set b X) := by
  subst e
  exact RShift.drop (.refl _) (by rw [List.length_set]; exact hv) (hok.set hX) (by simp)

@[simp] theorem bytesOk_encU (l : List UInt8) : bytesOk (l.map encU) := by
  induction l with
  | nil => trivial
  | cons a l ih => exact ⟨rfl, ih⟩
@[simp] theorem byteOf_encU (l : List UInt8) : l.map (byteOf ∘ encU) = l := by
  conv => rhs; rw [← List.map_id l]
  apply List.map_congr_left
  intro a _
  simp [byteOf, encU]

@[simp] theorem byteAt_app1 (a b : List UInt8) (x c : UInt8) : byteAt (a ++ x :: c :: b) (a.length + 1) = (c.toNat : Int) := by
  have := byteAt_app (a ++ [x]) b c
  simpa using this

theorem quoted_V {b : Nat} {d : Dia} {c : UInt8} {pre body text : List UInt8} {h : List Blk} (hp : pre ++ c :: body = text) (hb : h[b]? = some (rdB d text pre.length)) (hs : text.length ≤ 1048576) :
    CallW Tryd.prog 54 [.ptr b 69 0 0] h fun x h' => x = .tup [.d (.str (quotedR d body).1), .d (.bool (quotedR d body).2.2)] ∧ h' = h.set b (rdB d text (text.length - (quotedR d body).2.1.length : Nat)) := by
  refine callW tb_ok fn54 (by simp) (fun hok => ?_)
  have hbl := (List.getElem?_eq_some_iff.mp hb).1
  have hb' := (List.getElem?_eq_some_iff.mp hb).2
  have hpl : pre.length ≤ text.length := by rw [← hp]; simp
  simp (disch := first | omega | (simp; done) | (simp; omega)) [ltT, ltF, leT, leF, eqT', eqF, ltTn, leTn, ltFn, leFn, wrapI, mid, c54, hb', hbl, rdB]
  refine W_loopA (ι := List UInt8 × List UInt8 × List UInt8) (fun p => p.1 ++ p.2.1 = text ∧ accR p.2.2 d (quotedS d.quote p.2.1) = quotedR d body ∧ p.2.2.length ≤ p.1.length) (fun p => ⟨[(0, .ptr b 69 0 0), (4, .bl h.length 5 (p.2.2.map encU))],
    h.set b (rdB d text p.1.length) ++ [.tail 5 p.2.2.length]⟩) (fun p => p.2.1.length) (pre ++ [c], body, []) ?_ ((Shift.nilbl (i := 4) 5 (by simp)).trans (Shift.slots' (by simp [rdB]) (by simp))) ?_
  · refine ⟨by simpa using hp, ?_, by simp⟩
    unfold accR quotedR
    cases quotedS d.quote body <;> rfl
  rintro ⟨P, rest, acc⟩ ⟨hx, hc, ha⟩ A hA
  simp only at hx hc ha
  clear hb hb' hp hpl
  subst hx
  have go : ∀ (e : UInt8) (l : List UInt8), accR acc d ((quotedS d.quote l).map fun r => (e :: r.1, r.2)) = accR (acc ++ [e]) d (quotedS d.quote l) := by
    intro e l
    unfold accR
    cases quotedS d.quote l <;> simp
  match rest, hc, hs, hA with
  | [], hc, hs, hA =>
    simp only [quotedS, accR] at hc
    rw [← hc]
    simp (disch := first | omega | (simp; done) | (simp; omega)) [ltT, ltF, leT, leF, eqT', eqF, ltTn, leTn, ltFn, leFn, wrapI, mid, rdB, hbl]
    exact rshift_set hok (rdB_bel d P _ _) (by simp) rfl
  | [e], hc, hs, hA =>
    simp only [List.length_append, List.length_cons, List.length_nil] at hs
    by_cases h1 : e = d.quote
    · have hc' : quotedR d body = (acc, [], true) := by rw [← hc]; simp [quotedS, h1, accR, endsS]
      rw [hc']
      simp (disch := first | omega | (simp; done) | (simp; omega)) [ltT, ltF, leT, leF, eqT', eqF, ltTn, leTn, ltFn, leFn, wrapI, mid, rdB, hbl, u8_inj, eq_true h1]
      refine (ends_V (b := b) (d := d) (pre := P ++ [e]) (rest := []) (h := h.set b (.cells 69 [.d (encRd d (P ++ [e]) ((P.length : Int) + 1))]) ++ [.tail 5 acc.length]) (by simp [rdB, hbl, List.getElem?_append_left]) (by simp; omega)).useV ?_
      simp (disch := first | omega | (simp; done) | (simp; omega)) [ltT, ltF, leT, leF, eqT', eqF, ltTn, leTn, ltFn, leFn, wrapI, mid, endsS]
      exact rshift_set hok (rdB_bel d _ _ _) (by simp) rfl
    · rw [quotedS_cons _ h1, go] at hc
      simp (disch := first | omega | (simp; done) | (simp; omega)) [ltT, ltF, leT, leF, eqT', eqF, ltTn, leTn, ltFn, leFn, wrapI, mid, rdB, hbl, u8_inj, eq_false h1]
      exact hA (P ++ [e], [], acc ++ [e]) _ ⟨by simp, hc, by simp; omega⟩ (by simp) (Shift.slots' (by simp [rdB]) (by simp [encU]))
  | e :: f :: l, hc, hs, hA =>
    simp only [List.length_append, List.length_cons, List.length_nil] at hs
    by_cases h1 : e = d.quote
    · by_cases h2 : f = d.quote
      · have hc' : accR (acc ++ [e]) d (quotedS d.quote l) = quotedR d body := by rw [← hc, ← go]; simp [quotedS, h1, h2]
        simp (disch := first | omega | (simp; done) | (simp; omega)) [ltT, ltF, leT, leF, eqT', eqF, ltTn, leTn, ltFn, leFn, wrapI, mid, rdB, hbl, u8_inj, eq_true h1, eq_true h2]
        exact hA (P ++ [e, f], l, acc ++ [e]) _ ⟨by simp, hc', by simp; omega⟩ (by simp; omega) (Shift.slots' (by simp [rdB, Int.add_assoc]) (by simp [encU]))
      · have hc' : quotedR d body = (acc, f :: l, endsS d (f :: l)) := by rw [← hc]; simp [quotedS, h1, h2, accR]
        rw [hc']
        simp (disch := first | omega | (simp; done) | (simp; omega)) [ltT, ltF, leT, leF, eqT', eqF, ltTn, leTn, ltFn, leFn, wrapI, mid, rdB, hbl, u8_inj, eq_true h1, eq_false h2]
        refine (ends_V (b := b) (d := d) (pre := P ++ [e]) (rest := f :: l) (h := h.set b (.cells 69 [.d (encRd d (P ++ e :: f :: l) ((P.length : Int) + 1))]) ++ [.tail 5 acc.length]) (by simp [rdB, hbl, List.getElem?_append_left]) (by simp; omega)).useV ?_
        have e1 : P.length + (l.length + 1 + 1) - (l.length + 1) = P.length + 1 := by omega
        simp (disch := first | omega | (simp; done) | (simp; omega)) [ltT, ltF, leT, leF, eqT', eqF, ltTn, leTn, ltFn, leFn, wrapI, mid, e1]
        exact rshift_set hok (rdB_bel d _ _ _) (by simp) rfl
    · rw [quotedS_cons _ h1, go] at hc
      simp (disch := first | omega | (simp; done) | (simp; omega)) [ltT, ltF, leT, leF, eqT', eqF, ltTn, leTn, ltFn, leFn, wrapI, mid, rdB, hbl, u8_inj, eq_false h1]
      exact hA (P ++ [e], f :: l, acc ++ [e]) _ ⟨by simp, hc, by simp; omega⟩ (by simp) (Shift.slots' (by simp [rdB]) (by simp [encU]))

end Go.Vm

/- csv: the reader's cell and row. -/
namespace Go.Vm
open Proofs
set_option maxRecDepth 20000
set_option maxHeartbeats 1000000
set_option linter.unusedSimpArgs false
set_option pp.deepTerms true

@[simp] theorem midN_app (a b c : List UInt8) : List.drop a.length (List.take (a.length + b.length) (a ++ (b ++ c))) = b := by
  have : a ++ (b ++ c) = (a ++ b) ++ c := by simp
  rw [this, ← List.length_append, List.take_left, List.drop_left]

def plainS (d : Dia) : List UInt8 → List UInt8 × List UInt8 × Bool
  | [] => ([], [], true)
  | c :: l => if endsS d (c :: l) = true then ([], c :: l, true) else if c = d.quote then ([], c :: l, false) else
    match plainS d l with
    | (s, r, true) => (c :: s, r, true)
    | (_, r, false) => ([], r, false)
def accP (acc : List UInt8) (o : List UInt8 × List UInt8 × Bool) : List UInt8 × List UInt8 × Bool := if o.2.2 = true then (acc ++ o.1, o.2) else ([], o.2)
def cellS (d : Dia) : List UInt8 → List UInt8 × List UInt8 × Bool
  | [] => ([], [], true)
  | c :: l => if c = d.quote then quotedR d l else plainS d (c :: l)

theorem plainS_nil (d : Dia) : ∀ l, (plainS d l).2.2 = false → (plainS d l).1 = []
  | [], h => by simp [plainS] at h
  | c :: l, h => by
    unfold plainS at h ⊢
    split <;> simp_all
    split <;> simp_all
    split <;> simp_all
theorem accP_nil (d : Dia) (l : List UInt8) : accP [] (plainS d l) = plainS d l := by
  unfold accP
  split
  · simp
  · rename_i h
    have := plainS_nil d l (by simpa using h)
    rw [← this]
theorem accP_step (d : Dia) (acc : List UInt8) (c : UInt8) (l : List UInt8) (h1 : endsS d (c :: l) = false) (h2 : c ≠ d.quote) : accP acc (plainS d (c :: l)) = accP (acc ++ [c]) (plainS d l) := by
  rw [plainS, if_neg (by simp [h1]), if_neg h2]
  rcases plainS d l with ⟨s, r, b⟩
  cases b <;> simp [accP]

theorem cell47_V {b : Nat} {d : Dia} {pre rest text : List UInt8} {h : List Blk} (hp : pre ++ rest = text) (hb : h[b]? = some (rdB d text pre.length)) (hs : text.length ≤ 1048576) :
    CallW Tryd.prog 47 [.ptr b 69 0 0] h fun x h' => x = .tup [.d (.str (cellS d rest).1), .d (.bool (cellS d rest).2.2)] ∧ h' = h.set b (rdB d text (text.length - (cellS d rest).2.1.length : Nat)) := by
  refine callW tb_ok fn47 (by simp) (fun hok => ?_)
  have hbl := (List.getElem?_eq_some_iff.mp hb).1
  have hb' := (List.getElem?_eq_some_iff.mp hb).2
  by_cases hq : ∃ l, rest = d.quote :: l
  · obtain ⟨l, rfl⟩ := hq
    have hs' := hs
    rw [← hp] at hs
    have hb2 : h[b] = rdB d (pre ++ d.quote :: l) pre.length := by rw [hb', hp]
    simp only [List.length_append, List.length_cons] at hs
    simp (disch := first | omega | (simp; done) | (simp; omega)) [ltT, ltF, leT, leF, eqT', eqF, ltTn, leTn, ltFn, leFn, wrapI, mid, c47, hb2, hbl, rdB]
    refine callV_of (quoted_V (b := b) (d := d) (pre := pre) (c := d.quote) (body := l) hp hb hs') ?_
    rintro _ _ ⟨rfl, rfl⟩
    simp (disch := first | omega | (simp; done) | (simp; omega)) [ltT, ltF, leT, leF, eqT', eqF, ltTn, leTn, ltFn, leFn, wrapI, mid, cellS]
    exact rshift_same' (by simp [rdB]) (by simp)
  · have hsame : h = h.set b (rdB d text pre.length) := by rw [← hb']; exact (List.set_getElem_self hbl).symm
    have hcell : cellS d rest = plainS d rest := by
      cases rest with
      | nil => rfl
      | cons c l => rw [cellS, if_neg (fun e => hq ⟨l, by rw [e]⟩)]
    have hlen0 : text.length = pre.length + rest.length := by rw [← hp]; simp
    rw [hcell]
    obtain ⟨R, hR⟩ : ∃ R, R = rest := ⟨_, rfl⟩
    obtain ⟨res, hres⟩ : ∃ res, plainS d rest = res := ⟨_, rfl⟩
    rw [hres]
    have hpR : pre ++ R = text := by rw [hR]; exact hp
    rw [← hR] at hres
    have hb2 : h[b] = rdB d (pre ++ rest) pre.length := by rw [hb', hp]
    have hcq : ∀ c l, rest = c :: l → ¬ c = d.quote := fun c l h1 h2 => hq ⟨l, by rw [h1, h2]⟩
    clear hcell hq
    rcases rest with _ | ⟨c, l⟩
    · simp only [List.length_nil] at hlen0
      simp (disch := first | omega | (simp; done) | (simp; omega)) [ltT, ltF, leT, leF, eqT', eqF, ltTn, leTn, ltFn, leFn, wrapI, mid, c47, hb2, hbl, rdB]
      clear hb' hb2 hlen0 hcq
      refine W_loopA (ι := List UInt8 × List UInt8) (fun p => p.1 ++ p.2 = R ∧ accP p.1 (plainS d p.2) = res) (fun p => ⟨[(0, .ptr b 69 0 0), (4, .d (.int .i64 pre.length))],
        h.set b (rdB d text ((pre.length : Int) + p.1.length))⟩) (fun p => p.2.length) ([], R) ⟨rfl, by rw [← hres]; exact accP_nil d R⟩ (Shift.slots' (by simpa using hsame) (by simp)) ?_
      clear hsame hR hp hb
      rintro ⟨acc, rest⟩ ⟨hx, hc⟩ A hA
      simp only at hx hc
      subst hx
      have hp2 : (pre ++ acc) ++ rest = text := by simpa using hpR
      have hlen : text.length = pre.length + (acc.length + rest.length) := by rw [← hpR]; simp
      simp (disch := first | omega | (simp; done) | (simp; omega)) [ltT, ltF, leT, leF, eqT', eqF, ltTn, leTn, ltFn, leFn, wrapI, mid]
      refine (ends_V (b := b) (d := d) (pre := pre ++ acc) (rest := rest) (h := h.set b (rdB d text ((pre.length : Int) + acc.length))) (by rw [hp2]; simp [rdB, hbl]) (by rw [hp2]; omega)).useV ?_
      cases he : endsS d rest with
      | true =>
        have hf : res = (acc, rest, true) := by
          rw [← hc]
          cases rest with
          | nil => simp [plainS, accP]
          | cons c l => simp [plainS, he, accP]
        have e1 : text.length - rest.length = pre.length + acc.length := by omega
        have e3 : List.drop pre.length (List.take ((pre.length : Int) + acc.length).toNat text) = acc := by
          have : ((pre.length : Int) + acc.length).toNat = pre.length + acc.length := by omega
          rw [this, ← hpR]; simp
        simp (disch := first | omega | (simp; done) | (simp; omega)) [ltT, ltF, leT, leF, eqT', eqF, ltTn, leTn, ltFn, leFn, wrapI, mid, rdB, hbl, hf, e1, e3]
        exact rshift_same' rfl (by simp)
      | false =>
        cases rest with
        | nil => simp [endsS] at he
        | cons e l2 =>
          have e1 : byteAt text (pre.length + acc.length) = (e.toNat : Int) := by have := byteAt_app (pre ++ acc) l2 e; rw [hp2] at this; simpa using this
          simp only [List.length_cons] at hlen
          have e0 : ((pre.length : Int) + acc.length).toNat = pre.length + acc.length := by omega
          by_cases h2 : e = d.quote
          · have hf : res = ([], e :: l2, false) := by rw [← hc, plainS, if_neg (by simp [he]), if_pos h2]; simp [accP]
            have e2 : text.length - (l2.length + 1) = pre.length + acc.length := by omega
            simp (disch := first | omega | (simp; done) | (simp; omega)) [ltT, ltF, leT, leF, eqT', eqF, ltTn, leTn, ltFn, leFn, wrapI, mid, rdB, hbl, hf, e0, e1, e2, u8_inj, eq_true h2]
            exact rshift_same' rfl (by simp)
          · rw [accP_step d acc e l2 he h2] at hc
            simp (disch := first | omega | (simp; done) | (simp; omega)) [ltT, ltF, leT, leF, eqT', eqF, ltTn, leTn, ltFn, leFn, wrapI, mid, rdB, hbl, e0, e1, u8_inj, eq_false h2]
            exact hA (acc ++ [e], l2) _ ⟨by simp, hc⟩ (by simp) (Shift.slots' (by simp [rdB, Int.add_assoc]) (by simp))
    · have hcq := hcq c l rfl
      simp only [List.length_cons] at hlen0
      simp (disch := first | omega | (simp; done) | (simp; omega)) [ltT, ltF, leT, leF, eqT', eqF, ltTn, leTn, ltFn, leFn, wrapI, mid, c47, hb2, hbl, rdB, u8_inj, eq_false hcq]
      clear hb' hb2 hlen0 hcq
      refine W_loopA (ι := List UInt8 × List UInt8) (fun p => p.1 ++ p.2 = R ∧ accP p.1 (plainS d p.2) = res) (fun p => ⟨[(0, .ptr b 69 0 0), (4, .d (.int .i64 pre.length))],
        h.set b (rdB d text ((pre.length : Int) + p.1.length))⟩) (fun p => p.2.length) ([], R) ⟨rfl, by rw [← hres]; exact accP_nil d R⟩ (Shift.slots' (by simpa using hsame) (by simp)) ?_
      clear hsame hR hp hb
      rintro ⟨acc, rest⟩ ⟨hx, hc⟩ A hA
      simp only at hx hc
      subst hx
      have hp2 : (pre ++ acc) ++ rest = text := by simpa using hpR
      have hlen : text.length = pre.length + (acc.length + rest.length) := by rw [← hpR]; simp
      simp (disch := first | omega | (simp; done) | (simp; omega)) [ltT, ltF, leT, leF, eqT', eqF, ltTn, leTn, ltFn, leFn, wrapI, mid]
      refine (ends_V (b := b) (d := d) (pre := pre ++ acc) (rest := rest) (h := h.set b (rdB d text ((pre.length : Int) + acc.length))) (by rw [hp2]; simp [rdB, hbl]) (by rw [hp2]; omega)).useV ?_
      cases he : endsS d rest with
      | true =>
        have hf : res = (acc, rest, true) := by
          rw [← hc]
          cases rest with
          | nil => simp [plainS, accP]
          | cons c l => simp [plainS, he, accP]
        have e1 : text.length - rest.length = pre.length + acc.length := by omega
        have e3 : List.drop pre.length (List.take ((pre.length : Int) + acc.length).toNat text) = acc := by
          have : ((pre.length : Int) + acc.length).toNat = pre.length + acc.length := by omega
          rw [this, ← hpR]; simp
        simp (disch := first | omega | (simp; done) | (simp; omega)) [ltT, ltF, leT, leF, eqT', eqF, ltTn, leTn, ltFn, leFn, wrapI, mid, rdB, hbl, hf, e1, e3]
        exact rshift_same' rfl (by simp)
      | false =>
        cases rest with
        | nil => simp [endsS] at he
        | cons e l2 =>
          have e1 : byteAt text (pre.length + acc.length) = (e.toNat : Int) := by have := byteAt_app (pre ++ acc) l2 e; rw [hp2] at this; simpa using this
          simp only [List.length_cons] at hlen
          have e0 : ((pre.length : Int) + acc.length).toNat = pre.length + acc.length := by omega
          by_cases h2 : e = d.quote
          · have hf : res = ([], e :: l2, false) := by rw [← hc, plainS, if_neg (by simp [he]), if_pos h2]; simp [accP]
            have e2 : text.length - (l2.length + 1) = pre.length + acc.length := by omega
            simp (disch := first | omega | (simp; done) | (simp; omega)) [ltT, ltF, leT, leF, eqT', eqF, ltTn, leTn, ltFn, leFn, wrapI, mid, rdB, hbl, hf, e0, e1, e2, u8_inj, eq_true h2]
            exact rshift_same' rfl (by simp)
          · rw [accP_step d acc e l2 he h2] at hc
            simp (disch := first | omega | (simp; done) | (simp; omega)) [ltT, ltF, leT, leF, eqT', eqF, ltTn, leTn, ltFn, leFn, wrapI, mid, rdB, hbl, e0, e1, u8_inj, eq_false h2]
            exact hA (acc ++ [e], l2) _ ⟨by simp, hc⟩ (by simp) (Shift.slots' (by simp [rdB, Int.add_assoc]) (by simp))

theorem quotedR_suffix (d : Dia) (l : List UInt8) : ∃ p, p ++ (quotedR d l).2.1 = l := by
  unfold quotedR
  cases h : quotedS d.quote l with
  | none => exact ⟨l, by simp⟩
  | some x => obtain ⟨s, r⟩ := x; exact quotedS_suffix d.quote _ l s r (Nat.le_refl _) h
theorem plainS_suffix (d : Dia) : ∀ l, ∃ p, p ++ (plainS d l).2.1 = l
  | [] => ⟨[], rfl⟩
  | c :: l => by
    obtain ⟨p, hp⟩ := plainS_suffix d l
    rw [plainS]
    split
    · exact ⟨[], rfl⟩
    · split
      · exact ⟨[], rfl⟩
      · rcases h : plainS d l with ⟨s, r, b⟩
        rw [h] at hp
        cases b <;> exact ⟨c :: p, by simpa using hp⟩
theorem cellS_suffix (d : Dia) : ∀ l, ∃ p, p ++ (cellS d l).2.1 = l
  | [] => ⟨[], rfl⟩
  | c :: l => by
    rw [cellS]
    split
    · obtain ⟨p, hp⟩ := quotedR_suffix d l
      exact ⟨c :: p, by simpa using hp⟩
    · exact plainS_suffix d (c :: l)

/-- Behind the last cell of a row. -/
def rowEnd : List UInt8 → List UInt8 × Bool
  | [] => ([], true)
  | c :: l => if c = 13 then (match l with
      | [] => ([], false)
      | e :: l2 => if e = 10 then (l2, true) else (e :: l2, false)) else (l, true)
def rowS : Nat → Dia → List UInt8 → List (List UInt8) × List UInt8 × Bool
  | 0, _, rest => ([], rest, false)
  | n + 1, d, rest =>
    match cellS d rest with
    | (_, r, false) => ([], r, false)
    | (s, r, true) =>
      match r with
      | [] => ([s], [], true)
      | c :: l => if c = d.sep then (match rowS n d l with
          | (t, r2, true) => (s :: t, r2, true)
          | (_, r2, false) => ([], r2, false)) else (match rowEnd (c :: l) with
          | (r2, true) => ([s], r2, true)
          | (r2, false) => ([], r2, false))
def accRow (acc : List (List UInt8)) (o : List (List UInt8) × List UInt8 × Bool) : List (List UInt8) × List UInt8 × Bool := if o.2.2 = true then (acc ++ o.1, o.2) else ([], o.2)
def rowV (o : List (List UInt8) × List UInt8 × Bool) : D := if o.2.2 = true then encR o.1 else .nilsl

theorem rshift_set' {P : Program} {H h g : List Blk} {b : Nat} {X : Blk} {v x : AV} (hok : HOk h) (hX : BlkBel h.length X) (hv : Bel h.length x) (hsub : Subs v x) (e : H = h.set b X ++ g) : RShift P h.length v H x (h.set b X) := by
  subst e
  exact RShift.subs hsub (by rw [List.length_set]; exact hv) (hok.set hX) (by simp)
theorem rowS_nil (d : Dia) : ∀ (n : Nat) (l : List UInt8), (rowS n d l).2.2 = false → (rowS n d l).1 = []
  | 0, _, _ => rfl
  | n + 1, l, h => by
    rw [rowS] at h ⊢
    rcases hc : cellS d l with ⟨s, r, ok⟩
    rw [hc] at h
    cases ok with
    | false => rfl
    | true =>
      cases r with
      | nil => simp at h
      | cons c l =>
        by_cases h1 : c = d.sep
        · simp only [if_pos h1] at h ⊢
          rcases hr : rowS n d l with ⟨t, r2, ok2⟩
          rw [hr] at h
          cases ok2 <;> simp at h ⊢
        · simp only [if_neg h1] at h ⊢
          rcases hr : rowEnd (c :: l) with ⟨r2, ok2⟩
          rw [hr] at h
          cases ok2 <;> simp at h ⊢

theorem sub_R (b : Nat) (acc : List (List UInt8)) (s : List UInt8) : Sub (.bl b 9 (acc.map encS ++ [.str s])) (.d (encR (acc ++ [s]))) := by
  have : encR (acc ++ [s]) = .sl 9 (acc.map encS ++ [.str s]) := by simp [encR, encS]
  rw [this]
  exact .bl _ _ _

theorem row_V {b : Nat} {d : Dia} {pre rest text : List UInt8} {h : List Blk} (hp : pre ++ rest = text) (hb : h[b]? = some (rdB d text pre.length)) (hs : text.length ≤ 1048576) (n : Nat) (hn : rest.length < n) :
    CallW Tryd.prog 35 [.ptr b 69 0 0] h fun x h' => x = .tup [.d (rowV (rowS n d rest)), .d (.bool (rowS n d rest).2.2)] ∧ h' = h.set b (rdB d text (text.length - (rowS n d rest).2.1.length : Nat)) := by
  refine callW tb_ok fn35 (by simp) (fun hok => ?_)
  have hbl := (List.getElem?_eq_some_iff.mp hb).1
  have hb' := (List.getElem?_eq_some_iff.mp hb).2
  have hsame : h = h.set b (rdB d text pre.length) := by rw [← hb']; exact (List.set_getElem_self hbl).symm
  obtain ⟨res, hres⟩ : ∃ res, rowS n d rest = res := ⟨_, rfl⟩
  rw [hres]
  simp (disch := first | omega | (simp; done) | (simp; omega)) [ltT, ltF, leT, leF, eqT', eqF, ltTn, leTn, ltFn, leFn, wrapI, mid, c35]
  refine W_loopA (ι := List (List UInt8) × List UInt8 × List UInt8 × Nat) (fun p => p.2.1 ++ p.2.2.1 = text ∧ accRow p.1 (rowS p.2.2.2 d p.2.2.1) = res ∧ p.2.2.1.length < p.2.2.2 ∧ p.1.length ≤ p.2.1.length) (fun p => ⟨[(0, .ptr b 69 0 0), (4, .bl h.length 9 (p.1.map encS))],
    h.set b (rdB d text p.2.1.length) ++ [.tail 9 p.1.length]⟩) (fun p => p.2.2.1.length) ([], pre, rest, n) ⟨hp, ?_, hn, by simp⟩ ((Shift.nilbl (i := 4) 9 (by simp)).trans (Shift.slots' (by simpa using hsame) (by simp))) ?_
  · simp only [accRow, ← hres]
    split
    · simp
    · rename_i h1
      have := rowS_nil d n rest (by simpa using h1)
      rw [← this]
  clear hsame hres hb' hb hp hn
  rintro ⟨acc, P, rest, n⟩ ⟨hx, hc, hn, ha⟩ A hA
  simp only at hx hc hn ha
  have hlen : text.length = P.length + rest.length := by rw [← hx]; simp
  obtain ⟨n, rfl⟩ : ∃ m, n = m + 1 := ⟨n - 1, by omega⟩
  simp (disch := first | omega | (simp; done) | (simp; omega)) [ltT, ltF, leT, leF, eqT', eqF, ltTn, leTn, ltFn, leFn, wrapI, mid]
  refine callV_of (cell47_V (b := b) (d := d) (pre := P) (rest := rest) (h := h.set b (rdB d text P.length) ++ [.tail 9 acc.length]) hx (by simp [rdB, hbl, List.getElem?_append_left]) hs) ?_
  rintro _ _ ⟨rfl, rfl⟩
  obtain ⟨p, hp⟩ := cellS_suffix d rest
  rw [rowS] at hc
  rcases hcell : cellS d rest with ⟨s, r, ok⟩
  rw [hcell] at hc hp
  simp only at hc hp
  have hx2 : (P ++ p) ++ r = text := by rw [List.append_assoc, hp]; exact hx
  have hlen2 : text.length = P.length + p.length + r.length := by rw [← hx2]; simp [Nat.add_assoc]
  cases ok with
  | false =>
    simp only [accRow] at hc
    simp (disch := first | omega | (simp; done) | (simp; omega)) [ltT, ltF, leT, leF, eqT', eqF, ltTn, leTn, ltFn, leFn, wrapI, mid, hbl, ← hc, rowV]
    exact rshift_set hok (rdB_bel d _ _ _) (by simp) rfl
  | true =>
    cases r with
    | nil =>
      simp only [accRow] at hc
      simp (disch := first | omega | (simp; done) | (simp; omega)) [ltT, ltF, leT, leF, eqT', eqF, ltTn, leTn, ltFn, leFn, wrapI, mid, hbl, ← hc, rdB, rowV]
      exact rshift_set' hok (rdB_bel d text _ _) (by simp) ⟨sub_R _ _ _, .refl _, trivial⟩ rfl
    | cons c l =>
      obtain ⟨K, hK⟩ : ∃ K, K = P.length + p.length := ⟨_, rfl⟩
      simp only [List.length_cons] at hlen2
      have e1 : text.length - (l.length + 1) = K := by omega
      have b1 : byteAt text K = (c.toNat : Int) := by have := byteAt_app (P ++ p) l c; rw [hx2] at this; rw [hK]; simpa using this
      by_cases h1 : c = d.sep
      · simp only [if_pos h1] at hc
        simp (disch := first | omega | (simp; done) | (simp; omega)) [ltT, ltF, leT, leF, eqT', eqF, ltTn, leTn, ltFn, leFn, wrapI, mid, hbl, rdB, e1, b1, u8_inj, eq_true h1]
        have hc' : accRow (acc ++ [s]) (rowS n d l) = res := by
          rw [← hc]
          rcases rowS n d l with ⟨t, r2, ok2⟩
          cases ok2 <;> simp [accRow]
        have hl1 : l.length < rest.length := by omega
        exact hA (acc ++ [s], P ++ p ++ [c], l, n) _ ⟨by simpa using hx2, hc', by simp; omega, by simp; omega⟩ (by simp; omega) (Shift.slots' (by simp [rdB, hK, Int.add_assoc]) (by simp [encS]))
      · simp only [if_neg h1] at hc
        by_cases h2 : c = 13
        · cases l with
          | nil =>
            simp only [List.length_nil] at hlen2
            have e2 : text.length = K + 1 := by omega
            simp [rowEnd, h2, accRow] at hc
            simp (disch := first | omega | (simp; done) | (simp; omega)) [ltT, ltF, leT, leF, eqT', eqF, ltTn, leTn, ltFn, leFn, wrapI, mid, hbl, rdB, e2, b1, u8_inj, u8_13, u8_10, eq_false h1, eq_true h2, ← hc, rowV]
            exact rshift_set hok (rdB_bel d text _ _) (by simp) rfl
          | cons e l2 =>
            have b2 : byteAt text (K + 1) = (e.toNat : Int) := by have := byteAt_app1 (P ++ p) l2 c e; rw [hx2] at this; rw [hK]; simpa using this
            simp only [List.length_cons] at hlen2 e1
            by_cases h3 : e = 10
            · have e2 : text.length - l2.length = K + 2 := by omega
              simp [rowEnd, h2, h3, accRow] at hc
              simp (disch := first | omega | (simp; done) | (simp; omega)) [ltT, ltF, leT, leF, eqT', eqF, ltTn, leTn, ltFn, leFn, wrapI, mid, hbl, rdB, e1, e2, b1, b2, u8_inj, u8_13, u8_10, eq_false h1, eq_true h2, eq_true h3, ← hc, rowV]
              exact rshift_set' hok (rdB_bel d text _ _) (by simp) ⟨sub_R _ _ _, .refl _, trivial⟩ rfl
            · have e2 : text.length - (l2.length + 1) = K + 1 := by omega
              simp [rowEnd, h2, h3, accRow] at hc
              simp (disch := first | omega | (simp; done) | (simp; omega)) [ltT, ltF, leT, leF, eqT', eqF, ltTn, leTn, ltFn, leFn, wrapI, mid, hbl, rdB, e1, e2, b1, b2, u8_inj, u8_13, u8_10, eq_false h1, eq_true h2, eq_false h3, ← hc, rowV]
              exact rshift_set hok (rdB_bel d text _ _) (by simp) rfl
        · have e2 : text.length - l.length = K + 1 := by omega
          simp [rowEnd, h2, accRow] at hc
          simp (disch := first | omega | (simp; done) | (simp; omega)) [ltT, ltF, leT, leF, eqT', eqF, ltTn, leTn, ltFn, leFn, wrapI, mid, hbl, rdB, e1, e2, b1, u8_inj, u8_13, u8_10, eq_false h1, eq_false h2, ← hc, rowV]
          exact rshift_set' hok (rdB_bel d text _ _) (by simp) ⟨sub_R _ _ _, .refl _, trivial⟩ rfl

end Go.Vm

/- csv: Parse. -/
namespace Go.Vm
open Proofs
set_option maxRecDepth 20000
set_option maxHeartbeats 1000000
set_option linter.unusedSimpArgs false

theorem rowEnd_suffix : ∀ l, l ≠ [] → ∃ p, p ≠ [] ∧ p ++ (rowEnd l).1 = l
  | [], h => (h rfl).elim
  | c :: l, _ => by
    by_cases h1 : c = 13
    · cases l with
      | nil => exact ⟨[c], by simp, by simp [rowEnd, h1]⟩
      | cons e l2 =>
        by_cases h2 : e = 10
        · exact ⟨[c, e], by simp, by simp [rowEnd, h1, h2]⟩
        · exact ⟨[c], by simp, by simp [rowEnd, h1, h2]⟩
    · exact ⟨[c], by simp, by simp [rowEnd, h1]⟩

theorem rowS_suffix (d : Dia) : ∀ (n : Nat) (l : List UInt8), ∃ p, p ++ (rowS n d l).2.1 = l ∧ ((rowS n d l).2.2 = true → (rowS n d l).1.length ≤ p.length + 1 ∧ (l ≠ [] → p ≠ []))
  | 0, l => ⟨[], rfl, by simp [rowS]⟩
  | n + 1, l => by
    obtain ⟨p, hp⟩ := cellS_suffix d l
    rw [rowS]
    rcases hc : cellS d l with ⟨s, r, ok⟩
    rw [hc] at hp
    simp only at hp
    cases ok with
    | false => exact ⟨p, hp, by simp⟩
    | true =>
      cases r with
      | nil => exact ⟨l, by simp, by simp⟩
      | cons c l2 =>
        by_cases h1 : c = d.sep
        · simp only [if_pos h1]
          obtain ⟨q, hq, hq2⟩ := rowS_suffix d n l2
          rcases hr : rowS n d l2 with ⟨t, r2, ok2⟩
          rw [hr] at hq hq2
          simp only at hq hq2
          have : (p ++ c :: q) ++ r2 = l := by rw [← hp, ← hq]; simp
          cases ok2 with
          | false => exact ⟨_, this, by simp⟩
          | true =>
            obtain ⟨h3, _⟩ := hq2 rfl
            exact ⟨_, this, fun _ => ⟨by simp; omega, by simp⟩⟩
        · simp only [if_neg h1]
          obtain ⟨q, hq1, hq⟩ := rowEnd_suffix (c :: l2) (by simp)
          rcases hr : rowEnd (c :: l2) with ⟨r2, ok2⟩
          rw [hr] at hq
          simp only at hq
          have : (p ++ q) ++ r2 = l := by rw [← hp, ← hq]; simp
          cases ok2 with
          | false => exact ⟨_, this, by simp⟩
          | true => exact ⟨_, this, fun _ => ⟨by simp, by simp [hq1]⟩⟩

def rowsS : Nat → Dia → List UInt8 → List (List (List UInt8)) × List UInt8 × Bool
  | 0, _, rest => ([], rest, false)
  | n + 1, d, rest => if rest = [] then ([], [], true) else
    match rowS (rest.length + 1) d rest with
    | (_, r, false) => ([], r, false)
    | (row, r, true) => match rowsS n d r with
      | (t, r2, true) => (row :: t, r2, true)
      | (_, r2, false) => ([], r2, false)
def accRows (acc : List (List (List UInt8))) (o : List (List (List UInt8)) × List UInt8 × Bool) : List (List (List UInt8)) × List UInt8 × Bool := if o.2.2 = true then (acc ++ o.1, o.2) else ([], o.2)
def parseS (text : List UInt8) (d : Dia) : List (List (List UInt8)) × (Int × Int) :=
  if (diaFault d).1 ≠ 0 then ([], diaFault d) else if 4000 < text.length then ([], (3, -2)) else
    if (rowsS (text.length + 1) d text).2.2 = true then
      if (tabFault (rowsS (text.length + 1) d text).1 (-3)).1 ≠ 0 then ([], tabFault (rowsS (text.length + 1) d text).1 (-3)) else ((rowsS (text.length + 1) d text).1, (0, 0))
    else ([], (1, ((text.length - (rowsS (text.length + 1) d text).2.1.length : Nat) : Int)))
theorem rowsS_nil (d : Dia) : ∀ (n : Nat) (l : List UInt8), (rowsS n d l).2.2 = false → (rowsS n d l).1 = []
  | 0, _, _ => rfl
  | n + 1, l, h => by
    rw [rowsS] at h ⊢
    split
    · rfl
    · rename_i h0
      rw [if_neg h0] at h
      rcases hr : rowS (l.length + 1) d l with ⟨row, r, ok⟩
      rw [hr] at h
      cases ok with
      | false => rfl
      | true =>
        simp only at h ⊢
        rcases ht : rowsS n d r with ⟨t, r2, ok2⟩
        rw [ht] at h
        cases ok2 <;> simp at h ⊢

theorem parse_V (text : List UInt8) (d : Dia) (hl : text.length ≤ 1048576) (h : List Blk) :
    CallP Tryd.prog 18 [.d (.str text), .d (encDia d)] h (.tup [.d (.sl 39 ((parseS text d).1.map encR)), .d (encF (parseS text d).2)]) := by
  refine callW tb_ok fn18 (by simp) (fun hok => ?_)
  simp (disch := first | omega | (simp; done) | (simp; omega)) [ltT, ltF, leT, leF, eqT', eqF, ltTn, leTn, ltFn, leFn, wrapI, mid, c18]
  refine (validate_V d _).useV ?_
  by_cases h1 : (diaFault d).1 ≠ 0
  · simp (disch := first | omega | (simp; done) | (simp; omega)) [ltT, ltF, leT, leF, eqT', eqF, ltTn, leTn, ltFn, leFn, wrapI, mid, h1, parseS]
    exact RShift.subs ⟨.nil _, .refl _, trivial⟩ (by simp) hok (Nat.le_refl _)
  by_cases h2 : 4000 < text.length
  · simp (disch := first | omega | (simp; done) | (simp; omega)) [ltT, ltF, leT, leF, eqT', eqF, ltTn, leTn, ltFn, leFn, wrapI, mid, h1, h2, parseS]
    exact RShift.subs ⟨.nil _, .refl _, trivial⟩ (by simp) hok (Nat.le_refl _)
  simp (disch := first | omega | (simp; done) | (simp; omega)) [ltT, ltF, leT, leF, eqT', eqF, ltTn, leTn, ltFn, leFn, wrapI, mid, h1]
  have hd := diaFault_ok h1
  rw [hd]
  obtain ⟨res, hres⟩ : ∃ res, rowsS (text.length + 1) d text = res := ⟨_, rfl⟩
  have hps : parseS text d = if res.2.2 = true then (if (tabFault res.1 (-3)).1 ≠ 0 then ([], tabFault res.1 (-3)) else (res.1, (0, 0))) else ([], (1, ((text.length - res.2.1.length : Nat) : Int))) := by
    rw [parseS, if_neg h1, if_neg h2, hres]
  rw [hps]
  refine W_loopA (ι := List (List (List UInt8)) × List UInt8 × List UInt8 × Nat) (fun p => p.2.1 ++ p.2.2.1 = text ∧ accRows p.1 (rowsS p.2.2.2 d p.2.2.1) = res ∧ p.2.2.1.length < p.2.2.2 ∧ p.1.length ≤ p.2.1.length ∧ total p.1 ≤ p.2.1.length + p.1.length)
    (fun p => ⟨[(0, .d (.str text)), (5, .ptr (h.length + 1) 26 0 0), (7, .ptr (h.length + 3) 69 0 0), (8, .bl (h.length + 4) 39 (p.1.map encR))],
      h ++ [.cells 24 [.d (encDia d)], .cells 26 [.d (encF (0, 0))], .cells 26 [.d (encF (0, 0))], rdB d text p.2.1.length, .tail 39 p.1.length]⟩) (fun p => p.2.2.1.length) ([], [], text, text.length + 1) ⟨rfl, ?_, by simp, by simp, by simp [total]⟩
    ((Shift.nilbl (i := 8) 39 (by simp)).trans (Shift.slots' (by simp [rdB]) (by simp))) ?_
  · rw [hres, accRows]
    split
    · simp
    · rename_i h3
      have := rowsS_nil d (text.length + 1) text (by rw [hres]; simpa using h3)
      rw [hres] at this
      rw [← this]
  rintro ⟨acc, P, rest, n⟩ ⟨hx, hc, hn, ha, hta⟩ A hA
  simp only at hx hc hn ha hta
  have hlen : text.length = P.length + rest.length := by rw [← hx]; simp
  obtain ⟨n, rfl⟩ : ∃ m, n = m + 1 := ⟨n - 1, by omega⟩
  rw [rowsS] at hc
  cases hrest : rest with
  | nil =>
    subst hrest
    simp only [if_true, accRows, List.append_nil] at hc
    simp only [List.length_nil] at hlen
    simp (disch := first | omega | (simp; done) | (simp; omega)) [ltT, ltF, leT, leF, eqT', eqF, ltTn, leTn, ltFn, leFn, wrapI, mid, rdB]
    refine CallP.useV (CallP.subs (check_V acc (-3) (by omega) (by omega) _) ⟨.bl _ _ _, .refl _, trivial⟩) ?_
    by_cases h4 : (tabFault acc (-3)).1 ≠ 0
    · simp (disch := first | omega | (simp; done) | (simp; omega)) [ltT, ltF, leT, leF, eqT', eqF, ltTn, leTn, ltFn, leFn, wrapI, mid, h4, ← hc]
      exact RShift.subs ⟨.nil _, .refl _, trivial⟩ (by simp) hok (Nat.le_refl _)
    · simp (disch := first | omega | (simp; done) | (simp; omega)) [ltT, ltF, leT, leF, eqT', eqF, ltTn, leTn, ltFn, leFn, wrapI, mid, h4, ← hc]
      exact RShift.subs ⟨.bl _ _ _, .refl _, trivial⟩ (by simp) hok (Nat.le_refl _)
  | cons c l =>
    have hne : rest ≠ [] := by simp [hrest]
    have hpos : 0 < rest.length := List.length_pos_iff.mpr hne
    rw [← hrest]
    rw [if_neg hne] at hc
    simp (disch := first | omega | (simp; done) | (simp; omega)) [ltT, ltF, leT, leF, eqT', eqF, ltTn, leTn, ltFn, leFn, wrapI, mid, rdB]
    refine callV_of (row_V (b := h.length + 3) (d := d) (pre := P) (rest := rest) (text := text) hx (by simp [rdB]) hl (rest.length + 1) (by omega)) ?_
    rintro _ _ ⟨rfl, rfl⟩
    obtain ⟨p, hp, hp2⟩ := rowS_suffix d (rest.length + 1) rest
    rcases hr : rowS (rest.length + 1) d rest with ⟨row, r, ok⟩
    rw [hr] at hc hp hp2
    simp only at hc hp hp2
    have hx2 : (P ++ p) ++ r = text := by rw [List.append_assoc, hp]; exact hx
    have hlen2 : text.length = P.length + p.length + r.length := by rw [← hx2]; simp [Nat.add_assoc]
    cases ok with
    | false =>
      simp only [accRows] at hc
      simp (disch := first | omega | (simp; done) | (simp; omega)) [ltT, ltF, leT, leF, eqT', eqF, ltTn, leTn, ltFn, leFn, wrapI, mid, ← hc, rowV, rdB]
      exact RShift.subs ⟨.nil _, .refl _, trivial⟩ (by simp) hok (Nat.le_refl _)
    | true =>
      obtain ⟨hp3, hp4⟩ := hp2 rfl
      have hp5 : 0 < p.length := List.length_pos_iff.mpr (hp4 hne)
      have hc' : accRows (acc ++ [row]) (rowsS n d r) = res := by
        rw [← hc]
        rcases ht : rowsS n d r with ⟨t, r2, ok2⟩
        cases ok2 <;> simp [accRows, ht]
      have e1 : text.length - r.length = P.length + p.length := by omega
      simp (disch := first | omega | (simp; done) | (simp; omega)) [ltT, ltF, leT, leF, eqT', eqF, ltTn, leTn, ltFn, leFn, wrapI, mid, rowV, rdB]
      refine ⟨rfl, ?_⟩
      exact hA (acc ++ [row], P ++ p, r, n) _ ⟨hx2, hc', by simp; omega, by simp; omega, by simp [total_app, total]; omega⟩ (by simp; omega) (Shift.slots' (by simp [rdB, e1]) (by simp))

end Go.Vm

/- csv: searching in lists of texts; equality of tables. -/
namespace Go.Vm
open Proofs
set_option maxRecDepth 20000
set_option maxHeartbeats 1000000
set_option linter.unusedSimpArgs false

def posS (l : List (List UInt8)) (s : List UInt8) : Int := idxFrom (fun x => decide (x = s)) 0 l

theorem index38_V (xs : List (List UInt8)) (s : List UInt8) (h : List Blk) (hl : xs.length < 1000000000) : CallP Tryd.prog 38 [.d (encR xs), .d (.str s)] h (.d (.int .i64 (posS xs s))) := by
  refine callW tb_ok fn38 (by simp) (fun hok => ?_)
  simp (disch := first | omega | (simp; done) | (simp; omega)) [ltT, ltF, leT, leF, eqT', eqF, ltTn, leTn, ltFn, leFn, wrapI, mid, c38, encR]
  refine W_loopA (ι := List (List UInt8) × List (List UInt8)) (fun q => q.1 ++ q.2 = xs ∧ idxFrom (fun x => decide (x = s)) q.1.length q.2 = posS xs s) (fun q => ⟨[(0, .d (encR xs)), (1, .d (.str s)), (7, .d (.int .i64 xs.length)), (8, .d (.int .i64 q.1.length))], h⟩) (fun q => q.2.length) ([], xs) ⟨rfl, rfl⟩ (Shift.slots' rfl (by simp [encR])) ?_
  rintro ⟨pre, rest⟩ ⟨hx, hc⟩ A hA
  simp only at hx hc
  subst hx
  cases rest with
  | nil =>
    simp only [idxFrom] at hc
    rw [← hc]
    simp (disch := first | omega | (simp; done) | (simp; omega)) [ltT, ltF, leT, leF, eqT', eqF, ltTn, leTn, ltFn, leFn, wrapI, mid]
  | cons x rest =>
    simp only [List.length_append, List.length_cons] at hl
    by_cases hp : x = s
    · have hr : posS (pre ++ x :: rest) s = pre.length := by rw [← hc, idxFrom, if_pos (by simpa using hp)]
      rw [hr]
      simp (disch := first | omega | (simp; done) | (simp; omega)) [ltT, ltF, leT, leF, eqT', eqF, ltTn, leTn, ltFn, leFn, wrapI, mid, encR, encS, hp]
    · have hp' : ¬ s = x := fun e => hp e.symm
      simp (disch := first | omega | (simp; done) | (simp; omega)) [ltT, ltF, leT, leF, eqT', eqF, ltTn, leTn, ltFn, leFn, wrapI, mid, encR, encS, hp']
      refine hA (pre ++ [x], rest) _ ⟨by simp, ?_⟩ (by simp) (Shift.slots' rfl (by simp [encR, encS]))
      rw [← hc, idxFrom, if_neg (by simpa using hp)]
      simp

theorem contains37_V (xs : List (List UInt8)) (s : List UInt8) (h : List Blk) (hl : xs.length < 1000000000) : CallP Tryd.prog 37 [.d (encR xs), .d (.str s)] h (.d (.bool (decide (0 ≤ posS xs s)))) := by
  refine callW tb_ok fn37 (by simp) (fun hok => ?_)
  simp (disch := first | omega | (simp; done) | (simp; omega)) [ltT, ltF, leT, leF, eqT', eqF, ltTn, leTn, ltFn, leFn, wrapI, mid, c37]
  refine (index38_V xs s _ hl).useV ?_
  simp (disch := first | omega | (simp; done) | (simp; omega)) [ltT, ltF, leT, leF, eqT', eqF, ltTn, leTn, ltFn, leFn, wrapI, mid]

theorem position39_V (xs : List (List UInt8)) (s : List UInt8) (h : List Blk) (hl : xs.length < 1000000000) : CallP Tryd.prog 39 [.d (encR xs), .d (.str s)] h (.d (.int .i64 (posS xs s))) := by
  refine callW tb_ok fn39 (by simp) (fun hok => ?_)
  simp (disch := first | omega | (simp; done) | (simp; omega)) [ltT, ltF, leT, leF, eqT', eqF, ltTn, leTn, ltFn, leFn, wrapI, mid, c39, encR]
  refine W_loopA (ι := List (List UInt8) × List (List UInt8)) (fun q => q.1 ++ q.2 = xs ∧ idxFrom (fun x => decide (x = s)) q.1.length q.2 = posS xs s) (fun q => ⟨[(0, .d (encR xs)), (1, .d (.str s)), (5, .d (.int .i64 q.1.length))], h⟩) (fun q => q.2.length) ([], xs) ⟨rfl, rfl⟩ (Shift.slots' rfl (by simp [encR])) ?_
  rintro ⟨pre, rest⟩ ⟨hx, hc⟩ A hA
  simp only at hx hc
  subst hx
  cases rest with
  | nil =>
    simp only [idxFrom] at hc
    rw [← hc]
    simp (disch := first | omega | (simp; done) | (simp; omega)) [ltT, ltF, leT, leF, eqT', eqF, ltTn, leTn, ltFn, leFn, wrapI, mid, encR]
  | cons x rest =>
    simp only [List.length_append, List.length_cons] at hl
    by_cases hp : x = s
    · have hr : posS (pre ++ x :: rest) s = pre.length := by rw [← hc, idxFrom, if_pos (by simpa using hp)]
      rw [hr]
      simp (disch := first | omega | (simp; done) | (simp; omega)) [ltT, ltF, leT, leF, eqT', eqF, ltTn, leTn, ltFn, leFn, wrapI, mid, encR, encS, hp]
    · simp (disch := first | omega | (simp; done) | (simp; omega)) [ltT, ltF, leT, leF, eqT', eqF, ltTn, leTn, ltFn, leFn, wrapI, mid, encR, encS, hp]
      refine hA (pre ++ [x], rest) _ ⟨by simp, ?_⟩ (by simp) (Shift.slots' rfl (by simp [encR, encS]))
      rw [← hc, idxFrom, if_neg (by simpa using hp)]
      simp

theorem strings36_V (a b : List (List UInt8)) (h : List Blk) (hl : a.length < 1000000000) (hl2 : b.length < 1000000000) : CallP Tryd.prog 36 [.d (encR a), .d (encR b)] h (.d (.bool (decide (a = b)))) := by
  refine callW tb_ok fn36 (by simp) (fun hok => ?_)
  by_cases hab : a.length = b.length
  · simp (disch := first | omega | (simp; done) | (simp; omega)) [ltT, ltF, leT, leF, eqT', eqF, ltTn, leTn, ltFn, leFn, wrapI, mid, c36, encR]
    refine W_loopA (ι := List (List UInt8) × List (List UInt8) × List (List UInt8)) (fun q => q.1 ++ q.2.1 = a ∧ q.1 ++ q.2.2 = b) (fun q => ⟨[(0, .d (encR a)), (1, .d (encR b)), (5, .d (.int .i64 q.1.length))], h⟩) (fun q => q.2.1.length) ([], a, b) ⟨rfl, rfl⟩ (Shift.slots' rfl (by simp [encR])) ?_
    rintro ⟨pre, ra, rb⟩ ⟨hx, hy⟩ A hA
    simp only at hx hy
    subst hx
    subst hy
    cases ra with
    | nil =>
      have : rb = [] := by simpa using hab
      subst this
      simp (disch := first | omega | (simp; done) | (simp; omega)) [ltT, ltF, leT, leF, eqT', eqF, ltTn, leTn, ltFn, leFn, wrapI, mid, encR]
    | cons x ra =>
      cases rb with
      | nil => simp at hab
      | cons y rb =>
        simp only [List.length_append, List.length_cons] at hl hl2 hab
        by_cases hp : x = y
        · simp (disch := first | omega | (simp; done) | (simp; omega)) [ltT, ltF, leT, leF, eqT', eqF, ltTn, leTn, ltFn, leFn, wrapI, mid, encR, encS, hp]
          exact hA (pre ++ [x], ra, rb) _ ⟨by simp, by simp [hp]⟩ (by simp) (Shift.slots' rfl (by simp [encR, encS, hp]))
        · simp (disch := first | omega | (simp; done) | (simp; omega)) [ltT, ltF, leT, leF, eqT', eqF, ltTn, leTn, ltFn, leFn, wrapI, mid, encR, encS, hp]
  · have : ¬ a = b := fun e => hab (by rw [e])
    simp (disch := first | omega | (simp; done) | (simp; omega)) [ltT, ltF, leT, leF, eqT', eqF, ltTn, leTn, ltFn, leFn, wrapI, mid, c36, encR, this]

theorem sameTable_V (a b : List (List (List UInt8))) (h : List Blk) (hl : a.length < 1000000000) (hl2 : b.length < 1000000000) (ha : ∀ r ∈ a, r.length < 1000000000) (hb : ∀ r ∈ b, r.length < 1000000000) :
    CallP Tryd.prog 20 [.d (.sl 39 (a.map encR)), .d (.sl 39 (b.map encR))] h (.d (.bool (decide (a = b)))) := by
  refine callW tb_ok fn20 (by simp) (fun hok => ?_)
  by_cases hab : a.length = b.length
  · simp (disch := first | omega | (simp; done) | (simp; omega)) [ltT, ltF, leT, leF, eqT', eqF, ltTn, leTn, ltFn, leFn, wrapI, mid, c20]
    refine W_loopA (ι := List (List (List UInt8)) × List (List (List UInt8)) × List (List (List UInt8))) (fun q => q.1 ++ q.2.1 = a ∧ q.1 ++ q.2.2 = b) (fun q => ⟨[(0, .d (.sl 39 (a.map encR))), (1, .d (.sl 39 (b.map encR))), (5, .d (.int .i64 q.1.length))], h⟩) (fun q => q.2.1.length) ([], a, b) ⟨rfl, rfl⟩ (Shift.slots' rfl (by simp)) ?_
    rintro ⟨pre, ra, rb⟩ ⟨hx, hy⟩ A hA
    simp only at hx hy
    subst hx
    subst hy
    cases ra with
    | nil =>
      have : rb = [] := by simpa using hab
      subst this
      simp (disch := first | omega | (simp; done) | (simp; omega)) [ltT, ltF, leT, leF, eqT', eqF, ltTn, leTn, ltFn, leFn, wrapI, mid]
    | cons x ra =>
      cases rb with
      | nil => simp at hab
      | cons y rb =>
        simp only [List.length_append, List.length_cons] at hl hl2 hab
        simp (disch := first | omega | (simp; done) | (simp; omega)) [ltT, ltF, leT, leF, eqT', eqF, ltTn, leTn, ltFn, leFn, wrapI, mid]
        refine (strings36_V x y _ (ha x (by simp)) (hb y (by simp))).useV ?_
        by_cases hp : x = y
        · simp (disch := first | omega | (simp; done) | (simp; omega)) [ltT, ltF, leT, leF, eqT', eqF, ltTn, leTn, ltFn, leFn, wrapI, mid, hp]
          exact hA (pre ++ [x], ra, rb) _ ⟨by simp, by simp [hp]⟩ (by simp) (Shift.slots' rfl (by simp [hp]))
        · simp (disch := first | omega | (simp; done) | (simp; omega)) [ltT, ltF, leT, leF, eqT', eqF, ltTn, leTn, ltFn, leFn, wrapI, mid, hp]
  · have : ¬ a = b := fun e => hab (by rw [e])
    simp (disch := first | omega | (simp; done) | (simp; omega)) [ltT, ltF, leT, leF, eqT', eqF, ltTn, leTn, ltFn, leFn, wrapI, mid, c20, this]

theorem comma_V (h : List Blk) : CallP Tryd.prog 34 [] h (.d (encDia ⟨44, 34, false, false⟩)) := by
  refine callW tb_ok fn34 (by simp) (fun hok => ?_)
  simp (disch := first | omega | (simp; done) | (simp; omega)) [ltT, ltF, leT, leF, eqT', eqF, ltTn, leTn, ltFn, leFn, wrapI, mid, c34]
  exact rshift_d hok

theorem hasString_V (l : List (List UInt8)) (n : Nat) (s : List UInt8) (h : List Blk) (hl : l.length < 1000000000) : CallP Tryd.prog 23 [.d (encR l), .d (.int .i64 n), .d (.str s)] h (.d (.bool (decide (s ∈ l.take n)))) := by
  refine callW tb_ok fn23 (by simp) (fun hok => ?_)
  simp (disch := first | omega | (simp; done) | (simp; omega)) [ltT, ltF, leT, leF, eqT', eqF, ltTn, leTn, ltFn, leFn, wrapI, mid, c23, encR]
  refine W_loopA (ι := List (List UInt8) × List (List UInt8)) (fun q => q.1 ++ q.2 = l ∧ s ∉ q.1 ∧ q.1.length ≤ n) (fun q => ⟨[(0, .d (encR l)), (1, .d (.int .i64 n)), (2, .d (.str s)), (7, .d (.int .i64 q.1.length))], h⟩) (fun q => q.2.length) ([], l) ⟨rfl, by simp, by simp⟩ (Shift.slots' rfl (by simp [encR])) ?_
  rintro ⟨pre, rest⟩ ⟨hx, hc, hn⟩ A hA
  simp only at hx hc hn
  subst hx
  cases rest with
  | nil =>
    have hf : s ∉ (pre ++ []).take n := fun e => hc (by simpa using List.mem_of_mem_take e)
    rw [decide_eq_false hf]
    by_cases h1 : pre.length < n
    · simp (disch := first | omega | (simp; done) | (simp; omega)) [ltT, ltF, leT, leF, eqT', eqF, ltTn, leTn, ltFn, leFn, wrapI, mid, encR]
    · simp (disch := first | omega | (simp; done) | (simp; omega)) [ltT, ltF, leT, leF, eqT', eqF, ltTn, leTn, ltFn, leFn, wrapI, mid, encR]
  | cons x rest =>
    simp only [List.length_append, List.length_cons] at hl
    by_cases h1 : pre.length < n
    · by_cases hp : x = s
      · have hf : s ∈ (pre ++ x :: rest).take n := by
          rw [List.take_append, List.mem_append]; right
          obtain ⟨m, hm⟩ : ∃ m, n - pre.length = m + 1 := ⟨n - pre.length - 1, by omega⟩
          rw [hm]; simp [hp]
        rw [decide_eq_true hf]
        simp (disch := first | omega | (simp; done) | (simp; omega)) [ltT, ltF, leT, leF, eqT', eqF, ltTn, leTn, ltFn, leFn, wrapI, mid, encR, encS, hp]
      · simp (disch := first | omega | (simp; done) | (simp; omega)) [ltT, ltF, leT, leF, eqT', eqF, ltTn, leTn, ltFn, leFn, wrapI, mid, encR, encS, hp]
        exact hA (pre ++ [x], rest) _ ⟨by simp, by simp [hc, Ne.symm hp], by simp; omega⟩ (by simp) (Shift.slots' rfl (by simp [encR, encS]))
    · have hf : s ∉ (pre ++ x :: rest).take n := by
        have : n = pre.length := by omega
        rw [this, List.take_left]; exact hc
      rw [decide_eq_false hf]
      simp (disch := first | omega | (simp; done) | (simp; omega)) [ltT, ltF, leT, leF, eqT', eqF, ltTn, leTn, ltFn, leFn, wrapI, mid, encR]

end Go.Vm

/- csv: Select. -/
namespace Go.Vm
open Proofs
set_option maxRecDepth 20000
set_option maxHeartbeats 1000000
set_option linter.unusedSimpArgs false

def repFrom : List (List UInt8) → List (List UInt8) → Int
  | _, [] => -1
  | pre, x :: l => if 0 ≤ posS pre x then pre.length else repFrom (pre ++ [x]) l
def pick (r : List (List UInt8)) (k : Int) : List UInt8 := if k < r.length then r.getD k.toNat [] else []
def missFrom (head names : List (List UInt8)) : Int := idxFrom (fun s => decide (posS head s < 0)) 0 names
def selectS (rows : List (List (List UInt8))) (names : List (List UInt8)) : List (List (List UInt8)) × (Int × Int) :=
  if (tabFault rows (-1)).1 ≠ 0 then ([], tabFault rows (-1)) else
  match rows with
  | [] => ([], (10, 0))
  | head :: more =>
    if 0 ≤ repFrom [] head then ([], (8, 1000 + repFrom [] head)) else if names = [] then ([], (10, -2)) else
    if 0 ≤ missFrom head names then ([], (12, 2000 + missFrom head names)) else
    if 1000 < names.length * (more.length + 1) then ([], (14, -3)) else
    ((head :: more).map fun r => names.map fun s => pick r (posS head s), (0, 0))

theorem posS_nonneg {head names : List (List UInt8)} {s : List UInt8} : ∀ {n : Nat}, ¬ 0 ≤ idxFrom (fun s => decide (posS head s < 0)) n names → s ∈ names → 0 ≤ posS head s := by
  induction names with
  | nil => intro n _ h; simp at h
  | cons x l ih =>
    intro n h hs
    rw [idxFrom] at h
    split at h
    · omega
    · rename_i h1
      rcases List.mem_cons.mp hs with rfl | hs
      · simpa using h1
      · exact ih h hs

theorem quo_lt (a n : Nat) : (IntKind.i64.wrap (Int.tdiv 1000 ((n : Int) + 1)) < (a : Int)) = (1000 < a * (n + 1)) := by
  have h1 : Int.tdiv 1000 ((n : Int) + 1) = ((1000 / (n + 1) : Nat) : Int) := by
    have := Int.ofNat_tdiv 1000 (n + 1)
    simpa using this.symm
  have h2 : 1000 / (n + 1) ≤ 1000 := Nat.div_le_self _ _
  have h3 : (1000 / (n + 1) < a) = (1000 < a * (n + 1)) := propext (Nat.div_lt_iff_lt_mul (by omega))
  rw [h1, ← h3]
  generalize 1000 / (n + 1) = q at *
  rw [wrapI (by omega) (by omega)]
  exact propext Int.ofNat_lt
theorem bel_cellsD (e : TypeId) (x : D) (n : Nat) : BlkBel n (.cells e [.d x]) := by
  intro y hy z hz
  rw [List.mem_singleton] at hy
  subst hy
  simp only [AV.cells, List.mem_map] at hz
  obtain ⟨z, _, rfl⟩ := hz
  exact .d _
theorem hok4 {h : List Blk} (hok : HOk h) (e1 e2 : TypeId) (x y : D) (n m : Nat) (t1 t2 : TypeId) : HOk (h ++ [.cells e1 [.d x], .cells e2 [.d y], .tail t1 n, .tail t2 m]) := by
  refine hok.append ?_
  intro z hz
  simp only [List.mem_cons, List.not_mem_nil, or_false] at hz
  rcases hz with rfl | rfl | rfl | rfl
  · exact bel_cellsD _ _ _
  · exact bel_cellsD _ _ _
  · trivial
  · trivial
theorem split_at {α : Type} (x : List α) (k : Nat) (hk : k < x.length) : ∃ a y b, x = a ++ y :: b ∧ a.length = k := by
  refine ⟨x.take k, x[k], x.drop (k + 1), ?_, by simp; omega⟩
  rw [List.getElem_cons_drop, List.take_append_drop]

theorem sub_Rf (b : Nat) (l : List (List UInt8)) (f : List UInt8 → List UInt8) (y : List UInt8) : Sub (.bl b 9 ((l.map fun s => D.str (f s)) ++ [D.str y])) (.d (encR (l.map f ++ [y]))) := by
  have : encR (l.map f ++ [y]) = .sl 9 ((l.map fun s => D.str (f s)) ++ [.str y]) := by simp [encR, encS]
  rw [this]
  exact .bl _ _ _

theorem select_V (rows : List (List (List UInt8))) (names : List (List UInt8)) (hl : rows.length < 2000000) (ht : total rows < 2000000000000) (hn : names.length < 2000000) (h : List Blk) :
    CallP Tryd.prog 21 [.d (.sl 39 (rows.map encR)), .d (encR names)] h (.tup [.d (.sl 39 ((selectS rows names).1.map encR)), .d (encF (selectS rows names).2)]) := by
  refine callW tb_ok fn21 (by simp) (fun hok => ?_)
  simp (disch := first | omega | (simp; done) | (simp; omega)) [ltT, ltF, leT, leF, eqT', eqF, ltTn, leTn, ltFn, leFn, wrapI, mid, c21]
  refine (check_V rows _ hl (by omega) _).useV ?_
  by_cases h1 : (tabFault rows (-1)).1 ≠ 0
  · rw [selectS.eq_def, if_pos h1]
    simp (disch := first | omega | (simp; done) | (simp; omega)) [ltT, ltF, leT, leF, eqT', eqF, ltTn, leTn, ltFn, leFn, wrapI, mid, h1]
    exact RShift.subs ⟨.nil _, .refl _, trivial⟩ (by simp) hok (Nat.le_refl _)
  obtain ⟨hf, hl2, ht2⟩ := tabFault_ok h1
  simp (disch := first | omega | (simp; done) | (simp; omega)) [ltT, ltF, leT, leF, eqT', eqF, ltTn, leTn, ltFn, leFn, wrapI, mid, h1]
  rw [selectS.eq_def, if_neg h1, hf]
  clear h1
  cases rows with
  | nil =>
    simp (disch := first | omega | (simp; done) | (simp; omega)) [ltT, ltF, leT, leF, eqT', eqF, ltTn, leTn, ltFn, leFn, wrapI, mid]
    exact RShift.subs ⟨.nil _, .refl _, trivial⟩ (by simp) hok (Nat.le_refl _)
  | cons head more =>
    simp only [List.length_cons, total] at hl hl2 ht2 ht ⊢
    obtain ⟨rowOf, hro⟩ : ∃ f : List (List UInt8) → List (List UInt8), f = fun r => names.map fun s => pick r (posS head s) := ⟨_, rfl⟩
    obtain ⟨res, hres⟩ : ∃ res, res = (head :: more).map rowOf := ⟨_, rfl⟩
    rw [← hro, ← hres]
    simp (disch := first | omega | (simp; done) | (simp; omega)) [ltT, ltF, leT, leF, eqT', eqF, ltTn, leTn, ltFn, leFn, wrapI, mid, encR]
    refine W_loopA (ι := List (List UInt8) × List (List UInt8)) (fun p => p.1 ++ p.2 = head ∧ repFrom p.1 p.2 = repFrom [] head) (fun p => ⟨[(0, .d (.sl 39 ((head :: more).map encR))), (1, .d (encR names)), (5, .ptr h.length 26 0 0), (7, .d (encR head)), (34, .d (encR head)), (35, .d (.int .i64 head.length)), (36, .d (.int .i64 p.1.length))],
      h ++ [.cells 26 [.d (encF (0, 0))], .cells 26 [.d (encF (0, 0))]]⟩) (fun p => p.2.length) ([], head) ⟨rfl, rfl⟩ (Shift.slots' rfl (by simp [encR])) ?_
    rintro ⟨pre, rest⟩ ⟨hx, hc⟩ A hA
    simp only at hx hc
    subst hx
    cases rest with
    | cons x rest =>
      simp only [List.length_append, List.length_cons] at ht2
      simp (disch := first | omega | (simp; done) | (simp; omega)) [ltT, ltF, leT, leF, eqT', eqF, ltTn, leTn, ltFn, leFn, wrapI, mid, encR, encS]
      refine (contains37_V pre x _ (by omega)).useV ?_
      by_cases h2 : 0 ≤ posS pre x
      · have hr : repFrom [] (pre ++ x :: rest) = pre.length := by rw [← hc, repFrom, if_pos h2]
        have h3 : 0 ≤ repFrom [] (pre ++ x :: rest) := by omega
        simp (disch := first | omega | (simp; done) | (simp; omega)) [ltT, ltF, leT, leF, eqT', eqF, ltTn, leTn, ltFn, leFn, wrapI, mid, h2]
        rw [hr]
        exact RShift.subs ⟨.nil _, .refl _, trivial⟩ (by simp) hok (Nat.le_refl _)
      · rw [repFrom, if_neg h2] at hc
        simp (disch := first | omega | (simp; done) | (simp; omega)) [ltT, ltF, leT, leF, eqT', eqF, ltTn, leTn, ltFn, leFn, wrapI, mid, h2]
        exact hA (pre ++ [x], rest) _ ⟨by simp, by rw [hc]⟩ (by simp) (Shift.slots' rfl (by simp [encR, encS]))
    | nil =>
      clear hA
      simp only [List.append_nil, repFrom] at hc ht2 hres hro ⊢
      have h3 : ¬ 0 ≤ repFrom [] pre := by omega
      simp only [if_neg h3]
      by_cases h4 : names = []
      · subst h4
        simp (disch := first | omega | (simp; done) | (simp; omega)) [ltT, ltF, leT, leF, eqT', eqF, ltTn, leTn, ltFn, leFn, wrapI, mid, encR]
        exact RShift.subs ⟨.nil _, .refl _, trivial⟩ (by simp) hok (Nat.le_refl _)
      have hnl : 0 < names.length := List.length_pos_iff.mpr h4
      rw [if_neg h4]
      simp (disch := first | omega | (simp; done) | (simp; omega)) [ltT, ltF, leT, leF, eqT', eqF, ltTn, leTn, ltFn, leFn, wrapI, mid, encR]
      refine W_loopA (ι := List (List UInt8) × List (List UInt8)) (fun p => p.1 ++ p.2 = names ∧ idxFrom (fun s => decide (posS pre s < 0)) p.1.length p.2 = missFrom pre names) (fun p => ⟨[(0, .d (.sl 39 ((pre :: more).map encR))), (5, .ptr h.length 26 0 0), (7, .d (encR pre)), (54, .d (encR names)), (55, .d (.int .i64 names.length)), (56, .d (.int .i64 p.1.length)), (10, .bl (h.length + 2) 3 (p.1.map fun s => D.int .i64 (posS pre s)))],
        h ++ [.cells 26 [.d (encF (0, 0))], .cells 26 [.d (encF (0, 0))], .tail 3 p.1.length]⟩) (fun p => p.2.length) ([], names) ⟨rfl, rfl⟩ ((Shift.nilbl (i := 10) 3 (by simp)).trans (Shift.slots' (by simp) (by simp [encR]))) ?_
      rintro ⟨pn, rn⟩ ⟨hx, hc2⟩ A2 hA2
      simp only at hx hc2
      subst hx
      cases rn with
      | cons s rn =>
        simp only [List.length_append, List.length_cons] at hn
        simp (disch := first | omega | (simp; done) | (simp; omega)) [ltT, ltF, leT, leF, eqT', eqF, ltTn, leTn, ltFn, leFn, wrapI, mid, encR, encS]
        refine (index38_V pre s _ (by omega)).useV ?_
        by_cases h5 : posS pre s < 0
        · have hr : missFrom pre (pn ++ s :: rn) = pn.length := by rw [← hc2, idxFrom, if_pos (by simpa using h5)]
          have h6 : 0 ≤ missFrom pre (pn ++ s :: rn) := by omega
          simp (disch := first | omega | (simp; done) | (simp; omega)) [ltT, ltF, leT, leF, eqT', eqF, ltTn, leTn, ltFn, leFn, wrapI, mid, h5]
          rw [hr]
          exact RShift.subs ⟨.nil _, .refl _, trivial⟩ (by simp) hok (Nat.le_refl _)
        · rw [idxFrom, if_neg (by simpa using h5)] at hc2
          simp (disch := first | omega | (simp; done) | (simp; omega)) [ltT, ltF, leT, leF, eqT', eqF, ltTn, leTn, ltFn, leFn, wrapI, mid, h5]
          exact hA2 (pn ++ [s], rn) _ ⟨by simp, by simpa using hc2⟩ (by simp) (Shift.slots' (by simp) (by simp [encR, encS]))
      | nil =>
        clear hA2
        simp only [List.append_nil, idxFrom] at hc2 hn hnl h4 hro ⊢
        have h6 : ¬ 0 ≤ missFrom pre pn := by omega
        have hpos : ∀ s ∈ pn, 0 ≤ posS pre s := fun s hs => posS_nonneg h6 hs
        rw [if_neg h6]
        have hq := quo_lt pn.length more.length
        by_cases h7 : 1000 < pn.length * (more.length + 1)
        · rw [if_pos h7]
          simp (disch := first | omega | (simp; done) | (simp; omega)) [ltT, ltF, leT, leF, eqT', eqF, ltTn, leTn, ltFn, leFn, wrapI, mid, hq, h7]
          exact RShift.subs ⟨.nil _, .refl _, trivial⟩ (by simp) hok (Nat.le_refl _)
        rw [if_neg h7]
        obtain ⟨rows, hrows⟩ : ∃ rows, rows = pre :: more := ⟨_, rfl⟩
        have hrl : rows.length = more.length + 1 := by rw [hrows]; simp
        have hrt : total rows ≤ 1000 := by rw [hrows, total]; exact ht2
        rw [← hrows] at hres
        simp (disch := first | omega | (simp; done) | (simp; omega)) [ltT, ltF, leT, leF, eqT', eqF, ltTn, leTn, ltFn, leFn, wrapI, mid, hq, h7]
        refine W_loopA (ι := List (List (List UInt8)) × List (List (List UInt8))) (fun p => p.1 ++ p.2 = rows) (fun p => ⟨[(5, .ptr h.length 26 0 0), (10, .d (.sl 3 (pn.map fun s => D.int .i64 (posS pre s)))), (14, .bl (h.length + 3) 39 ((p.1.map rowOf).map encR)), (81, .d (.sl 39 (rows.map encR))), (82, .d (.int .i64 rows.length)), (83, .d (.int .i64 p.1.length))],
          h ++ [.cells 26 [.d (encF (0, 0))], .cells 26 [.d (encF (0, 0))], .tail 3 pn.length, .tail 39 p.1.length]⟩) (fun p => p.2.length) ([], rows) (by simp) ((Shift.nilbl (i := 14) 39 (by simp)).trans (Shift.slots' (by simp) (by simp [hrows, encR, Sub.bl]))) ?_
        rintro ⟨dr, rr⟩ hx A3 hA3
        simp only at hx
        cases rr with
        | nil =>
          simp only [List.append_nil] at hx
          rw [hres, ← hx]
          have hrl2 : dr.length = more.length + 1 := by rw [hx]; exact hrl
          simp (disch := first | omega | (simp; done) | (simp; omega)) [ltT, ltF, leT, leF, eqT', eqF, ltTn, leTn, ltFn, leFn, wrapI, mid]
          exact RShift.subs ⟨.bl _ _ _, .refl _, trivial⟩ (by simp) hok (Nat.le_refl _)
        | cons x rr =>
          have hxl : x.length ≤ total rows := by rw [← hx, total_app, total]; omega
          have hdl : rows.length = dr.length + (rr.length + 1) := by rw [← hx]; simp
          rw [← hx]
          simp (disch := first | omega | (simp; done) | (simp; omega)) [ltT, ltF, leT, leF, eqT', eqF, ltTn, leTn, ltFn, leFn, wrapI, mid]
          refine W_loopA (ι := List (List UInt8) × List (List UInt8)) (fun p => p.1 ++ p.2 = pn) (fun p => ⟨[(5, .ptr h.length 26 0 0), (10, .d (.sl 3 (pn.map fun s => D.int .i64 (posS pre s)))), (14, .bl (h.length + 3) 39 ((dr.map rowOf).map encR)), (81, .d (.sl 39 (rows.map encR))), (82, .d (.int .i64 rows.length)), (83, .d (.int .i64 dr.length)),
            (16, .d (encR x)), (17, if p.2 = [] then .d (encR (p.1.map fun s => pick x (posS pre s))) else .bl (h.length + 4) 9 (p.1.map fun s => encS (pick x (posS pre s)))), (87, .d (.sl 3 (pn.map fun s => D.int .i64 (posS pre s)))), (88, .d (.int .i64 pn.length)), (89, .d (.int .i64 p.1.length))],
            h ++ [.cells 26 [.d (encF (0, 0))], .cells 26 [.d (encF (0, 0))], .tail 3 pn.length, .tail 39 dr.length, .tail 9 p.1.length]⟩) (fun p => p.2.length) ([], pn) (by simp) ((Shift.nilbl (i := 17) 9 (by simp)).trans (Shift.slots' (by simp) (by simp [← hx, h4]))) ?_
          rintro ⟨dq, rq⟩ hx4 A4 hA4
          simp only at hx4
          have hpl : pn.length = dq.length + rq.length := by rw [← hx4]; simp
          cases rq with
          | nil =>
            simp only [List.append_nil] at hx4
            subst hx4
            simp (disch := first | omega | (simp; done) | (simp; omega)) [ltT, ltF, leT, leF, eqT', eqF, ltTn, leTn, ltFn, leFn, wrapI, mid]
            refine ⟨rfl, ?_⟩
            exact hA3 (dr ++ [x], rr) _ (by simpa using hx) (by simp) (Shift.weak' (g := [.tail 9 dq.length]) (by simp) (hok4 hok _ _ _ _ _ _ _ _) (by simp) (by simp [hro]))
          | cons q rq =>
            have hq0 := hpos q (by rw [← hx4]; simp)
            by_cases h8 : posS pre q < x.length
            · obtain ⟨xa, y, xb, hxx, hxa⟩ := split_at x (posS pre q).toNat (by omega)
              have hk : posS pre q = xa.length := by omega
              have hpk : pick x (posS pre q) = y := by rw [pick, if_pos h8, hk, hxx]; simp
              subst hxx
              rw [hk] at hpk
              rw [← hx4]
              simp (disch := first | omega | (simp; done) | (simp; omega)) [ltT, ltF, leT, leF, eqT', eqF, ltTn, leTn, ltFn, leFn, wrapI, mid, hk, encR, encS]
              by_cases hrq : rq = []
              · exact hA4 (dq ++ [q], rq) _ (by simpa using hx4) (by simp) (Shift.slots' (by simp; simp at hpl; omega) (by simp [hrq, hpk, hk, ← hx4, encR, encS]; exact .bl _ _ _))
              · exact hA4 (dq ++ [q], rq) _ (by simpa using hx4) (by simp) (Shift.slots' (by simp; simp at hpl; omega) (by simp [hrq, hpk, hk, ← hx4, encR, encS]))
            · have hpk : pick x (posS pre q) = [] := by rw [pick, if_neg h8]
              rw [← hx4]
              simp (disch := first | omega | (simp; done) | (simp; omega)) [ltT, ltF, leT, leF, eqT', eqF, ltTn, leTn, ltFn, leFn, wrapI, mid, encR, encS]
              by_cases hrq : rq = []
              · exact hA4 (dq ++ [q], rq) _ (by simpa using hx4) (by simp) (Shift.slots' (by simp; simp at hpl; omega) (by simp [hrq, hpk, ← hx4, encR, encS]; exact .bl _ _ _))
              · exact hA4 (dq ++ [q], rq) _ (by simpa using hx4) (by simp) (Shift.slots' (by simp; simp at hpl; omega) (by simp [hrq, hpk, ← hx4, encR, encS]))

end Go.Vm

/- csv: the example check. -/
namespace Go.Vm
open Proofs
set_option maxRecDepth 20000
set_option maxHeartbeats 1000000
set_option linter.unusedSimpArgs false

theorem ex1 : printS [[[97], [98, 44, 99]], [[49], []]] ⟨44, 34, false, false⟩ = ([97, 44, 34, 98, 44, 99, 34, 10, 49, 44, 10], (0, 0)) := by decide +kernel
theorem ex2 : parseS [97, 44, 34, 98, 44, 99, 34, 13, 10, 49, 44] ⟨44, 34, false, false⟩ = ([[[97], [98, 44, 99]], [[49], []]], (0, 0)) := by decide +kernel
theorem ex3 : selectS [[[97], [98, 44, 99]], [[49], []]] [[98, 44, 99]] = ([[[98, 44, 99]], [[]]], (0, 0)) := by decide +kernel

theorem tabled_V (h : List Blk) : CallP Tryd.prog 17 [] h (.d (.bool true)) := by
  refine callW tb_ok fn17 (by simp) (fun hok => ?_)
  simp (disch := first | omega | (simp; done) | (simp; omega)) [ltT, ltF, leT, leF, eqT', eqF, ltTn, leTn, ltFn, leFn, wrapI, mid, c17]
  refine (comma_V _).useV ?_
  simp (disch := first | omega | (simp; done) | (simp; omega)) [ltT, ltF, leT, leF, eqT', eqF, ltTn, leTn, ltFn, leFn, wrapI, mid]
  refine (print_V [[[97], [98, 44, 99]], [[49], []]] ⟨44, 34, false, false⟩ (by decide) (by decide) (by decide) _).useV ?_
  rw [ex1]
  simp (disch := first | omega | (simp; done) | (simp; omega)) [ltT, ltF, leT, leF, eqT', eqF, ltTn, leTn, ltFn, leFn, wrapI, mid]
  refine (comma_V _).useV ?_
  simp (disch := first | omega | (simp; done) | (simp; omega)) [ltT, ltF, leT, leF, eqT', eqF, ltTn, leTn, ltFn, leFn, wrapI, mid]
  refine (parse_V [97, 44, 34, 98, 44, 99, 34, 13, 10, 49, 44] ⟨44, 34, false, false⟩ (by decide) _).useV ?_
  rw [ex2]
  simp (disch := first | omega | (simp; done) | (simp; omega)) [ltT, ltF, leT, leF, eqT', eqF, ltTn, leTn, ltFn, leFn, wrapI, mid]
  refine (select_V [[[97], [98, 44, 99]], [[49], []]] [[98, 44, 99]] (by decide) (by decide) (by decide) _).useV ?_
  rw [ex3]
  simp (disch := first | omega | (simp; done) | (simp; omega)) [ltT, ltF, leT, leF, eqT', eqF, ltTn, leTn, ltFn, leFn, wrapI, mid]
  refine (sameTable_V [[[97], [98, 44, 99]], [[49], []]] [[[97], [98, 44, 99]], [[49], []]] _ (by decide) (by decide) (by decide) (by decide)).useV ?_
  simp (disch := first | omega | (simp; done) | (simp; omega)) [ltT, ltF, leT, leF, eqT', eqF, ltTn, leTn, ltFn, leFn, wrapI, mid]
  refine (sameTable_V [[[98, 44, 99]], [[]]] [[[98, 44, 99]], [[]]] _ (by decide) (by decide) (by decide) (by decide)).useV ?_
  simp (disch := first | omega | (simp; done) | (simp; omega)) [ltT, ltF, leT, leF, eqT', eqF, ltTn, leTn, ltFn, leFn, wrapI, mid]
  exact rshift_d hok

end Go.Vm

/- csv: the laws of Print, Parse and Select. -/
namespace Go.Vm
open Proofs
set_option maxRecDepth 20000
set_option maxHeartbeats 1000000
set_option linter.unusedSimpArgs false

@[simp high] theorem neq_F (a b : Int × Int) : binAV tb 26 .neq (.d (encF a)) (.d (encF b)) = some (True, .d (.bool (!decide (a = b)))) := by
  have : (a = b) ↔ (a.1 = b.1 ∧ a.2 = b.2) := by cases a; cases b; simp
  simp only [this]
  by_cases h1 : a.1 = b.1 <;> by_cases h2 : a.2 = b.2 <;> simp [-fold_F, encF, eqT, eqFs, h1, h2]
@[simp high] theorem eql_F (a b : Int × Int) : binAV tb 26 .eql (.d (encF a)) (.d (encF b)) = some (True, .d (.bool (decide (a = b)))) := by
  have : (a = b) ↔ (a.1 = b.1 ∧ a.2 = b.2) := by cases a; cases b; simp
  simp only [this]
  by_cases h1 : a.1 = b.1 <;> by_cases h2 : a.2 = b.2 <;> simp [-fold_F, encF, eqT, eqFs, h1, h2]

theorem law3 (rows : List (List (List UInt8))) (d : Dia) (hl : rows.length < 2000000) (ht : total rows < 2000000000000) (hr : ∀ r ∈ rows, ∀ s ∈ r, s.length ≤ 1048576) (h : List Blk) :
    CallP Tryd.prog 3 [.d (.sl 39 (rows.map encR)), .d (encDia d)] h (.d (.bool true)) := by
  refine callW tb_ok fn3 (by simp) (fun hok => ?_)
  simp (disch := first | omega | (simp; done) | (simp; omega)) [ltT, ltF, leT, leF, eqT', eqF, ltTn, leTn, ltFn, leFn, wrapI, mid, c3]
  refine (print_V rows d hl ht hr _).useV ?_
  by_cases h1 : (diaFault d).1 ≠ 0
  · rw [printS, if_pos h1]
    simp (disch := first | omega | (simp; done) | (simp; omega)) [ltT, ltF, leT, leF, eqT', eqF, ltTn, leTn, ltFn, leFn, wrapI, mid]
    refine (diaRef_V d _).useV ?_
    simp (disch := first | omega | (simp; done) | (simp; omega)) [ltT, ltF, leT, leF, eqT', eqF, ltTn, leTn, ltFn, leFn, wrapI, mid]
    refine regV_all ?_
    simp (disch := first | omega | (simp; done) | (simp; omega)) [ltT, ltF, leT, leF, eqT', eqF, ltTn, leTn, ltFn, leFn, wrapI, mid]
    refine (validate_V d _).useV ?_
    simp (disch := first | omega | (simp; done) | (simp; omega)) [ltT, ltF, leT, leF, eqT', eqF, ltTn, leTn, ltFn, leFn, wrapI, mid, h1]
    refine (tabled_V _).useV ?_
    simp (disch := first | omega | (simp; done) | (simp; omega)) [ltT, ltF, leT, leF, eqT', eqF, ltTn, leTn, ltFn, leFn, wrapI, mid]
    exact rshift_d hok
  have hd := diaFault_ok h1
  rw [printS, if_neg h1]
  by_cases h2 : (tabFault rows (-2)).1 ≠ 0
  · rw [if_pos h2]
    simp (disch := first | omega | (simp; done) | (simp; omega)) [ltT, ltF, leT, leF, eqT', eqF, ltTn, leTn, ltFn, leFn, wrapI, mid]
    refine (diaRef_V d _).useV ?_
    rw [hd]
    simp (disch := first | omega | (simp; done) | (simp; omega)) [ltT, ltF, leT, leF, eqT', eqF, ltTn, leTn, ltFn, leFn, wrapI, mid]
    refine regV_all ?_
    simp (disch := first | omega | (simp; done) | (simp; omega)) [ltT, ltF, leT, leF, eqT', eqF, ltTn, leTn, ltFn, leFn, wrapI, mid]
    refine (validate_V d _).useV ?_
    rw [hd]
    simp (disch := first | omega | (simp; done) | (simp; omega)) [ltT, ltF, leT, leF, eqT', eqF, ltTn, leTn, ltFn, leFn, wrapI, mid]
    refine (tableFault_V rows (-2) hl (by omega) _).useV ?_
    simp (disch := first | omega | (simp; done) | (simp; omega)) [ltT, ltF, leT, leF, eqT', eqF, ltTn, leTn, ltFn, leFn, wrapI, mid, h2]
    refine (tabled_V _).useV ?_
    simp (disch := first | omega | (simp; done) | (simp; omega)) [ltT, ltF, leT, leF, eqT', eqF, ltTn, leTn, ltFn, leFn, wrapI, mid]
    exact rshift_d hok
  obtain ⟨hf, hl2, ht2⟩ := tabFault_ok h2
  rw [if_neg h2]
  by_cases h3 : 4000 < (tableText d rows).length
  · rw [if_pos h3]
    simp (disch := first | omega | (simp; done) | (simp; omega)) [ltT, ltF, leT, leF, eqT', eqF, ltTn, leTn, ltFn, leFn, wrapI, mid]
    refine (diaRef_V d _).useV ?_
    rw [hd]
    simp (disch := first | omega | (simp; done) | (simp; omega)) [ltT, ltF, leT, leF, eqT', eqF, ltTn, leTn, ltFn, leFn, wrapI, mid]
    refine regV_all ?_
    simp (disch := first | omega | (simp; done) | (simp; omega)) [ltT, ltF, leT, leF, eqT', eqF, ltTn, leTn, ltFn, leFn, wrapI, mid]
    refine (validate_V d _).useV ?_
    rw [hd]
    simp (disch := first | omega | (simp; done) | (simp; omega)) [ltT, ltF, leT, leF, eqT', eqF, ltTn, leTn, ltFn, leFn, wrapI, mid]
    refine (tableFault_V rows (-2) hl (by omega) _).useV ?_
    rw [hf]
    simp (disch := first | omega | (simp; done) | (simp; omega)) [ltT, ltF, leT, leF, eqT', eqF, ltTn, leTn, ltFn, leFn, wrapI, mid]
    refine (tableText_V rows d hl (by omega) hr _).useV ?_
    simp (disch := first | omega | (simp; done) | (simp; omega)) [ltT, ltF, leT, leF, eqT', eqF, ltTn, leTn, ltFn, leFn, wrapI, mid]
    refine (at_V _ _ _).useV ?_
    simp (disch := first | omega | (simp; done) | (simp; omega)) [ltT, ltF, leT, leF, eqT', eqF, ltTn, leTn, ltFn, leFn, wrapI, mid]
    refine (tabled_V _).useV ?_
    simp (disch := first | omega | (simp; done) | (simp; omega)) [ltT, ltF, leT, leF, eqT', eqF, ltTn, leTn, ltFn, leFn, wrapI, mid]
    exact rshift_d hok
  · rw [if_neg h3]
    simp (disch := first | omega | (simp; done) | (simp; omega)) [ltT, ltF, leT, leF, eqT', eqF, ltTn, leTn, ltFn, leFn, wrapI, mid]
    refine (diaRef_V d _).useV ?_
    rw [hd]
    simp (disch := first | omega | (simp; done) | (simp; omega)) [ltT, ltF, leT, leF, eqT', eqF, ltTn, leTn, ltFn, leFn, wrapI, mid]
    refine regV_all ?_
    simp (disch := first | omega | (simp; done) | (simp; omega)) [ltT, ltF, leT, leF, eqT', eqF, ltTn, leTn, ltFn, leFn, wrapI, mid]
    refine (validate_V d _).useV ?_
    rw [hd]
    simp (disch := first | omega | (simp; done) | (simp; omega)) [ltT, ltF, leT, leF, eqT', eqF, ltTn, leTn, ltFn, leFn, wrapI, mid]
    refine (tableFault_V rows (-2) hl (by omega) _).useV ?_
    rw [hf]
    simp (disch := first | omega | (simp; done) | (simp; omega)) [ltT, ltF, leT, leF, eqT', eqF, ltTn, leTn, ltFn, leFn, wrapI, mid]
    refine (tableText_V rows d hl (by omega) hr _).useV ?_
    simp (disch := first | omega | (simp; done) | (simp; omega)) [ltT, ltF, leT, leF, eqT', eqF, ltTn, leTn, ltFn, leFn, wrapI, mid]
    refine (tabled_V _).useV ?_
    simp (disch := first | omega | (simp; done) | (simp; omega)) [ltT, ltF, leT, leF, eqT', eqF, ltTn, leTn, ltFn, leFn, wrapI, mid]
    exact rshift_d hok

end Go.Vm
