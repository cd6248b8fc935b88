/- csv: the reader's cell and row. -/
import Derived.Test.YtggeifnbllfmbaaDoorCs5
namespace Go.Vm
open Proofs
set_option maxRecDepth 20000
set_option maxHeartbeats 1000000
set_option linter.unusedSimpArgs false
set_option pp.deepTerms true

@[simp] theorem midN_app (a b c : List UInt8) : List.drop a.length (List.take (a.length + b.length) (a ++ (b ++ c))) = b := by
  have : a ++ (b ++ c) = (a ++ b) ++ c := by simp
  rw [this, ← List.length_append, List.take_left, List.drop_left]

def plainS (d : Dia) : List UInt8 → List UInt8 × List UInt8 × Bool
  | [] => ([], [], true)
  | c :: l => if endsS d (c :: l) = true then ([], c :: l, true) else if c = d.quote then ([], c :: l, false) else
    match plainS d l with
    | (s, r, true) => (c :: s, r, true)
    | (_, r, false) => ([], r, false)
def accP (acc : List UInt8) (o : List UInt8 × List UInt8 × Bool) : List UInt8 × List UInt8 × Bool := if o.2.2 = true then (acc ++ o.1, o.2) else ([], o.2)
def cellS (d : Dia) : List UInt8 → List UInt8 × List UInt8 × Bool
  | [] => ([], [], true)
  | c :: l => if c = d.quote then quotedR d l else plainS d (c :: l)

theorem plainS_nil (d : Dia) : ∀ l, (plainS d l).2.2 = false → (plainS d l).1 = []
  | [], h => by simp [plainS] at h
  | c :: l, h => by
    unfold plainS at h ⊢
    split <;> simp_all
    split <;> simp_all
    split <;> simp_all
theorem accP_nil (d : Dia) (l : List UInt8) : accP [] (plainS d l) = plainS d l := by
  unfold accP
  split
  · simp
  · rename_i h
    have := plainS_nil d l (by simpa using h)
    rw [← this]
theorem accP_step (d : Dia) (acc : List UInt8) (c : UInt8) (l : List UInt8) (h1 : endsS d (c :: l) = false) (h2 : c ≠ d.quote) : accP acc (plainS d (c :: l)) = accP (acc ++ [c]) (plainS d l) := by
  rw [plainS, if_neg (by simp [h1]), if_neg h2]
  rcases plainS d l with ⟨s, r, b⟩
  cases b <;> simp [accP]

theorem cell47_V {b : Nat} {d : Dia} {pre rest text : List UInt8} {h : List Blk} (hp : pre ++ rest = text) (hb : h[b]? = some (rdB d text pre.length)) (hs : text.length ≤ 1048576) :
    CallW Tryd.prog 47 [.ptr b 69 0 0] h fun x h' => x = .tup [.d (.str (cellS d rest).1), .d (.bool (cellS d rest).2.2)] ∧ h' = h.set b (rdB d text (text.length - (cellS d rest).2.1.length : Nat)) := by
  refine callW tb_ok fn47 (by simp) (fun hok => ?_)
  have hbl := (List.getElem?_eq_some_iff.mp hb).1
  have hb' := (List.getElem?_eq_some_iff.mp hb).2
  by_cases hq : ∃ l, rest = d.quote :: l
  · obtain ⟨l, rfl⟩ := hq
    have hs' := hs
    rw [← hp] at hs
    have hb2 : h[b] = rdB d (pre ++ d.quote :: l) pre.length := by rw [hb', hp]
    simp only [List.length_append, List.length_cons] at hs
    simp (disch := first | omega | (simp; done) | (simp; omega)) [ltT, ltF, leT, leF, eqT', eqF, ltTn, leTn, ltFn, leFn, wrapI, mid, c47, hb2, hbl, rdB]
    refine callV_of (quoted_V (b := b) (d := d) (pre := pre) (c := d.quote) (body := l) hp hb hs') ?_
    rintro _ _ ⟨rfl, rfl⟩
    simp (disch := first | omega | (simp; done) | (simp; omega)) [ltT, ltF, leT, leF, eqT', eqF, ltTn, leTn, ltFn, leFn, wrapI, mid, cellS]
    exact rshift_same' (by simp [rdB]) (by simp)
  · have hsame : h = h.set b (rdB d text pre.length) := by rw [← hb']; exact (List.set_getElem_self hbl).symm
    have hcell : cellS d rest = plainS d rest := by
      cases rest with
      | nil => rfl
      | cons c l => rw [cellS, if_neg (fun e => hq ⟨l, by rw [e]⟩)]
    have hlen0 : text.length = pre.length + rest.length := by rw [← hp]; simp
    rw [hcell]
    obtain ⟨R, hR⟩ : ∃ R, R = rest := ⟨_, rfl⟩
    obtain ⟨res, hres⟩ : ∃ res, plainS d rest = res := ⟨_, rfl⟩
    rw [hres]
    have hpR : pre ++ R = text := by rw [hR]; exact hp
    rw [← hR] at hres
    have hb2 : h[b] = rdB d (pre ++ rest) pre.length := by rw [hb', hp]
    have hcq : ∀ c l, rest = c :: l → ¬ c = d.quote := fun c l h1 h2 => hq ⟨l, by rw [h1, h2]⟩
    clear hcell hq
    rcases rest with _ | ⟨c, l⟩
    · simp only [List.length_nil] at hlen0
      simp (disch := first | omega | (simp; done) | (simp; omega)) [ltT, ltF, leT, leF, eqT', eqF, ltTn, leTn, ltFn, leFn, wrapI, mid, c47, hb2, hbl, rdB]
      clear hb' hb2 hlen0 hcq
      refine W_loopA (ι := List UInt8 × List UInt8) (fun p => p.1 ++ p.2 = R ∧ accP p.1 (plainS d p.2) = res) (fun p => ⟨[(0, .ptr b 69 0 0), (4, .d (.int .i64 pre.length))],
        h.set b (rdB d text ((pre.length : Int) + p.1.length))⟩) (fun p => p.2.length) ([], R) ⟨rfl, by rw [← hres]; exact accP_nil d R⟩ (Shift.slots' (by simpa using hsame) (by simp)) ?_
      clear hsame hR hp hb
      rintro ⟨acc, rest⟩ ⟨hx, hc⟩ A hA
      simp only at hx hc
      subst hx
      have hp2 : (pre ++ acc) ++ rest = text := by simpa using hpR
      have hlen : text.length = pre.length + (acc.length + rest.length) := by rw [← hpR]; simp
      simp (disch := first | omega | (simp; done) | (simp; omega)) [ltT, ltF, leT, leF, eqT', eqF, ltTn, leTn, ltFn, leFn, wrapI, mid]
      refine (ends_V (b := b) (d := d) (pre := pre ++ acc) (rest := rest) (h := h.set b (rdB d text ((pre.length : Int) + acc.length))) (by rw [hp2]; simp [rdB, hbl]) (by rw [hp2]; omega)).useV ?_
      cases he : endsS d rest with
      | true =>
        have hf : res = (acc, rest, true) := by
          rw [← hc]
          cases rest with
          | nil => simp [plainS, accP]
          | cons c l => simp [plainS, he, accP]
        have e1 : text.length - rest.length = pre.length + acc.length := by omega
        have e3 : List.drop pre.length (List.take ((pre.length : Int) + acc.length).toNat text) = acc := by
          have : ((pre.length : Int) + acc.length).toNat = pre.length + acc.length := by omega
          rw [this, ← hpR]; simp
        simp (disch := first | omega | (simp; done) | (simp; omega)) [ltT, ltF, leT, leF, eqT', eqF, ltTn, leTn, ltFn, leFn, wrapI, mid, rdB, hbl, hf, e1, e3]
        exact rshift_same' rfl (by simp)
      | false =>
        cases rest with
        | nil => simp [endsS] at he
        | cons e l2 =>
          have e1 : byteAt text (pre.length + acc.length) = (e.toNat : Int) := by have := byteAt_app (pre ++ acc) l2 e; rw [hp2] at this; simpa using this
          simp only [List.length_cons] at hlen
          have e0 : ((pre.length : Int) + acc.length).toNat = pre.length + acc.length := by omega
          by_cases h2 : e = d.quote
          · have hf : res = ([], e :: l2, false) := by rw [← hc, plainS, if_neg (by simp [he]), if_pos h2]; simp [accP]
            have e2 : text.length - (l2.length + 1) = pre.length + acc.length := by omega
            simp (disch := first | omega | (simp; done) | (simp; omega)) [ltT, ltF, leT, leF, eqT', eqF, ltTn, leTn, ltFn, leFn, wrapI, mid, rdB, hbl, hf, e0, e1, e2, u8_inj, eq_true h2]
            exact rshift_same' rfl (by simp)
          · rw [accP_step d acc e l2 he h2] at hc
            simp (disch := first | omega | (simp; done) | (simp; omega)) [ltT, ltF, leT, leF, eqT', eqF, ltTn, leTn, ltFn, leFn, wrapI, mid, rdB, hbl, e0, e1, u8_inj, eq_false h2]
            exact hA (acc ++ [e], l2) _ ⟨by simp, hc⟩ (by simp) (Shift.slots' (by simp [rdB, Int.add_assoc]) (by simp))
    · have hcq := hcq c l rfl
      simp only [List.length_cons] at hlen0
      simp (disch := first | omega | (simp; done) | (simp; omega)) [ltT, ltF, leT, leF, eqT', eqF, ltTn, leTn, ltFn, leFn, wrapI, mid, c47, hb2, hbl, rdB, u8_inj, eq_false hcq]
      clear hb' hb2 hlen0 hcq
      refine W_loopA (ι := List UInt8 × List UInt8) (fun p => p.1 ++ p.2 = R ∧ accP p.1 (plainS d p.2) = res) (fun p => ⟨[(0, .ptr b 69 0 0), (4, .d (.int .i64 pre.length))],
        h.set b (rdB d text ((pre.length : Int) + p.1.length))⟩) (fun p => p.2.length) ([], R) ⟨rfl, by rw [← hres]; exact accP_nil d R⟩ (Shift.slots' (by simpa using hsame) (by simp)) ?_
      clear hsame hR hp hb
      rintro ⟨acc, rest⟩ ⟨hx, hc⟩ A hA
      simp only at hx hc
      subst hx
      have hp2 : (pre ++ acc) ++ rest = text := by simpa using hpR
      have hlen : text.length = pre.length + (acc.length + rest.length) := by rw [← hpR]; simp
      simp (disch := first | omega | (simp; done) | (simp; omega)) [ltT, ltF, leT, leF, eqT', eqF, ltTn, leTn, ltFn, leFn, wrapI, mid]
      refine (ends_V (b := b) (d := d) (pre := pre ++ acc) (rest := rest) (h := h.set b (rdB d text ((pre.length : Int) + acc.length))) (by rw [hp2]; simp [rdB, hbl]) (by rw [hp2]; omega)).useV ?_
      cases he : endsS d rest with
      | true =>
        have hf : res = (acc, rest, true) := by
          rw [← hc]
          cases rest with
          | nil => simp [plainS, accP]
          | cons c l => simp [plainS, he, accP]
        have e1 : text.length - rest.length = pre.length + acc.length := by omega
        have e3 : List.drop pre.length (List.take ((pre.length : Int) + acc.length).toNat text) = acc := by
          have : ((pre.length : Int) + acc.length).toNat = pre.length + acc.length := by omega
          rw [this, ← hpR]; simp
        simp (disch := first | omega | (simp; done) | (simp; omega)) [ltT, ltF, leT, leF, eqT', eqF, ltTn, leTn, ltFn, leFn, wrapI, mid, rdB, hbl, hf, e1, e3]
        exact rshift_same' rfl (by simp)
      | false =>
        cases rest with
        | nil => simp [endsS] at he
        | cons e l2 =>
          have e1 : byteAt text (pre.length + acc.length) = (e.toNat : Int) := by have := byteAt_app (pre ++ acc) l2 e; rw [hp2] at this; simpa using this
          simp only [List.length_cons] at hlen
          have e0 : ((pre.length : Int) + acc.length).toNat = pre.length + acc.length := by omega
          by_cases h2 : e = d.quote
          · have hf : res = ([], e :: l2, false) := by rw [← hc, plainS, if_neg (by simp [he]), if_pos h2]; simp [accP]
            have e2 : text.length - (l2.length + 1) = pre.length + acc.length := by omega
            simp (disch := first | omega | (simp; done) | (simp; omega)) [ltT, ltF, leT, leF, eqT', eqF, ltTn, leTn, ltFn, leFn, wrapI, mid, rdB, hbl, hf, e0, e1, e2, u8_inj, eq_true h2]
            exact rshift_same' rfl (by simp)
          · rw [accP_step d acc e l2 he h2] at hc
            simp (disch := first | omega | (simp; done) | (simp; omega)) [ltT, ltF, leT, leF, eqT', eqF, ltTn, leTn, ltFn, leFn, wrapI, mid, rdB, hbl, e0, e1, u8_inj, eq_false h2]
            exact hA (acc ++ [e], l2) _ ⟨by simp, hc⟩ (by simp) (Shift.slots' (by simp [rdB, Int.add_assoc]) (by simp))

theorem quotedR_suffix (d : Dia) (l : List UInt8) : ∃ p, p ++ (quotedR d l).2.1 = l := by
  unfold quotedR
  cases h : quotedS d.quote l with
  | none => exact ⟨l, by simp⟩
  | some x => obtain ⟨s, r⟩ := x; exact quotedS_suffix d.quote _ l s r (Nat.le_refl _) h
theorem plainS_suffix (d : Dia) : ∀ l, ∃ p, p ++ (plainS d l).2.1 = l
  | [] => ⟨[], rfl⟩
  | c :: l => by
    obtain ⟨p, hp⟩ := plainS_suffix d l
    rw [plainS]
    split
    · exact ⟨[], rfl⟩
    · split
      · exact ⟨[], rfl⟩
      · rcases h : plainS d l with ⟨s, r, b⟩
        rw [h] at hp
        cases b <;> exact ⟨c :: p, by simpa using hp⟩
theorem cellS_suffix (d : Dia) : ∀ l, ∃ p, p ++ (cellS d l).2.1 = l
  | [] => ⟨[], rfl⟩
  | c :: l => by
    rw [cellS]
    split
    · obtain ⟨p, hp⟩ := quotedR_suffix d l
      exact ⟨c :: p, by simpa using hp⟩
    · exact plainS_suffix d (c :: l)

/-- Behind the last cell of a row. -/
def rowEnd : List UInt8 → List UInt8 × Bool
  | [] => ([], true)
  | c :: l => if c = 13 then (match l with
      | [] => ([], false)
      | e :: l2 => if e = 10 then (l2, true) else (e :: l2, false)) else (l, true)
def rowS : Nat → Dia → List UInt8 → List (List UInt8) × List UInt8 × Bool
  | 0, _, rest => ([], rest, false)
  | n + 1, d, rest =>
    match cellS d rest with
    | (_, r, false) => ([], r, false)
    | (s, r, true) =>
      match r with
      | [] => ([s], [], true)
      | c :: l => if c = d.sep then (match rowS n d l with
          | (t, r2, true) => (s :: t, r2, true)
          | (_, r2, false) => ([], r2, false)) else (match rowEnd (c :: l) with
          | (r2, true) => ([s], r2, true)
          | (r2, false) => ([], r2, false))
def accRow (acc : List (List UInt8)) (o : List (List UInt8) × List UInt8 × Bool) : List (List UInt8) × List UInt8 × Bool := if o.2.2 = true then (acc ++ o.1, o.2) else ([], o.2)
def rowV (o : List (List UInt8) × List UInt8 × Bool) : D := if o.2.2 = true then encR o.1 else .nilsl

theorem rshift_set' {P : Program} {H h g : List Blk} {b : Nat} {X : Blk} {v x : AV} (hok : HOk h) (hX : BlkBel h.length X) (hv : Bel h.length x) (hsub : Subs v x) (e : H = h.set b X ++ g) : RShift P h.length v H x (h.set b X) := by
  subst e
  exact RShift.subs hsub (by rw [List.length_set]; exact hv) (hok.set hX) (by simp)
theorem rowS_nil (d : Dia) : ∀ (n : Nat) (l : List UInt8), (rowS n d l).2.2 = false → (rowS n d l).1 = []
  | 0, _, _ => rfl
  | n + 1, l, h => by
    rw [rowS] at h ⊢
    rcases hc : cellS d l with ⟨s, r, ok⟩
    rw [hc] at h
    cases ok with
    | false => rfl
    | true =>
      cases r with
      | nil => simp at h
      | cons c l =>
        by_cases h1 : c = d.sep
        · simp only [if_pos h1] at h ⊢
          rcases hr : rowS n d l with ⟨t, r2, ok2⟩
          rw [hr] at h
          cases ok2 <;> simp at h ⊢
        · simp only [if_neg h1] at h ⊢
          rcases hr : rowEnd (c :: l) with ⟨r2, ok2⟩
          rw [hr] at h
          cases ok2 <;> simp at h ⊢

theorem sub_R (b : Nat) (acc : List (List UInt8)) (s : List UInt8) : Sub (.bl b 9 (acc.map encS ++ [.str s])) (.d (encR (acc ++ [s]))) := by
  have : encR (acc ++ [s]) = .sl 9 (acc.map encS ++ [.str s]) := by simp [encR, encS]
  rw [this]
  exact .bl _ _ _

theorem row_V {b : Nat} {d : Dia} {pre rest text : List UInt8} {h : List Blk} (hp : pre ++ rest = text) (hb : h[b]? = some (rdB d text pre.length)) (hs : text.length ≤ 1048576) (n : Nat) (hn : rest.length < n) :
    CallW Tryd.prog 35 [.ptr b 69 0 0] h fun x h' => x = .tup [.d (rowV (rowS n d rest)), .d (.bool (rowS n d rest).2.2)] ∧ h' = h.set b (rdB d text (text.length - (rowS n d rest).2.1.length : Nat)) := by
  refine callW tb_ok fn35 (by simp) (fun hok => ?_)
  have hbl := (List.getElem?_eq_some_iff.mp hb).1
  have hb' := (List.getElem?_eq_some_iff.mp hb).2
  have hsame : h = h.set b (rdB d text pre.length) := by rw [← hb']; exact (List.set_getElem_self hbl).symm
  obtain ⟨res, hres⟩ : ∃ res, rowS n d rest = res := ⟨_, rfl⟩
  rw [hres]
  simp (disch := first | omega | (simp; done) | (simp; omega)) [ltT, ltF, leT, leF, eqT', eqF, ltTn, leTn, ltFn, leFn, wrapI, mid, c35]
  refine W_loopA (ι := List (List UInt8) × List UInt8 × List UInt8 × Nat) (fun p => p.2.1 ++ p.2.2.1 = text ∧ accRow p.1 (rowS p.2.2.2 d p.2.2.1) = res ∧ p.2.2.1.length < p.2.2.2 ∧ p.1.length ≤ p.2.1.length) (fun p => ⟨[(0, .ptr b 69 0 0), (4, .bl h.length 9 (p.1.map encS))],
    h.set b (rdB d text p.2.1.length) ++ [.tail 9 p.1.length]⟩) (fun p => p.2.2.1.length) ([], pre, rest, n) ⟨hp, ?_, hn, by simp⟩ ((Shift.nilbl (i := 4) 9 (by simp)).trans (Shift.slots' (by simpa using hsame) (by simp))) ?_
  · simp only [accRow, ← hres]
    split
    · simp
    · rename_i h1
      have := rowS_nil d n rest (by simpa using h1)
      rw [← this]
  clear hsame hres hb' hb hp hn
  rintro ⟨acc, P, rest, n⟩ ⟨hx, hc, hn, ha⟩ A hA
  simp only at hx hc hn ha
  have hlen : text.length = P.length + rest.length := by rw [← hx]; simp
  obtain ⟨n, rfl⟩ : ∃ m, n = m + 1 := ⟨n - 1, by omega⟩
  simp (disch := first | omega | (simp; done) | (simp; omega)) [ltT, ltF, leT, leF, eqT', eqF, ltTn, leTn, ltFn, leFn, wrapI, mid]
  refine callV_of (cell47_V (b := b) (d := d) (pre := P) (rest := rest) (h := h.set b (rdB d text P.length) ++ [.tail 9 acc.length]) hx (by simp [rdB, hbl, List.getElem?_append_left]) hs) ?_
  rintro _ _ ⟨rfl, rfl⟩
  obtain ⟨p, hp⟩ := cellS_suffix d rest
  rw [rowS] at hc
  rcases hcell : cellS d rest with ⟨s, r, ok⟩
  rw [hcell] at hc hp
  simp only at hc hp
  have hx2 : (P ++ p) ++ r = text := by rw [List.append_assoc, hp]; exact hx
  have hlen2 : text.length = P.length + p.length + r.length := by rw [← hx2]; simp [Nat.add_assoc]
  cases ok with
  | false =>
    simp only [accRow] at hc
    simp (disch := first | omega | (simp; done) | (simp; omega)) [ltT, ltF, leT, leF, eqT', eqF, ltTn, leTn, ltFn, leFn, wrapI, mid, hbl, ← hc, rowV]
    exact rshift_set hok (rdB_bel d _ _ _) (by simp) rfl
  | true =>
    cases r with
    | nil =>
      simp only [accRow] at hc
      simp (disch := first | omega | (simp; done) | (simp; omega)) [ltT, ltF, leT, leF, eqT', eqF, ltTn, leTn, ltFn, leFn, wrapI, mid, hbl, ← hc, rdB, rowV]
      exact rshift_set' hok (rdB_bel d text _ _) (by simp) ⟨sub_R _ _ _, .refl _, trivial⟩ rfl
    | cons c l =>
      obtain ⟨K, hK⟩ : ∃ K, K = P.length + p.length := ⟨_, rfl⟩
      simp only [List.length_cons] at hlen2
      have e1 : text.length - (l.length + 1) = K := by omega
      have b1 : byteAt text K = (c.toNat : Int) := by have := byteAt_app (P ++ p) l c; rw [hx2] at this; rw [hK]; simpa using this
      by_cases h1 : c = d.sep
      · simp only [if_pos h1] at hc
        simp (disch := first | omega | (simp; done) | (simp; omega)) [ltT, ltF, leT, leF, eqT', eqF, ltTn, leTn, ltFn, leFn, wrapI, mid, hbl, rdB, e1, b1, u8_inj, eq_true h1]
        have hc' : accRow (acc ++ [s]) (rowS n d l) = res := by
          rw [← hc]
          rcases rowS n d l with ⟨t, r2, ok2⟩
          cases ok2 <;> simp [accRow]
        have hl1 : l.length < rest.length := by omega
        exact hA (acc ++ [s], P ++ p ++ [c], l, n) _ ⟨by simpa using hx2, hc', by simp; omega, by simp; omega⟩ (by simp; omega) (Shift.slots' (by simp [rdB, hK, Int.add_assoc]) (by simp [encS]))
      · simp only [if_neg h1] at hc
        by_cases h2 : c = 13
        · cases l with
          | nil =>
            simp only [List.length_nil] at hlen2
            have e2 : text.length = K + 1 := by omega
            simp [rowEnd, h2, accRow] at hc
            simp (disch := first | omega | (simp; done) | (simp; omega)) [ltT, ltF, leT, leF, eqT', eqF, ltTn, leTn, ltFn, leFn, wrapI, mid, hbl, rdB, e2, b1, u8_inj, u8_13, u8_10, eq_false h1, eq_true h2, ← hc, rowV]
            exact rshift_set hok (rdB_bel d text _ _) (by simp) rfl
          | cons e l2 =>
            have b2 : byteAt text (K + 1) = (e.toNat : Int) := by have := byteAt_app1 (P ++ p) l2 c e; rw [hx2] at this; rw [hK]; simpa using this
            simp only [List.length_cons] at hlen2 e1
            by_cases h3 : e = 10
            · have e2 : text.length - l2.length = K + 2 := by omega
              simp [rowEnd, h2, h3, accRow] at hc
              simp (disch := first | omega | (simp; done) | (simp; omega)) [ltT, ltF, leT, leF, eqT', eqF, ltTn, leTn, ltFn, leFn, wrapI, mid, hbl, rdB, e1, e2, b1, b2, u8_inj, u8_13, u8_10, eq_false h1, eq_true h2, eq_true h3, ← hc, rowV]
              exact rshift_set' hok (rdB_bel d text _ _) (by simp) ⟨sub_R _ _ _, .refl _, trivial⟩ rfl
            · have e2 : text.length - (l2.length + 1) = K + 1 := by omega
              simp [rowEnd, h2, h3, accRow] at hc
              simp (disch := first | omega | (simp; done) | (simp; omega)) [ltT, ltF, leT, leF, eqT', eqF, ltTn, leTn, ltFn, leFn, wrapI, mid, hbl, rdB, e1, e2, b1, b2, u8_inj, u8_13, u8_10, eq_false h1, eq_true h2, eq_false h3, ← hc, rowV]
              exact rshift_set hok (rdB_bel d text _ _) (by simp) rfl
        · have e2 : text.length - l.length = K + 1 := by omega
          simp [rowEnd, h2, accRow] at hc
          simp (disch := first | omega | (simp; done) | (simp; omega)) [ltT, ltF, leT, leF, eqT', eqF, ltTn, leTn, ltFn, leFn, wrapI, mid, hbl, rdB, e1, e2, b1, u8_inj, u8_13, u8_10, eq_false h1, eq_false h2, ← hc, rowV]
          exact rshift_set' hok (rdB_bel d text _ _) (by simp) ⟨sub_R _ _ _, .refl _, trivial⟩ rfl

end Go.Vm
