/- date: the parts of the reader: a byte, a number, a name, a note. -/
import Derived.Test.YtjjpkeajlgbleaaDoorDt12
namespace Go.Vm
open Proofs
set_option maxRecDepth 20000
set_option maxHeartbeats 1000000
set_option linter.unusedSimpArgs false

abbrev Fd := List (UInt8 × Int)
def encFd (fd : Fd) : List (D × AV) := fd.map fun p => (.int .u8 (p.1.toNat : Int), .d (.int .i64 p.2))
def fdGet : Fd → UInt8 → Option Int
  | [], _ => none
  | p :: r, c => if c = p.1 then some p.2 else fdGet r c
def fdPut : Fd → UInt8 → Int → Fd
  | [], c, n => [(c, n)]
  | p :: r, c, n => if c = p.1 then (c, n) :: r else p :: fdPut r c n

theorem mapFind_fd : ∀ (fd : Fd) (c : UInt8), mapFind (.int .u8 (c.toNat : Int)) (encFd fd) = some ((fdGet fd c).map fun n => .d (.int .i64 n))
  | [], c => rfl
  | p :: r, c => by
    have ih := mapFind_fd r c
    simp only [encFd, List.map_cons, mapFind, keyEq, if_true, fdGet] at ih ⊢
    by_cases e : c = p.1
    · simp [e]
    · simp [e, u8_inj, ih]
theorem mapPut_fd : ∀ (fd : Fd) (c : UInt8) (n : Int), mapPut (.int .u8 (c.toNat : Int)) (.d (.int .i64 n)) (encFd fd) = some (encFd (fdPut fd c n))
  | [], c, n => rfl
  | p :: r, c, n => by
    have ih := mapPut_fd r c n
    simp only [encFd, List.map_cons, mapPut, keyEq, if_true, fdPut] at ih ⊢
    by_cases e : c = p.1
    · simp [e]
    · simp [e, u8_inj, ih]

/-- The reader's block: the text, where it is, what is found, and whether two numbers differed. -/
def rdK (text : List UInt8) (k : Int) (mb : Nat) (cf : Bool) : Blk := .cells 89 [.agg [.d (.str text), .d (.int .i64 k), .map mb, .d (.bool cf)]]

theorem rdK_bel {text : List UInt8} {k : Int} {mb : Nat} {cf : Bool} {n : Nat} (h : mb < n) : BlkBel n (rdK text k mb cf) := by
  intro x hx y hy
  simp only [List.mem_singleton] at hx
  subst hx
  simp only [AV.cells, List.mem_cons, List.not_mem_nil, or_false] at hy
  rcases hy with rfl | rfl | rfl | rfl <;> first | exact .d _ | exact .map h

def byteS (c : UInt8) : List UInt8 → Bool × List UInt8
  | [] => (false, [])
  | e :: l => if e = c then (true, l) else (false, e :: l)

theorem rbyte_V {r mb : Nat} {cf : Bool} {pre rest : List UInt8} {c : UInt8} {h : List Blk} (hb : h[r]? = some (rdK (pre ++ rest) pre.length mb cf)) (hm : mb < h.length) (hs : (pre ++ rest).length ≤ 1048576) :
    CallW Tryd.prog 62 [.ptr r 89 0 0, .d (.int .u8 (c.toNat : Int))] h fun x h' => x = .d (.bool (byteS c rest).1) ∧ h' = h.set r (rdK (pre ++ rest) ((pre ++ rest).length - (byteS c rest).2.length : Nat) mb cf) := by
  refine callW tb_ok fn62 (by simp) (fun hok => ?_)
  have hbl := (List.getElem?_eq_some_iff.mp hb).1
  have hb' := (List.getElem?_eq_some_iff.mp hb).2
  have hsame : h = h.set r (rdK (pre ++ rest) pre.length mb cf) := by rw [← hb']; exact (List.set_getElem_self hbl).symm
  cases rest with
  | nil =>
    simp (disch := first | omega | (simp; done) | (simp; omega)) [ltT, ltF, leT, leF, eqT', eqF, ltTn, leTn, ltFn, leFn, wrapI, mid, c62, hb', hbl, rdK, byteS]
    exact rshift_same' (by simpa [rdK] using hsame) (by simp)
  | cons e l =>
    simp only [List.length_append, List.length_cons] at hs
    by_cases h1 : e = c
    · simp (disch := first | omega | (simp; done) | (simp; omega)) [ltT, ltF, leT, leF, eqT', eqF, ltTn, leTn, ltFn, leFn, wrapI, mid, c62, hb', hbl, rdK, byteS, u8_inj, eq_true h1]
      rw [show pre.length + (l.length + 1) - l.length = pre.length + 1 from by omega]
      exact rshift_same' rfl (by simp)
    · simp (disch := first | omega | (simp; done) | (simp; omega)) [ltT, ltF, leT, leF, eqT', eqF, ltTn, leTn, ltFn, leFn, wrapI, mid, c62, hb', hbl, rdK, byteS, u8_inj, eq_false h1]
      exact rshift_same' hsame (by simp)

theorem wrapU8 {n : Int} (h1 : 0 ≤ n) (h2 : n < 256) : IntKind.u8.wrap n = n := by
  simp [IntKind.wrap, IntKind.bits, IntKind.signed]
  omega

theorem u8_98 (c : UInt8) : ((c.toNat : Int) = 98) = (c = 98) := u8_inj c 98

def noteS (fd : Fd) (cf : Bool) (c : UInt8) (n : Int) : Fd × Bool :=
  let c := if c = 98 then 109 else c
  (fdPut fd c n, match fdGet fd c with | some o => if o = n then cf else true | none => cf)

theorem rnote_V {r mb : Nat} {cf : Bool} {text : List UInt8} {k : Int} {fd : Fd} {c : UInt8} {n : Int} {h : List Blk} (hb : h[r]? = some (rdK text k mb cf)) (hm : h[mb]? = some (.map (encFd fd))) (hne : r ≠ mb) :
    CallW Tryd.prog 92 [.ptr r 89 0 0, .d (.int .u8 (c.toNat : Int)), .d (.int .i64 n)] h fun x h' => x = .tup [] ∧ h' = (h.set r (rdK text k mb (noteS fd cf c n).2)).set mb (.map (encFd (noteS fd cf c n).1)) := by
  refine callW tb_ok fn92 (by simp) (fun hok => ?_)
  have hbl := (List.getElem?_eq_some_iff.mp hb).1
  have hb' := (List.getElem?_eq_some_iff.mp hb).2
  have hml := (List.getElem?_eq_some_iff.mp hm).1
  have hm' := (List.getElem?_eq_some_iff.mp hm).2
  have hsame : h = h.set r (rdK text k mb cf) := by rw [← hb']; exact (List.set_getElem_self hbl).symm
  have f109 : ∀ fd : Fd, mapFind (.int .u8 109) (encFd fd) = some ((fdGet fd 109).map fun n => .d (.int .i64 n)) := fun fd => mapFind_fd fd 109
  have p109 : ∀ (fd : Fd) (n : Int), mapPut (.int .u8 109) (.d (.int .i64 n)) (encFd fd) = some (encFd (fdPut fd 109 n)) := fun fd => mapPut_fd fd 109
  have hmr : ∀ x, (h.set r x)[mb]? = some (.map (encFd fd)) := fun x => by rw [List.getElem?_set_ne hne]; exact hm
  have hset : h.set r (.cells 89 [.agg [.d (.str text), .d (.int .i64 k), .map mb, .d (.bool cf)]]) = h := hsame.symm
  by_cases h98 : c = 98
  · subst h98
    cases hf : fdGet fd 109 with
    | none =>
      simp (disch := first | omega | (simp; done) | (simp; omega)) [ltT, ltF, leT, leF, eqT', eqF, ltTn, leTn, ltFn, leFn, wrapI, mid, c92, hb', hbl, hm, hml, hm', rdK, f109, p109, hf, noteS]
      exact rshift_same' (by rw [hset]) (by simp)
    | some o =>
      by_cases ho : o = n
      · simp (disch := first | omega | (simp; done) | (simp; omega)) [ltT, ltF, leT, leF, eqT', eqF, ltTn, leTn, ltFn, leFn, wrapI, mid, c92, hb', hbl, hm, hml, hm', rdK, f109, p109, hf, noteS, eq_true ho]
        exact rshift_same' (by rw [hset]) (by simp)
      · simp (disch := first | omega | (simp; done) | (simp; omega)) [ltT, ltF, leT, leF, eqT', eqF, ltTn, leTn, ltFn, leFn, wrapI, mid, c92, hb', hbl, hm, hml, hm', rdK, f109, p109, hf, noteS, eq_false ho]
        exact rshift_same' rfl (by simp)
  · cases hf : fdGet fd c with
    | none =>
      simp (disch := first | omega | (simp; done) | (simp; omega)) [ltT, ltF, leT, leF, eqT', eqF, ltTn, leTn, ltFn, leFn, wrapI, mid, c92, hb', hbl, hm, hml, hm', rdK, mapFind_fd, mapPut_fd, hf, noteS, u8_98, eq_false h98]
      exact rshift_same' (by rw [hset]) (by simp)
    | some o =>
      by_cases ho : o = n
      · simp (disch := first | omega | (simp; done) | (simp; omega)) [ltT, ltF, leT, leF, eqT', eqF, ltTn, leTn, ltFn, leFn, wrapI, mid, c92, hb', hbl, hm, hml, hm', rdK, mapFind_fd, mapPut_fd, hf, noteS, eq_true ho, u8_98, eq_false h98]
        exact rshift_same' (by rw [hset]) (by simp)
      · simp (disch := first | omega | (simp; done) | (simp; omega)) [ltT, ltF, leT, leF, eqT', eqF, ltTn, leTn, ltFn, leFn, wrapI, mid, c92, hb', hbl, hm, hml, hm', rdK, mapFind_fd, mapPut_fd, hf, noteS, eq_false ho, u8_98, eq_false h98]
        exact rshift_same' rfl (by simp)

/-- A number of w digits, or how far it goes. -/
def numS : Nat → Int → List UInt8 → (Int × Bool) × List UInt8
  | 0, n, l => ((n, true), l)
  | _ + 1, _, [] => ((0, false), [])
  | w + 1, n, e :: l => if 48 ≤ (e.toNat : Int) ∧ (e.toNat : Int) ≤ 57 then numS w (10 * n + (e.toNat - 48)) l else ((0, false), e :: l)

theorem rnum_V {r mb w : Nat} {cf : Bool} {pre rest text : List UInt8} {h : List Blk} (hp : pre ++ rest = text) (hb : h[r]? = some (rdK text pre.length mb cf)) (hm : mb < h.length) (hs : text.length ≤ 1048576) (hw : w ≤ 4) :
    CallW Tryd.prog 91 [.ptr r 89 0 0, .d (.int .i64 w)] h fun x h' => x = .tup [.d (.int .i64 (numS w 0 rest).1.1), .d (.bool (numS w 0 rest).1.2)] ∧ h' = h.set r (rdK text (text.length - (numS w 0 rest).2.length : Nat) mb cf) := by
  refine callW tb_ok fn91 (by simp) (fun hok => ?_)
  have hbl := (List.getElem?_eq_some_iff.mp hb).1
  have hb' := (List.getElem?_eq_some_iff.mp hb).2
  have hsame : h = h.set r (rdK text pre.length mb cf) := by rw [← hb']; exact (List.set_getElem_self hbl).symm
  simp (disch := first | omega | (simp; done) | (simp; omega)) [ltT, ltF, leT, leF, eqT', eqF, ltTn, leTn, ltFn, leFn, wrapI, mid, c91]
  refine W_loopA (ι := List UInt8 × List UInt8 × Nat × Int) (fun p => p.1 ++ p.2.1 = text ∧ p.2.2.1 ≤ w ∧ 0 ≤ p.2.2.2 ∧ p.2.2.2 < 10 ^ p.2.2.1 ∧ numS (w - p.2.2.1) p.2.2.2 p.2.1 = numS w 0 rest)
    (fun p => ⟨[(0, .ptr r 89 0 0), (6, .d (.int .i64 p.2.2.2)), (7, .d (.int .i64 w)), (8, .d (.int .i64 p.2.2.1))], h.set r (rdK text p.1.length mb cf)⟩) (fun p => w - p.2.2.1) (pre, rest, 0, 0)
    ⟨hp, by simp, by simp, by simp, by simp⟩ (Shift.slots' hsame (by simp)) ?_
  rintro ⟨P, l, j, n⟩ ⟨hx, hj, hn0, hn1, hn⟩ A hA
  simp only at hx hj hn0 hn1 hn
  have hpw : (10 : Int) ^ j ≤ 10 ^ 4 := by
    have : (10 : Nat) ^ j ≤ 10 ^ 4 := Nat.pow_le_pow_right (by decide) (by omega)
    exact_mod_cast this
  have hpw1 : (10 : Int) ^ (j + 1) = 10 * 10 ^ j := by rw [Int.pow_succ]; omega
  clear hb hb' hsame hp
  subst hx
  by_cases hjw : j < w
  · obtain ⟨q, hq⟩ : ∃ q, w - j = q + 1 := ⟨w - j - 1, by omega⟩
    rw [hq] at hn
    cases l with
    | nil =>
      simp only [numS] at hn
      simp (disch := first | omega | (simp; done) | (simp; omega)) [ltT, ltF, leT, leF, eqT', eqF, ltTn, leTn, ltFn, leFn, wrapI, mid, rdK, hbl]
      rw [← hn]
      exact rshift_same' rfl (by simp)
    | cons e l =>
      simp only [List.length_append, List.length_cons] at hs
      simp only [numS] at hn
      by_cases h1 : (48 : Int) ≤ e.toNat
      · by_cases h2 : (e.toNat : Int) ≤ 57
        · rw [if_pos ⟨h1, h2⟩] at hn
          simp (disch := first | omega | (simp; done) | (simp; omega)) [ltT, ltF, leT, leF, eqT', eqF, ltTn, leTn, ltFn, leFn, wrapI, mid, rdK, hbl, wrapU8]
          exact hA (P ++ [e], l, j + 1, 10 * n + (e.toNat - 48)) _ ⟨by simp, by show j + 1 ≤ w; omega, by show 0 ≤ 10 * n + ((e.toNat : Int) - 48); omega, by show 10 * n + ((e.toNat : Int) - 48) < 10 ^ (j + 1); rw [hpw1]; omega, by show numS (w - (j + 1)) _ l = _; rw [← hn, show w - (j + 1) = q from by omega]⟩ (by simp only; omega) (Shift.slots' (by simp [rdK]) (by simp))
        · rw [if_neg (by omega)] at hn
          simp (disch := first | omega | (simp; done) | (simp; omega)) [ltT, ltF, leT, leF, eqT', eqF, ltTn, leTn, ltFn, leFn, wrapI, mid, rdK, hbl]
          rw [← hn]
          exact rshift_same' (by simp) (by simp)
      · rw [if_neg (by omega)] at hn
        simp (disch := first | omega | (simp; done) | (simp; omega)) [ltT, ltF, leT, leF, eqT', eqF, ltTn, leTn, ltFn, leFn, wrapI, mid, rdK, hbl]
        rw [← hn]
        exact rshift_same' (by simp) (by simp)
  · rw [show w - j = 0 from by omega] at hn
    simp only [numS] at hn
    simp (disch := first | omega | (simp; done) | (simp; omega)) [ltT, ltF, leT, leF, eqT', eqF, ltTn, leTn, ltFn, leFn, wrapI, mid, rdK, hbl]
    rw [← hn]
    exact rshift_same' (by simp) (by simp)

/-- One of some names, or nothing. -/
def nameS : List (List UInt8) → Int → List UInt8 → (Int × Bool) × List UInt8
  | [], _, l => ((0, false), l)
  | s :: ns, i, l => if s.isPrefixOf l then ((i + 1, true), l.drop s.length) else nameS ns (i + 1) l

theorem rname_V {r mb : Nat} {cf : Bool} {pre rest text : List UInt8} {names : List (List UInt8)} {h : List Blk} (hp : pre ++ rest = text) (hb : h[r]? = some (rdK text pre.length mb cf)) (hm : mb < h.length) (hs : text.length ≤ 1048576) (hn : names.length ≤ 1000) :
    CallW Tryd.prog 90 [.ptr r 89 0 0, .d (.sl 9 (names.map encS))] h fun x h' => x = .tup [.d (.int .i64 (nameS names 0 rest).1.1), .d (.bool (nameS names 0 rest).1.2)] ∧ h' = h.set r (rdK text (text.length - (nameS names 0 rest).2.length : Nat) mb cf) := by
  refine callW tb_ok fn90 (by simp) (fun hok => ?_)
  have hbl := (List.getElem?_eq_some_iff.mp hb).1
  have hb' := (List.getElem?_eq_some_iff.mp hb).2
  have hsame : h = h.set r (rdK text pre.length mb cf) := by rw [← hb']; exact (List.set_getElem_self hbl).symm
  simp (disch := first | omega | (simp; done) | (simp; omega)) [ltT, ltF, leT, leF, eqT', eqF, ltTn, leTn, ltFn, leFn, wrapI, mid, c90]
  refine W_loopA (ι := List (List UInt8) × List (List UInt8)) (fun p => p.1 ++ p.2 = names ∧ nameS p.2 p.1.length rest = nameS names 0 rest)
    (fun p => ⟨[(0, .ptr r 89 0 0), (8, .d (.sl 9 (names.map encS))), (9, .d (.int .i64 names.length)), (10, .d (.int .i64 p.1.length))], h⟩) (fun p => p.2.length) ([], names)
    ⟨rfl, rfl⟩ (Shift.slots' rfl (by simp)) ?_
  rintro ⟨P, l⟩ ⟨hx, hc⟩ A hA
  simp only at hx hc
  subst hx
  cases l with
  | nil =>
    simp only [nameS] at hc
    rw [← hc, show text.length - rest.length = pre.length from by rw [← hp]; simp]
    simp (disch := first | omega | (simp; done) | (simp; omega)) [ltT, ltF, leT, leF, eqT', eqF, ltTn, leTn, ltFn, leFn, wrapI, mid]
    exact rshift_same' hsame (by simp)
  | cons e l =>
    simp only [List.length_append, List.length_cons] at hn
    simp only [nameS] at hc
    have hdrop : text.drop pre.length = rest := by rw [← hp]; simp
    have htl : text.length = pre.length + rest.length := by rw [← hp]; simp
    simp (disch := first | omega | (simp; done) | (simp; omega)) [ltT, ltF, leT, leF, eqT', eqF, ltTn, leTn, ltFn, leFn, wrapI, mid, hb', hbl, rdK]
    rw [hdrop]
    refine (hasPrefix_V rest e _).useV ?_
    by_cases hpf : e.isPrefixOf rest = true
    · rw [if_pos hpf] at hc
      rw [← hc]
      have hel : e.length ≤ rest.length := (List.isPrefixOf_iff_prefix.mp hpf).length_le
      simp (disch := first | omega | (simp; done) | (simp; omega)) [ltT, ltF, leT, leF, eqT', eqF, ltTn, leTn, ltFn, leFn, wrapI, mid, hb', hbl, rdK, hpf, encS]
      rw [show text.length - (rest.length - e.length) = pre.length + e.length from by omega]
      exact rshift_same' (by simp) (by simp)
    · rw [if_neg hpf] at hc
      have hpf' : e.isPrefixOf rest = false := Bool.eq_false_iff.mpr hpf
      simp (disch := first | omega | (simp; done) | (simp; omega)) [ltT, ltF, leT, leF, eqT', eqF, ltTn, leTn, ltFn, leFn, wrapI, mid, hb', hbl, rdK, hpf', encS]
      exact hA (P ++ [e], l) _ ⟨by simp, by rw [← hc]; simp⟩ (by simp) (Shift.slots' rfl (by simp [encS]))

end Go.Vm
