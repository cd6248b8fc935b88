/- The references: At, In, Ahead, EntryFault, Entry, First, Without. -/
import Derived.Test.YtfoigidddlboaaaHq5
namespace Go.Vm
open Proofs
set_option maxRecDepth 10000
set_option maxHeartbeats 1000000
set_option linter.unusedSimpArgs false

theorem at_V (a b : Int) (h : List Blk) : CallP Try.prog 22 [.d (.int .i64 a), .d (.int .i64 b)] h (.d (encF (a, b))) := by
  refine callW tb_ok fn22 (by simp) (fun hok => ?_)
  simp [c22]
  exact rshift_d hok

theorem in_V (a b c : Int) (h : List Blk) : CallP Try.prog 25 [.d (.int .i64 a), .d (.int .i64 b), .d (.int .i64 c)] h (.d (.bool (decide (b ≤ a ∧ a ≤ c)))) := by
  refine callW tb_ok fn25 (by simp) (fun hok => ?_)
  by_cases h1 : b ≤ a <;> simp [c25, h1]

theorem entryFault_V (e : Ent) (h : List Blk) : CallP Try.prog 29 [.d (encE e)] h (.d (.int .i64 (entFault e))) := by
  refine callW tb_ok fn29 (by simp) (fun hok => ?_)
  by_cases h1 : e.name = []
  · simp [c29, entFault, h1, rshift_d hok]
  · by_cases h2 : 24 < e.name.length
    · have h2' : (24 : Int) < e.name.length := by omega
      simp [c29, entFault, h1, h2, h2', rshift_d hok]
    · have h2' : ¬ (24 : Int) < e.name.length := by omega
      simp [c29, h1, h2, h2']
      refine (in_V _ _ _ _).useV ?_
      by_cases h3 : -1000000 ≤ e.rank ∧ e.rank ≤ 1000000
      · simp [h3, entFault, h1, h2, rshift_d hok]
      · simp [h3, entFault, h1, h2, rshift_d hok]

def aheadB (a b : Ent) : Bool := decide (a.rank < b.rank) || (decide (a.rank = b.rank) && Op.bytesLess a.name b.name)
theorem ahead_V (a b : Ent) (h : List Blk) : CallP Try.prog 27 [.d (encE a), .d (encE b)] h (.d (.bool (aheadB a b))) := by
  refine callW tb_ok fn27 (by simp) (fun hok => ?_)
  by_cases h1 : a.rank < b.rank
  · simp [c27, h1, aheadB]
    exact rshift_d hok
  · by_cases h2 : a.rank = b.rank
    · simp [c27, h1, h2, aheadB]
      exact rshift_d hok
    · simp [c27, h1, h2, aheadB]
      exact rshift_d hok

def entryFrom (name : List UInt8) : Nat → List Ent → Int
  | _, [] => -1
  | i, e :: r => if e.name = name then i else entryFrom name (i + 1) r

theorem entryIdx_V (l : List Ent) (name : List UInt8) (hl : l.length < 1000000000) (h : List Blk) : CallP Try.prog 30 [.d (.sl 40 (l.map encE)), .d (.str name)] h (.d (.int .i64 (entryFrom name 0 l))) := by
  refine callW tb_ok fn30 (by simp) (fun hok => ?_)
  simp [c30]
  refine W_loop (ι := List Ent × List Ent) (fun p => p.1 ++ p.2 = l ∧ entryFrom name p.1.length p.2 = entryFrom name 0 l) (fun p => ⟨[(0, .d (.sl 40 (l.map encE))), (1, .d (.str name)), (5, .d (.int .i64 p.1.length))], h⟩) (fun p => p.2.length) ([], l) (by simp) (Shift.slots' rfl (by simp [look])) ?_
  rintro ⟨pre, rest⟩ ⟨hx, hc⟩
  simp only at hx hc
  subst hx
  cases rest with
  | nil =>
    simp only [entryFrom, List.append_nil] at hc
    simp [← hc]
  | cons x rest =>
    have h1 : (pre.length : Int) < pre.length + (rest.length + 1) := by omega
    simp only [List.length_append, List.length_cons] at hl
    have hw : IntKind.i64.wrap ((pre.length : Int) + 1) = pre.length + 1 := wrap_ok (by omega) (by omega)
    by_cases hn : x.name = name
    · have hr : entryFrom name 0 (pre ++ x :: rest) = pre.length := by rw [← hc, entryFrom, if_pos hn]
      simp [h1, mid, hw, hn, hr]
    · simp [h1, mid, hw, hn]
      refine ⟨pre ++ [x], rest, ⟨by simp, ?_⟩, Shift.slots' rfl (by simp), by omega⟩
      rw [← hc, entryFrom, if_neg hn]
      simp

def firstFrom : Nat → Nat → Ent → List Ent → Nat
  | _, k, _, [] => k
  | i, k, b, e :: r => if aheadB e b then firstFrom (i + 1) i e r else firstFrom (i + 1) k b r
def firstE : List Ent → Nat
  | [] => 0
  | x :: r => firstFrom 1 0 x r

theorem first_V (l : List Ent) (hl : l.length < 1000000000) (h : List Blk) : CallP Try.prog 23 [.d (.sl 40 (l.map encE))] h (.d (.int .i64 (firstE l))) := by
  refine callW tb_ok fn23 (by simp) (fun hok => ?_)
  simp [c23]
  cases l with
  | nil =>
    refine W_loop (ι := Unit) (fun _ => True) (fun _ => ⟨[(0, .d (.sl 40 [])), (3, .d (.int .i64 0)), (4, .d (.int .i64 1))], h⟩) (fun _ => 0) () trivial (Shift.slots' rfl (by simp [look])) ?_
    rintro _ _
    simp [firstE]
  | cons x0 l0 =>
    refine W_loop (ι := List Ent × List Ent × Nat × Ent) (fun p => p.1 ++ p.2.1 = x0 :: l0 ∧ firstFrom p.1.length p.2.2.1 p.2.2.2 p.2.1 = firstE (x0 :: l0) ∧ p.1[p.2.2.1]? = some p.2.2.2)
      (fun p => ⟨[(0, .d (.sl 40 ((x0 :: l0).map encE))), (3, .d (.int .i64 p.2.2.1)), (4, .d (.int .i64 p.1.length))], h⟩) (fun p => p.2.1.length) ([x0], l0, 0, x0) ⟨rfl, rfl, rfl⟩ (Shift.slots' rfl (by simp [look])) ?_
    rintro ⟨pre, rest, k, y⟩ ⟨hx, hc, hy⟩
    simp only at hx hc hy
    rw [← hx] at hl hc ⊢
    cases rest with
    | nil =>
      simp only [firstFrom, List.append_nil] at hc
      simp [← hc]
    | cons x rest =>
      have h1 : (pre.length : Int) < pre.length + (rest.length + 1) := by omega
      simp only [List.length_append, List.length_cons] at hl
      have hw : IntKind.i64.wrap ((pre.length : Int) + 1) = pre.length + 1 := wrap_ok (by omega) (by omega)
      have hk := (List.getElem?_eq_some_iff.mp hy).1
      have hk' : (k : Int) < pre.length + (rest.length + 1) := by omega
      simp [h1, mid, hw, hk', half_get hy]
      refine (ahead_V x y _).useV ?_
      by_cases ha : aheadB x y = true
      · simp [ha, hw]
        refine ⟨pre ++ [x], rest, pre.length, ⟨by simp, x, ?_, by simp⟩, Shift.slots' rfl (by simp), by omega⟩
        rw [← hc, firstFrom, if_pos ha]
        simp
      · have ha' : aheadB x y = false := by simpa using ha
        simp [ha', hw]
        refine ⟨pre ++ [x], rest, k, ⟨by simp, y, ?_, by rw [List.getElem?_append_left hk]; exact hy⟩, Shift.slots' rfl (by simp), by omega⟩
        rw [← hc, firstFrom, if_neg ha]
        simp

theorem withoutRef_V (l : List Ent) (k : Nat) (hk : k < l.length) (hl : l.length < 1000000000) (h : List Blk) : CallP Try.prog 24 [.d (.sl 40 (l.map encE)), .d (.int .i64 k)] h (.d (.sl 40 ((l.eraseIdx k).map encE))) := by
  refine callW tb_ok fn24 (by simp) (fun hok => ?_)
  have hw : IntKind.i64.wrap ((k : Int) + 1) = ((k + 1 : Nat) : Int) := by rw [wrap_ok (by omega) (by omega)]; rfl
  have h1 : (k : Int) ≤ l.length := by omega
  have h2 : ((k + 1 : Nat) : Int) ≤ l.length := by omega
  simp [c24, hw, h1, h2]
  refine ⟨⟨by omega, by omega⟩, by omega, by omega, ?_⟩
  have e : List.take k (List.map encE l) ++ List.drop (k + 1) (List.take l.length (List.map encE l)) = (l.eraseIdx k).map encE := by
    rw [show List.take l.length (List.map encE l) = List.map encE l from List.take_of_length_le (by simp), List.eraseIdx_eq_take_drop_succ, List.map_append, List.map_take, List.map_drop]
  rw [e]
  exact rshift_subs (.bl _ _ _) (.d _) hok

def sortedF : Nat → List Ent → List Ent
  | 0, _ => []
  | n + 1, l => l.getD (firstE l) default :: sortedF n (l.eraseIdx (firstE l))
def sortedE (l : List Ent) : List Ent := sortedF l.length l

theorem firstFrom_lt : ∀ (r : List Ent) (i k : Nat) (b : Ent), k < i → firstFrom i k b r < i + r.length
  | [], i, k, b, h => by simpa [firstFrom] using h
  | e :: r, i, k, b, h => by
    simp only [firstFrom]
    split
    · have := firstFrom_lt r (i + 1) i e (by omega); simp only [List.length_cons]; omega
    · have := firstFrom_lt r (i + 1) k b (by omega); simp only [List.length_cons]; omega
theorem firstE_lt {l : List Ent} (h : l ≠ []) : firstE l < l.length := by
  cases l with
  | nil => exact absurd rfl h
  | cons x r => have := firstFrom_lt r 1 0 x (by omega); simp only [firstE, List.length_cons]; omega

theorem sorted_V (l : List Ent) (hl : l.length < 2000000) (h : List Blk) : CallP Try.prog 21 [.d (.sl 40 (l.map encE))] h (.d (.sl 40 ((sortedE l).map encE))) := by
  refine callW tb_ok fn21 (by simp) (fun hok => ?_)
  simp [c21]
  refine W_loop (ι := List Ent × List Ent) (fun p => p.2 ++ sortedF p.1.length p.1 = sortedE l ∧ p.2.length + p.1.length = l.length) (fun p => ⟨[(0, .d (.sl 40 (p.1.map encE))), (3, .bl h.length 40 (p.2.map encE))], h ++ [.tail 40 p.2.length]⟩) (fun p => p.1.length) (l, []) ⟨rfl, by simp⟩
    ((Shift.nilbl (i := 3) 40 (by simp)).trans (Shift.slots' (by simp) (by simp))) ?_
  rintro ⟨l', acc⟩ ⟨hR, hlen⟩
  simp only at hR hlen
  by_cases he : l' = []
  · subst he
    simp only [sortedF, List.length_nil, List.append_nil] at hR
    simp [← hR]
    exact rshift_subs (.bl _ _ _) (.d _) hok
  · have hpos : 0 < l'.length := List.length_pos_iff.mpr he
    have hpos' : (0 : Int) < l'.length := by omega
    have hlt := firstE_lt he
    obtain ⟨k, hk⟩ : ∃ k, k = firstE l' := ⟨_, rfl⟩
    rw [← hk] at hlt
    have hlt' : (k : Int) < l'.length := by omega
    obtain ⟨y, hy⟩ : ∃ y, l'[k]? = some y := ⟨_, List.getElem?_eq_getElem hlt⟩
    have hfit : (acc.length + 1) * 24 ≤ 140737488355328 := by omega
    simp [hpos, hpos']
    refine (first_V l' (by omega) _).useV ?_
    simp [← hk, hlt', hy, hfit]
    refine (withoutRef_V l' k hlt (by omega) _).useV ?_
    simp
    have hel : (l'.eraseIdx k).length + 1 = l'.length := by rw [List.length_eraseIdx]; simp [hlt]; omega
    refine ⟨l'.eraseIdx k, acc ++ [y], ⟨?_, by simp; omega⟩, Shift.slots' (by simp) (by simp), by omega⟩
    rw [← hR, ← hel]
    simp only [sortedF, ← hk, getD_of hy, List.append_assoc, List.singleton_append]

@[simp high] theorem neq_E (a b : Ent) : binAV tb 40 .neq (.d (encE a)) (.d (encE b)) = some (True, .d (.bool (!decide (a = b)))) := by
  have : (a = b) ↔ (a.name = b.name ∧ a.rank = b.rank) := by cases a; cases b; simp
  simp only [this]
  by_cases h1 : a.name = b.name <;> by_cases h2 : a.rank = b.rank <;> simp [-fold_E, encE, eqT, eqFs, h1, h2]

theorem entries_V (a b : List Ent) (ha : a.length < 1000000000) (h : List Blk) : CallP Try.prog 20 [.d (.sl 40 (a.map encE)), .d (.sl 40 (b.map encE))] h (.d (.bool (decide (a = b)))) := by
  refine callW tb_ok fn20 (by simp) (fun hok => ?_)
  by_cases hlen : a.length = b.length
  · simp [c20, hlen]
    refine W_loop (ι := List Ent × List Ent × List Ent) (fun p => p.1 ++ p.2.1 = a ∧ p.1 ++ p.2.2 = b) (fun p => ⟨[(0, .d (.sl 40 (a.map encE))), (1, .d (.sl 40 (b.map encE))), (5, .d (.int .i64 p.1.length))], h⟩) (fun p => p.2.1.length) ([], a, b) ⟨rfl, rfl⟩ (Shift.slots' rfl (by simp [look])) ?_
    rintro ⟨pre, r1, r2⟩ ⟨hx, hy⟩
    simp only at hx hy
    subst hx; subst hy
    simp only [List.length_append] at hlen ha
    cases r1 with
    | nil =>
      have : r2 = [] := List.eq_nil_of_length_eq_zero (by simp only [List.length_nil] at hlen; omega)
      subst this
      simp
    | cons x r1 =>
      cases r2 with
      | nil => simp at hlen
      | cons y r2 =>
        simp only [List.length_cons] at hlen ha
        have h1 : (pre.length : Int) < pre.length + (r1.length + 1) := by omega
        have h2 : (pre.length : Int) < pre.length + (r2.length + 1) := by omega
        have hw : IntKind.i64.wrap ((pre.length : Int) + 1) = pre.length + 1 := wrap_ok (by omega) (by omega)
        by_cases hxy : x = y
        · subst hxy
          simp [h1, h2, mid, hw]
          exact ⟨pre ++ [x], r1, ⟨by simp, r2, by simp⟩, Shift.slots' rfl (by simp), by omega⟩
        · simp [h1, h2, mid, hw, hxy]
  · have hne : a ≠ b := fun e => hlen (by rw [e])
    have hlen' : ¬ (a.length : Int) = b.length := by omega
    simp [c20, hlen, hlen', hne]

/-- The code at a position, as the reference has it. -/
def rcodeAt (order : Bool) (l pre : List Ent) (e : Ent) : Int :=
  let c := if entFault e = 0 ∧ entryFrom e.name 0 l < pre.length then 8 else entFault e
  if c = 0 ∧ order = true ∧ pre ≠ [] ∧ aheadB e (pre.getD ((pre.length - 1) / 2) default) = true then 11 else c
def rchkFrom (order : Bool) (l : List Ent) : List Ent → List Ent → Int × Int
  | _, [] => (0, 0)
  | pre, e :: rest => if rcodeAt order l pre e ≠ 0 then (rcodeAt order l pre e, pre.length) else rchkFrom order l (pre ++ [e]) rest
def rchk (order : Bool) (l : List Ent) : Int × Int := if 200 < l.length then (2, -1) else rchkFrom order l [] l

theorem queueFault_V (l : List Ent) (order : Bool) (h : List Blk) : CallP Try.prog 11 [.d (.sl 40 (l.map encE)), .d (.bool order)] h (.d (encF (rchk order l))) := by
  refine callW tb_ok fn11 (by simp) (fun hok => ?_)
  by_cases hl : 200 < l.length
  · have hl' : (200 : Int) < l.length := by omega
    simp [c11, hl']
    refine (at_V _ _ _).useV ?_
    simp [rchk, hl]
    exact rshift_d hok
  have hl' : ¬ (200 : Int) < l.length := by omega
  simp [c11, hl']
  refine W_loop (ι := List Ent × List Ent) (fun p => p.1 ++ p.2 = l ∧ rchkFrom order l p.1 p.2 = rchkFrom order l [] l) (fun p => ⟨[(0, .d (.sl 40 (l.map encE))), (1, .d (.bool order)), (4, .ptr h.length 24 0 0), (5, .d (.int .i64 p.1.length))],
    h ++ [.cells 24 [.d (encF (0, 0))]]⟩) (fun p => p.2.length) ([], l) (by simp) (Shift.slots' (by simp) (by simp)) ?_
  rintro ⟨pre, rest⟩ ⟨hx, hc⟩
  simp only at hx hc
  have hchk : rchk order l = rchkFrom order l [] l := by unfold rchk; rw [if_neg hl]
  cases rest with
  | nil =>
    simp only [List.append_nil] at hx
    subst hx
    simp only [rchkFrom] at hc
    simp
    refine (at_V _ _ _).useV ?_
    simp [hchk, ← hc]
    exact rshift_d hok
  | cons x rest =>
    have hll : l.length = pre.length + (rest.length + 1) := by rw [← hx]; simp
    have hmid : (l.map encE)[pre.length]? = some (encE x) := by rw [← hx]; simp
    have hmid2 : l[pre.length]? = some x := by rw [← hx]; simp
    have h1 : (pre.length : Int) < l.length := by omega
    have hw : IntKind.i64.wrap ((pre.length : Int) + 1) = pre.length + 1 := wrap_ok (by omega) (by omega)
    have hstop : ∀ c, rcodeAt order l pre x = c → c ≠ 0 → rchk order l = (c, (pre.length : Int)) := by
      intro c h2 h3
      rw [hchk, ← hc, rchkFrom, h2, if_pos h3]
    have hgo : rcodeAt order l pre x = 0 → rchkFrom order l (pre ++ [x]) rest = rchkFrom order l [] l := by
      intro h2
      rw [← hc, rchkFrom, if_neg (by simp [h2])]
    simp [h1, hmid2]
    refine (entryFault_V _ _).useV ?_
    by_cases he : entFault x = 0
    · simp [he, h1, hmid2]
      refine (entryIdx_V l x.name (by omega) _).useV ?_
      by_cases hrep : entryFrom x.name 0 l < pre.length
      · have hcode : rcodeAt order l pre x = 8 := by simp [rcodeAt, he, hrep]
        simp [he, hrep]
        refine (at_V _ _ _).useV ?_
        simp [hstop _ hcode (by decide)]
        exact rshift_d hok
      · cases order with
        | false =>
          have hcode : rcodeAt false l pre x = 0 := by simp [rcodeAt, he, hrep]
          simp [he, hrep, hw]
          exact ⟨pre ++ [x], rest, ⟨by simp [hx], hgo hcode⟩, Shift.slots' rfl (by simp), by omega⟩
        | true =>
          by_cases hp : pre = []
          · subst hp
            have hcode : rcodeAt true l [] x = 0 := by
              simp at hrep
              simp [rcodeAt, he, hrep]
            have hw1 : IntKind.i64.wrap 1 = 1 := wrap_ok (by omega) (by omega)
            simp at hrep
            simp [he, hrep, hw, hw1]
            exact ⟨[x], rest, ⟨by simpa using hx, hgo hcode⟩, Shift.slots' rfl (by simp), by omega⟩
          · have h0 : 0 < pre.length := List.length_pos_iff.mpr hp
            have h0' : (0 : Int) < pre.length := by omega
            obtain ⟨k, hk⟩ : ∃ k, k = (pre.length - 1) / 2 := ⟨_, rfl⟩
            have hkl : k < pre.length := by omega
            have hwt : IntKind.i64.wrap ((IntKind.i64.wrap ((pre.length : Int) - 1)).tdiv 2) = (k : Int) := by
              rw [wrap_ok (n := (pre.length : Int) - 1) (by omega) (by omega), show (pre.length : Int) - 1 = ((pre.length - 1 : Nat) : Int) from by omega]
              show IntKind.i64.wrap (((pre.length - 1) / 2 : Nat) : Int) = _
              rw [wrap_ok (by omega) (by omega), hk]
            have hlt : (k : Int) < l.length := by omega
            obtain ⟨y, hy⟩ : ∃ y, pre[k]? = some y := ⟨_, List.getElem?_eq_getElem hkl⟩
            have hly : l[k]? = some y := by rw [← hx, List.getElem?_append_left hkl]; exact hy
            have hgy : pre.getD ((pre.length - 1) / 2) default = y := by rw [← hk, List.getD, hy]; rfl
            simp [he, hrep, hp, h0, h0', h1, hmid2, hwt, hlt, hly]
            refine (ahead_V _ y _).useV ?_
            by_cases ha : aheadB x y = true
            · have hcode : rcodeAt true l pre x = 11 := by simp only [rcodeAt, hgy]; simp [he, hrep, hp, ha]
              simp [ha]
              refine (at_V _ _ _).useV ?_
              simp [hstop _ hcode (by decide)]
              exact rshift_d hok
            · have ha' : aheadB x y = false := by simpa using ha
              have hcode : rcodeAt true l pre x = 0 := by simp only [rcodeAt, hgy]; simp [he, hrep, hp, ha']
              simp [ha', hw]
              exact ⟨pre ++ [x], rest, ⟨by simp [hx], hgo hcode⟩, Shift.slots' rfl (by simp), by omega⟩
    · have hcode : rcodeAt order l pre x = entFault x := by simp [rcodeAt, he]
      simp [he]
      refine (at_V _ _ _).useV ?_
      simp [hstop _ hcode he]
      exact rshift_d hok

def queueB (q l : List Ent) : Bool := decide ((rchk true q).1 = 0) && decide (sortedE q = sortedE l)
theorem sortedE_length (l : List Ent) : (sortedE l).length = l.length := by
  have : ∀ (n : Nat) (l : List Ent), (sortedF n l).length = n := by
    intro n
    induction n with
    | zero => intro l; rfl
    | succ n ih => intro l; simp [sortedF, ih]
  exact this _ _
theorem queue_V (q l : List Ent) (hl : l.length < 2000000) (h : List Blk) : CallP Try.prog 14 [.d (.sl 40 (q.map encE)), .d (.sl 40 (l.map encE))] h (.d (.bool (queueB q l))) := by
  refine callW tb_ok fn14 (by simp) (fun hok => ?_)
  simp [c14]
  refine (queueFault_V q true _).useV ?_
  by_cases hc : (rchk true q).1 = 0
  · have hq : q.length < 2000000 := by
      rcases Nat.lt_or_ge 200 q.length with h1 | h1
      · unfold rchk at hc; rw [if_pos h1] at hc; simp at hc
      · omega
    simp [hc]
    refine (sorted_V q hq _).useV ?_
    simp
    refine (sorted_V l hl _).useV ?_
    simp
    refine (entries_V _ _ (by rw [sortedE_length]; omega) _).useV ?_
    simp [queueB, hc]
  · simp [hc, queueB]

end Go.Vm

