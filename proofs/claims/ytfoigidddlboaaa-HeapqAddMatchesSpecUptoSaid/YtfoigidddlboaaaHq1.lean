/- compare and what it stands on; entry. -/
import Derived.Test.YtfoigidddlboaaaHqL
namespace Go.Vm
open Proofs
set_option maxRecDepth 10000
set_option linter.unusedSimpArgs false

def encI (n : Int) : D := .int .i64 n
def encS (s : List UInt8) : D := .str s
def orL (xs : List Int) : Int := (xs.find? (· ≠ 0)).getD 0

theorem mid {α : Type} {a b : List α} {x : α} {n : Nat} (h : n = a.length) : (a ++ x :: b)[n]? = some x := by subst h; simp
theorem wrap_ok {n : Int} (h1 : -9223372036854775808 ≤ n) (h2 : n < 9223372036854775808) : IntKind.i64.wrap n = n := by
  simp only [IntKind.wrap, IntKind.bits, IntKind.signed, Bool.true_and, decide_eq_true_eq, show (2 : Int) ^ 64 = 18446744073709551616 from rfl, show (2 : Int) ^ (64 - 1) = 9223372036854775808 from rfl]
  split <;> omega

theorem orL_skip {pre : List Int} (hz : ∀ x ∈ pre, x = 0) (l : List Int) : orL (pre ++ l) = orL l := by
  induction pre with
  | nil => rfl
  | cons y pre ih =>
    have hy := hz y (by simp)
    subst hy
    have := ih (fun x hx => hz x (by simp [hx]))
    simpa [orL] using this

theorem or_V (xs : List Int) (hl : xs.length < 1000) (h : List Blk) : CallP Try.prog 59 [.d (.sl 3 (xs.map encI))] h (.d (.int .i64 (orL xs))) := by
  refine callW tb_ok fn59 (by simp) (fun hok => ?_)
  simp [c59]
  refine W_loop (ι := List Int × List Int) (fun p => p.1 ++ p.2 = xs ∧ ∀ x ∈ p.1, x = 0) (fun p => ⟨[(8, .d (.int .i64 p.1.length)), (7, .d (.int .i64 xs.length)), (6, .d (.sl 3 (xs.map encI))), (3, .d (.int .i64 0))], h⟩) (fun p => p.2.length) ([], xs) (by simp) (Shift.slots (by simp [look])) ?_
  rintro ⟨pre, rest⟩ ⟨hx, hz⟩
  simp only at hx hz
  subst hx
  cases rest with
  | nil =>
    have := orL_skip hz []
    simp only [List.append_nil] at this
    have e : orL pre = 0 := by rw [this]; rfl
    simp [e]
  | cons x rest =>
    have h1 : (pre.length : Int) < pre.length + (rest.length + 1) := by omega
    simp only [List.length_append, List.length_cons] at hl
    have hw : IntKind.i64.wrap ((pre.length : Int) + 1) = pre.length + 1 := wrap_ok (by omega) (by omega)
    have ho := orL_skip hz (x :: rest)
    by_cases hx : x = 0
    · subst hx
      simp [h1, mid, encI, hw, ho]
      refine ⟨pre ++ [0], rest, ⟨by simp, ?_⟩, Shift.slots (by simp), by omega⟩
      intro y hy
      rcases List.mem_append.mp hy with hy | hy
      · exact hz y hy
      · simpa using hy
    · have e : orL (pre ++ x :: rest) = x := by rw [ho]; simp [orL, hx]
      simp [h1, mid, encI, hw, hx, e]

def cmpI (a b : Int) : Int := if a < b then -1 else if a > b then 1 else 0
theorem isNaN_V (a : Int) (h : List Blk) : CallP Try.prog 69 [.d (.int .i64 a)] h (.d (.bool false)) := by
  refine callW tb_ok fn69 (by simp) (fun hok => ?_)
  simp [c69]
theorem cmpI_V (a b : Int) (h : List Blk) : CallP Try.prog 60 [.d (.int .i64 a), .d (.int .i64 b)] h (.d (.int .i64 (cmpI a b))) := by
  refine callW tb_ok fn60 (by simp) (fun hok => ?_)
  simp [c60]
  refine (isNaN_V _ _).useV ?_
  simp
  refine (isNaN_V _ _).useV ?_
  by_cases h1 : a < b
  · simp [h1, cmpI]
  · by_cases h2 : b < a <;> simp [h1, h2, cmpI]

structure Ent where
  name : List UInt8
  rank : Int
  deriving DecidableEq, Inhabited
def encE (e : Ent) : D := .agg [.str e.name, .int .i64 e.rank]

def cmpE (a b : Ent) : Int := orL [cmpI a.rank b.rank, Lib.compareBytes a.name b.name]
theorem compare_V (a b : Ent) (h : List Blk) : CallP Try.prog 48 [.d (encE a), .d (encE b)] h (.d (.int .i64 (cmpE a b))) := by
  refine callW tb_ok fn48 (by simp) (fun hok => ?_)
  simp [c48, encE]
  refine regV_all ?_
  simp
  refine (cmpI_V _ _ _).useV ?_
  simp
  refine (stringsCompare_V _ _ _).useV ?_
  simp
  refine (or_V [cmpI a.rank b.rank, Lib.compareBytes a.name b.name] (by simp) _).useV ?_
  simp [cmpE]
  exact rshift_d hok

def entFault (e : Ent) : Int := if e.name = [] ∨ 24 < e.name.length then 7 else if -1000000 ≤ e.rank ∧ e.rank ≤ 1000000 then 0 else 4
theorem entry_V (e : Ent) (h : List Blk) : CallP Try.prog 44 [.d (encE e)] h (.d (.int .i64 (entFault e))) := by
  refine callW tb_ok fn44 (by simp) (fun hok => ?_)
  by_cases h1 : e.name = []
  · simp [c44, encE, entFault, h1, rshift_d hok]
  · by_cases h2 : 24 < e.name.length
    · have h2' : (24 : Int) < e.name.length := by omega
      simp [c44, encE, entFault, h1, h2, h2', rshift_d hok]
    · have h2' : ¬ (24 : Int) < e.name.length := by omega
      by_cases h3 : e.rank < -1000000
      · have h4 : ¬ -1000000 ≤ e.rank := by omega
        simp [c44, encE, h1, h2, h2', h3, h4, entFault, rshift_d hok]
      · have h4 : -1000000 ≤ e.rank := by omega
        by_cases h5 : 1000000 < e.rank
        · have h6 : ¬ e.rank ≤ 1000000 := by omega
          simp [c44, encE, h1, h2, h2', h3, h4, h5, h6, entFault, rshift_d hok]
        · have h6 : e.rank ≤ 1000000 := by omega
          simp [c44, encE, h1, h2, h2', h3, h4, h5, h6, entFault, rshift_d hok]

end Go.Vm
