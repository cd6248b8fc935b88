/- date: Parse, in plain words. -/
import Derived.Test.YtjjpkeajlgbleaaDoorDt22
import Derived.Test.YtjjpkeajlgbleaaDoorDt13
namespace Go.Vm
open Proofs
set_option maxRecDepth 20000
set_option maxHeartbeats 1000000
set_option linter.unusedSimpArgs false

def widP (e : UInt8) : Nat := if e = 89 ∨ e = 71 then 4 else if e = 106 then 3 else if e = 117 then 1 else if e = 97 ∨ e = 98 ∨ e = 37 then 0 else 2
def nsP (e : UInt8) : Option (List (List UInt8)) := if e = 97 then some dayNames else if e = 98 then some monthNames else none
def valS (m : Mo) (e : UInt8) : Int :=
  if e = 89 then m.y else if e = 109 then m.m else if e = 100 then m.d else if e = 72 then m.h else if e = 77 then m.mi else if e = 83 then m.s
  else if e = 106 then m.doy else if e = 71 then (weekS m.y m.day).1 else if e = 86 then (weekS m.y m.day).2 else if e = 117 then (m.day - 1) % 7 + 1 else (m.day - 1) % 7 + 1

theorem find_37 : mapFind (.int .u8 37) dirEs = some none := rfl
/-- The letters that numbers are found for. -/
def let11 : List UInt8 := [89, 109, 100, 72, 77, 83, 106, 71, 86, 117, 97]
theorem find_val {e : UInt8} (he : e ∈ let11) : ∃ g w ns, mapFind (.int .u8 (e.toNat : Int)) dirEs = some (some (.d (encDir w ns g))) ∧ ∀ (m : Mo), m.ok → ∀ h, CallP Tryd.prog g [.d (encMo m)] h (.d (.int .i64 (valS m e))) := by
  simp only [let11, List.mem_cons, List.not_mem_nil, or_false] at he
  rcases he with rfl | rfl | rfl | rfl | rfl | rfl | rfl | rfl | rfl | rfl | rfl
  · exact ⟨71, _, _, rfl, fun m hm h => v71_V m h⟩
  · exact ⟨72, _, _, rfl, fun m hm h => v72_V m h⟩
  · exact ⟨73, _, _, rfl, fun m hm h => v73_V m h⟩
  · exact ⟨74, _, _, rfl, fun m hm h => v74_V m h⟩
  · exact ⟨75, _, _, rfl, fun m hm h => v75_V m h⟩
  · exact ⟨76, _, _, rfl, fun m hm h => v76_V m h⟩
  · exact ⟨77, _, _, rfl, fun m hm h => v77_V m hm h⟩
  · exact ⟨79, _, _, rfl, fun m hm h => v79_V m hm h⟩
  · exact ⟨80, _, _, rfl, fun m hm h => v80_V m hm h⟩
  · exact ⟨70, _, _, rfl, fun m hm h => v70_V m hm h⟩
  · exact ⟨70, _, _, rfl, fun m hm h => v70_V m hm h⟩
theorem find_dir {e : UInt8} (he : letL.contains e = true) (h37 : e ≠ 37) : ∃ g, mapFind (.int .u8 (e.toNat : Int)) dirEs = some (some (.d (encDir (widP e) (namesD (nsP e)) g))) := by
  simp only [letL, List.contains_eq_mem, List.mem_cons, List.not_mem_nil, or_false, decide_eq_true_eq] at he
  rcases he with rfl | rfl | rfl | rfl | rfl | rfl | rfl | rfl | rfl | rfl | rfl | rfl | rfl
  · exact ⟨71, rfl⟩
  · exact ⟨72, rfl⟩
  · exact ⟨73, rfl⟩
  · exact ⟨74, rfl⟩
  · exact ⟨75, rfl⟩
  · exact ⟨76, rfl⟩
  · exact ⟨77, rfl⟩
  · exact ⟨79, rfl⟩
  · exact ⟨80, rfl⟩
  · exact ⟨70, rfl⟩
  · exact ⟨70, rfl⟩
  · exact ⟨81, rfl⟩
  · exact absurd rfl h37

theorem byteS_suf (c : UInt8) (l : List UInt8) : ∃ x, l = x ++ (byteS c l).2 := by
  cases l with
  | nil => exact ⟨[], rfl⟩
  | cons e l =>
    simp only [byteS]
    split
    · exact ⟨[e], rfl⟩
    · exact ⟨[], rfl⟩
theorem numS_suf : ∀ (w : Nat) (n : Int) (l : List UInt8), ∃ x, l = x ++ (numS w n l).2
  | 0, _, l => ⟨[], rfl⟩
  | _ + 1, _, [] => ⟨[], rfl⟩
  | w + 1, n, e :: l => by
    unfold numS
    split
    · obtain ⟨x, hx⟩ := numS_suf w (10 * n + (e.toNat - 48)) l
      exact ⟨e :: x, by rw [List.cons_append, ← hx]⟩
    · exact ⟨[], rfl⟩
theorem nameS_suf : ∀ (ns : List (List UInt8)) (i : Int) (l : List UInt8), ∃ x, l = x ++ (nameS ns i l).2
  | [], _, l => ⟨[], rfl⟩
  | s :: ns, i, l => by
    unfold nameS
    split
    · exact ⟨l.take s.length, (List.take_append_drop _ _).symm⟩
    · exact nameS_suf ns (i + 1) l
theorem dirS_suf (c : UInt8) (w : Nat) (ns : Option (List (List UInt8))) (l : List UInt8) (fd : Fd) (cf : Bool) : ∃ x, l = x ++ (dirS c w ns l fd cf).2.1 := by
  unfold dirS
  split
  · exact byteS_suf _ _
  · cases ns with
    | none => simp only; split <;> exact numS_suf _ _ _
    | some ns => simp only; split <;> exact nameS_suf _ _ _

/-- What the pattern reads: does it go, what is left, what is found, whether two numbers differ. -/
def readS : List UInt8 → List UInt8 → Fd → Bool → Bool × List UInt8 × Fd × Bool
  | [], l, fd, cf => (true, l, fd, cf)
  | [c], l, fd, cf => ((byteS c l).1, (byteS c l).2, fd, cf)
  | c :: e :: p, l, fd, cf =>
    if c ≠ 37 then (if (byteS c l).1 then readS (e :: p) (byteS c l).2 fd cf else (false, (byteS c l).2, fd, cf))
    else if (dirS e (widP e) (nsP e) l fd cf).1 then readS p (dirS e (widP e) (nsP e) l fd cf).2.1 (dirS e (widP e) (nsP e) l fd cf).2.2.1 (dirS e (widP e) (nsP e) l fd cf).2.2.2
    else dirS e (widP e) (nsP e) l fd cf

def parseS (text p : List UInt8) : Mo × (Int × Int) :=
  if (patF 1000 p).1 ≠ 0 then (mo0, patF 1000 p) else
  if (readS p text [] false).1 = false ∨ (readS p text [] false).2.1 ≠ [] then (mo0, (1, (text.length - (readS p text [] false).2.1.length : Nat))) else
  if (readS p text [] false).2.2.2 = true then (mo0, (19, -1)) else
  if (momF (momA (readS p text [] false).2.2.1)).1 ≠ 0 then (mo0, (4, -3)) else
  if (readS p text [] false).2.2.1.all (fun x => decide (valS (momA (readS p text [] false).2.2.1) x.1 = x.2)) = true then (momA (readS p text [] false).2.2.1, (0, 0)) else (mo0, (19, -4))

def KeyOk (fd : Fd) : Prop := ∀ x ∈ fd, x.1 ∈ let11
theorem put_keys : ∀ {fd : Fd} {c : UInt8} {n : Int}, KeyOk fd → c ∈ let11 → KeyOk (fdPut fd c n)
  | [], c, n, _, hc => by intro x hx; simp only [fdPut, List.mem_singleton] at hx; subst hx; exact hc
  | p :: r, c, n, hk, hc => by
    intro x hx
    unfold fdPut at hx
    split at hx
    · rcases List.mem_cons.mp hx with rfl | hx
      · exact hc
      · exact hk x (List.mem_cons_of_mem _ hx)
    · rcases List.mem_cons.mp hx with rfl | hx
      · exact hk _ (List.mem_cons_self ..)
      · exact put_keys (fun y hy => hk y (List.mem_cons_of_mem _ hy)) hc x hx
theorem note_keys {fd : Fd} {cf : Bool} {c : UInt8} {n : Int} (hk : KeyOk fd) (hc : letL.contains c = true) (h37 : c ≠ 37) : KeyOk (noteS fd cf c n).1 := by
  refine put_keys hk ?_
  simp only [letL, List.contains_eq_mem, List.mem_cons, List.not_mem_nil, or_false, decide_eq_true_eq] at hc
  rcases hc with rfl | rfl | rfl | rfl | rfl | rfl | rfl | rfl | rfl | rfl | rfl | rfl | rfl <;> first | exact absurd rfl h37 | decide
theorem dir_keys {fd : Fd} {cf : Bool} {c : UInt8} {w : Nat} {ns : Option (List (List UInt8))} {l : List UInt8} (hk : KeyOk fd) (hc : letL.contains c = true) : KeyOk (dirS c w ns l fd cf).2.2.1 := by
  unfold dirS
  split
  · exact hk
  · rename_i h37
    cases ns with
    | none => simp only; split <;> first | exact note_keys hk hc h37 | exact hk
    | some ns => simp only; split <;> first | exact note_keys hk hc h37 | exact hk

end Go.Vm
