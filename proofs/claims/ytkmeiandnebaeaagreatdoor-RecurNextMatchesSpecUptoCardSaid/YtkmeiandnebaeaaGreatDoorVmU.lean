/- Library calls that give a new row. -/
import Derived.Test.YtkmeiandnebaeaaGreatDoorVMd
import Derived.Lib.IndexMore
set_option linter.unusedSimpArgs false
namespace Go.Vm
variable {P : Program} {h : List Blk}

theorem flatD_flats : ∀ {xs : List D}, D.flats xs = true → flatD xs = xs
  | [], _ => rfl
  | x :: r, h => by
    simp only [D.flats, Bool.and_eq_true] at h
    have ih := flatD_flats h.2
    have : x.cells = [x] := by cases x <;> first | rfl | (simp [D.flat] at h)
    simp only [flatD, List.flatMap_cons] at ih ⊢
    rw [this, ih]; rfl

/-- A function of numbers and texts that gives a new row of such, and leaves the rest as it is. -/
theorem callP_row {f : FuncId} {ds xs : List D} {e : TypeId} (hE : Enters P f) (hf : D.flats ds = true) (hx : D.flats xs = true) (hsz : psz P e = 1)
    (hc : ∀ (base : Nat) (w0 w : World), GlobOk base w0 → base ≤ w.heap.size → (∀ q, q < base → w.heap[q]? = w0.heap[q]?) →
      Calls P f (ds.map D.val).toArray w fun e' w' => e' = .returned (.slice (some ⟨w.heap.size, 0, none⟩) xs.length xs.length) ∧ w' = w.alloc (.cells (xs.map D.val).toArray e)) : CallP P f (ds.map AV.d) h (.d (.sl e xs)) := by
  refine ⟨hE, fun base w0 F ρ w vs hst ha => ?_⟩
  have hvs : vs = (ds.map D.val).toArray := by
    refine Array.ext (by simpa using ha.1.symm) fun i hi hi' => ?_
    simp only [List.size_toArray, List.length_map] at hi'
    obtain ⟨v, hv, hvr⟩ := ha.2 i (.d ds[i]) (by simp [hi'])
    have := flat_val (flats_get hf _ (List.getElem_mem hi')) hvr.d_inv
    rw [this] at hv
    have h2 := (Array.getElem?_eq_some_iff.mp hv).2
    simp [h2]
  subst hvs
  refine (hc base w0 w hst.old.1.2 hst.hb hst.old.2).mono ?_
  rintro e' w' ⟨rfl, rfl⟩
  have hcell : ∀ x ∈ xs, x.cells = [x] := fun x hxm => by
    have := flats_get hx x hxm
    cases x <;> first | rfl | (simp [D.flat] at this)
  have hrow : RowRep (psz P) F (flatD xs) (xs.map D.val) := by
    rw [flatD_flats hx]
    refine ⟨by simp, fun j c hj => ⟨c.val, by simp [hj], ?_, ?_⟩⟩
    · have hfl := flats_get hx c (List.mem_of_getElem? hj)
      exact D.val_rep (by cases c <;> first | rfl | (simp [D.flat] at hfl))
    · have hfl := flats_get hx c (List.mem_of_getElem? hj)
      cases c <;> first | rfl | (simp [D.flat] at hfl)
  have hnb := hst.new_bld (e := e) (e0 := e) (xs := xs) (vs := xs.map D.val) (cs := (xs.map D.val).toArray) (cap := xs.length)
    (fun x hxm => by rw [hcell x hxm, hsz]; rfl) hrow (fun j v hj => by simpa using hj) (Nat.le_refl _) (by rw [hsz]; simp) rfl
  obtain ⟨h1, h2, h3⟩ := hnb
  refine ⟨_, .d (.sl e xs), h, _, _, rfl, h1, h2.cut hst.hok, ?_, Nat.le_refl _, rfl, rfl⟩
  cases h3 with
  | bl hb hrep hl hw hc => exact .d hrep

@[simp] theorem byteAt_app (a b : List UInt8) (c : UInt8) : byteAt (a ++ c :: b) a.length = (c.toNat : Int) := by simp [byteAt]
@[simp] theorem midOne_app (a b : List UInt8) (c : UInt8) : List.drop a.length (List.take (a.length + 1) (a ++ c :: b)) = [c] := by simp [List.take_append, List.take_of_length_le]
@[simp] theorem byteAt_app1 (a b : List UInt8) (x c : UInt8) : byteAt (a ++ x :: c :: b) (a.length + 1) = (c.toNat : Int) := by
  have := byteAt_app (a ++ [x]) b c
  simpa using this
@[simp] theorem midOne_app1 (a b : List UInt8) (x c : UInt8) : List.drop (a.length + 1) (List.take (a.length + 1 + 1) (a ++ x :: c :: b)) = [c] := by
  have := midOne_app (a ++ [x]) b c
  simpa using this

theorem index_one (c : UInt8) : ∀ l : List UInt8, decide (0 ≤ Lib.index l [c]) = l.contains c
  | [] => by simp [Lib.index]
  | b :: l => by
    have ih := index_one c l
    have hge := Lib.index_ge l [c]
    rw [Lib.index, List.contains_cons]
    by_cases h : c = b
    · subst h; simp [List.isPrefixOf]
    · have h1 : (c == b) = false := by simpa using h
      simp only [List.isPrefixOf, h1, Bool.false_and, Bool.false_or, Bool.false_eq_true, if_false]
      rw [← ih]
      by_cases h2 : Lib.index l [c] = -1
      · simp [h2]
      · have h3 : (Lib.index l [c] == -1) = false := by simpa using h2
        rw [h3]
        simp only [Bool.false_eq_true, if_false]
        congr 1
        apply propext
        constructor <;> intro _ <;> omega

end Go.Vm
