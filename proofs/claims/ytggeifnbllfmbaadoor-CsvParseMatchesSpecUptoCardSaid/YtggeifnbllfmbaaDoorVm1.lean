/- The table of types, operands, and memory's reads in the machine of values. -/
import Derived.Test.YtggeifnbllfmbaaDoorVm0
set_option linter.unusedSimpArgs false
namespace Go.Vm

/-- What is kept of a type. -/
inductive TK where
  | bool | int (k : IntKind) | str
  | ptr (e : TypeId) | sl (e : TypeId) | arr (eq : Bool) (n : Nat) (e : TypeId) | map (k e : TypeId)
  | struct (eq : Bool) (fs : List (Nat × TypeId)) | func | ifc
  deriving Inhabited, DecidableEq

structure TI where
  k : TK
  size : Nat
  bytes : Nat
  zero : List D
  deriving Inhabited

def TI.agg (t : TI) : Bool := match t.k with | .struct _ _ | .arr _ _ _ => true | _ => false

abbrev Tab := List (TypeId × TI)
def Tab.get : Tab → TypeId → Option TI
  | [], _ => none
  | (k, v) :: r, t => if k = t then some v else Tab.get r t

/-- The value of a closed piece of data. -/
def D.val : D → Value
  | .bool b => .bool b
  | .int k n => .int k n
  | .str s => .string ⟨s.toArray⟩
  | .sl _ _ => .slice none 0 0
  | .nilsl => .slice none 0 0
  | .nilptr => .pointer none
  | .nilfn => .nilFunc
  | .nilmap => .map none
  | .nilif => .nilIface
  | .agg _ => .nilIface
  | .fn f => .func (.func f) #[] #[]
  | .ifc _ _ => .nilIface

def D.plain : D → Bool
  | .bool _ | .int _ _ | .str _ | .nilsl | .nilptr | .nilfn | .nilmap | .nilif | .fn _ => true
  | .sl _ xs => xs.isEmpty
  | _ => false

theorem D.val_rep {sz : TypeId → Nat} {F : Frz} {x : D} (h : x.plain = true) : FRep sz F x x.val := by
  cases x with
  | bool b => exact .bool b
  | int k n => exact .int k n
  | str s => exact .str s
  | sl e xs =>
    cases xs with
    | nil => exact .sl e [] none ⟨0, 0, none⟩ 0 (fun _ _ => .nilIface) (by simp) (by simp) (by simp) (by simp) (by simp) (by simp)
    | cons a b => simp [D.plain] at h
  | nilsl => exact .nilsl
  | nilptr => exact .nilptr
  | nilfn => exact .nilfn
  | nilmap => exact .nilmap
  | nilif => exact .nilif
  | agg cs => simp [D.plain] at h
  | fn f => exact .fn f
  | ifc t x => simp [D.plain] at h

def TK.fits : TypeDesc → TK → Bool
  | .bool, .bool => true
  | .int k, .int k' => k == k'
  | .string, .str => true
  | .pointer e, .ptr e' => e == e'
  | .slice e, .sl e' => e == e'
  | .array n e, .arr _ n' e' => n == n' && e == e'
  | .map k e, .map k' e' => k == k' && e == e'
  | .struct fs, .struct _ gs => fs.toList.map (fun f => (f.offset, f.type)) == gs
  | .func _ _ _, .func => true
  | .interface _, .ifc => true
  | _, _ => false

/-- Is a value that of a plain piece of data? -/
def D.isVal : D → Value → Bool
  | .bool b, .bool c => b == c
  | .int k n, .int k' n' => k == k' && n == n'
  | .str s, .string t => s == t.data.toList
  | .sl _ [], .slice none 0 0 => true
  | .nilsl, .slice none 0 0 => true
  | .nilptr, .pointer none => true
  | .nilfn, .nilFunc => true
  | .nilmap, .map none => true
  | .nilif, .nilIface => true
  | _, _ => false

theorem D.isVal_eq {x : D} {v : Value} (h : x.isVal v = true) : x.val = v ∧ x.plain = true := by
  cases x with
  | sl e xs =>
    cases xs with
    | nil =>
      cases v with
      | slice a n c =>
        cases a with
        | none => cases n <;> cases c <;> simp_all [D.isVal, D.val, D.plain]
        | some a => simp [D.isVal] at h
      | _ => simp [D.isVal] at h
    | cons a b => cases v <;> simp [D.isVal] at h
  | nilsl =>
    cases v with
    | slice a n c =>
      cases a with
      | none => cases n <;> cases c <;> simp_all [D.isVal, D.val, D.plain]
      | some a => simp [D.isVal] at h
    | _ => simp [D.isVal] at h
  | str s =>
    cases v with
    | string t =>
      simp only [D.isVal, beq_iff_eq] at h
      refine ⟨?_, rfl⟩
      subst h
      cases t with | mk b => simp [D.val]
    | _ => simp [D.isVal] at h
  | _ => cases v <;> simp_all [D.isVal, D.val, D.plain] <;> (rename_i a; cases a <;> simp_all [D.isVal])

def D.areVals : List D → List Value → Bool
  | [], [] => true
  | x :: xs, v :: vs => x.isVal v && D.areVals xs vs
  | _, _ => false

theorem D.areVals_eq : ∀ {xs : List D} {vs : List Value}, D.areVals xs vs = true → xs.map D.val = vs ∧ ∀ x ∈ xs, x.plain = true
  | [], [], _ => by simp
  | x :: xs, v :: vs, h => by
    simp only [D.areVals, Bool.and_eq_true] at h
    have h1 := D.isVal_eq h.1
    have h2 := D.areVals_eq h.2
    simp only [List.map_cons, List.mem_cons, forall_eq_or_imp]
    exact ⟨by rw [h1.1, h2.1], h1.2, h2.2⟩
  | [], _ :: _, h => by simp [D.areVals] at h
  | _ :: _, [], h => by simp [D.areVals] at h

/-- May values of a struct or an array be compared field by field? -/
def eqOk (P : Program) (t : TypeId) : Bool :=
  !P.eqGuardType P.depth t && match P.underlying t with
    | some (.struct fs) => !P.stoodInHeld t && fs.all fun f => f.name != "_"
    | some (.array _ _) => true
    | _ => false

def TK.eqFlag : TK → Bool
  | .struct b _ => b
  | .arr b _ _ => b
  | _ => false

def TI.checks (P : Program) (t : TypeId) (i : TI) : Bool :=
  (!i.k.eqFlag || eqOk P t) && (match P.underlying t with | some d => TK.fits d i.k | none => false) &&
  (i.agg || i.size == 1) && i.zero.length == i.size && (match P.info? t with
   | some info => info.size == i.size && info.bytes == i.bytes && (match info.zero with | some z => D.areVals i.zero z.cells.toList && (z matches .agg _) == i.agg | none => false)
   | none => false)

def Tab.checks (P : Program) (tab : Tab) : Bool := tab.all fun (t, i) => i.checks P t

def psz (P : Program) (t : TypeId) : Nat := ((P.info? t).map (·.size)).getD 0

structure TI.Good (P : Program) (t : TypeId) (i : TI) : Prop where
  eq : i.k.eqFlag = true → eqOk P t = true
  one : i.agg = false → i.size = 1
  zlen : i.zero.length = i.size
  desc : ∃ d, P.underlying t = some d ∧ TK.fits d i.k = true
  info : ∃ info, P.info? t = some info ∧ info.size = i.size ∧ info.bytes = i.bytes ∧ ∃ z, info.zero = some z ∧ z.cells.toList = i.zero.map D.val ∧ (∀ x ∈ i.zero, x.plain = true) ∧ (z matches .agg _) = i.agg

theorem Tab.good {P : Program} {tab : Tab} (h : tab.checks P = true) {t : TypeId} {i : TI} (hg : tab.get t = some i) : i.Good P t := by
  induction tab with
  | nil => simp [Tab.get] at hg
  | cons a r ih =>
    obtain ⟨k, v⟩ := a
    simp only [Tab.checks, List.all_cons, Bool.and_eq_true] at h
    simp only [Tab.get] at hg
    by_cases e : k = t
    · rw [if_pos e] at hg
      cases hg; subst e
      have h1 := h.1
      simp only [TI.checks, Bool.and_eq_true] at h1
      obtain ⟨⟨⟨⟨heq, hd⟩, ho⟩, hzl⟩, hi⟩ := h1
      constructor
      · intro hf; simpa [hf] using heq
      · intro hf; simpa [hf] using ho
      · simpa using hzl
      · cases hu : P.underlying k with
        | none => simp [hu] at hd
        | some d => rw [hu] at hd; exact ⟨d, rfl, hd⟩
      · cases hu : P.info? k with
        | none => simp [hu] at hi
        | some info =>
          rw [hu] at hi
          simp only [Bool.and_eq_true, beq_iff_eq] at hi
          obtain ⟨⟨h1, h2⟩, h3⟩ := hi
          cases hz : info.zero with
          | none => simp [hz] at h3
          | some z =>
            rw [hz] at h3
            simp only [Bool.and_eq_true, beq_iff_eq] at h3
            have := D.areVals_eq h3.1
            exact ⟨info, rfl, h1, h2, z, hz, this.1.symm, this.2, h3.2⟩
    · rw [if_neg e] at hg
      exact ih h.2 hg

theorem TI.Good.psz {P : Program} {t : TypeId} {i : TI} (h : i.Good P t) : psz P t = i.size := by
  obtain ⟨info, h1, h2, _⟩ := h.info
  simp [Vm.psz, h1, h2]

variable {P : Program} {w : World}

theorem TI.Good.run_sizeOf {t : TypeId} {i : TI} (h : i.Good P t) : (sizeOf t).run P w = .ok i.size w := by
  obtain ⟨info, h1, h2, _⟩ := h.info
  simp [sizeOf, typeInfo, h1, h2]

theorem TI.Good.run_under {t : TypeId} {i : TI} (h : i.Good P t) : ∃ d, (underlying t).run P w = .ok d w ∧ TK.fits d i.k = true := by
  obtain ⟨d, h1, h2⟩ := h.desc
  exact ⟨d, by simp [underlying, h1], h2⟩

theorem TI.Good.run_isAgg {t : TypeId} {i : TI} (h : i.Good P t) : (isAgg t).run P w = .ok i.agg w := by
  obtain ⟨d, h1, h2⟩ := h.run_under (w := w)
  simp only [isAgg, Sem.run_bind, h1, Result.andThen_ok, TI.agg]
  cases i with | mk k s b z => cases d <;> cases k <;> first | (simp [TK.fits] at h2; done) | rfl

end Go.Vm
