/- Lists and library calls: what many proofs use. -/
import Derived.Test.YtggeifnbllfmbaaDoorVmP
import Derived.Test.YtggeifnbllfmbaaDoorVmX
import Derived.Below
set_option linter.unusedSimpArgs false
namespace Go.Vm
variable {P : Program} {h : List Blk}

theorem mid {α : Type} {a b : List α} {x : α} {n : Nat} (h : n = a.length) : (a ++ x :: b)[n]? = some x := by subst h; simp
theorem half_get' {α β : Type} {f : α → β} {l : List α} {y : α} {k : Nat} (hy : l[k]? = some y) : (l.map f)[k]? = some (f y) := by simp [hy]
theorem getD_some {α : Type} {l : List α} {i : Nat} {x d : α} (h : l[i]? = some x) : l.getD i d = x := by rw [List.getD, h]; rfl

def encI (n : Int) : D := .int .i64 n
def encS (s : List UInt8) : D := .str s
def encU (c : UInt8) : D := .int .u8 (c.toNat : Int)
def encL (e : TypeId) {α : Type} (f : α → D) (l : List α) : D := .sl e (l.map f)

@[simp] theorem cells_encS (s : List UInt8) : D.cells (encS s) = [encS s] := rfl
@[simp] theorem cells_encI (n : Int) : D.cells (encI n) = [encI n] := rfl
@[simp] theorem cells_encU (c : UInt8) : D.cells (encU c) = [encU c] := rfl

/-- The first position at which something holds, or -1. -/
def idxFrom {α : Type} (p : α → Bool) : Nat → List α → Int
  | _, [] => -1
  | i, x :: r => if p x then i else idxFrom p (i + 1) r

theorem idxFrom_any {α : Type} (p : α → Bool) : ∀ (i : Nat) (l : List α), decide (0 ≤ idxFrom p i l) = l.any p
  | i, [] => by simp [idxFrom]
  | i, x :: r => by
    simp only [idxFrom, List.any_cons]
    by_cases h : p x = true
    · simp [h]
    · have h' : p x = false := by simpa using h
      simp [h', idxFrom_any p (i + 1) r]

/-- How many elements there are in all lists. -/
def total {α : Type} : List (List α) → Nat
  | [] => 0
  | l :: r => l.length + total r
theorem total_app {α : Type} : ∀ (a b : List (List α)), total (a ++ b) = total a + total b
  | [], b => by simp [total]
  | x :: a, b => by simp [total, total_app a b]; omega

theorem u8_inj (a b : UInt8) : ((a.toNat : Int) = (b.toNat : Int)) = (a = b) := by
  apply propext
  constructor
  · intro h; exact UInt8.toNat_inj.mp (by omega)
  · intro h; rw [h]

/-- Arguments that lie in no memory. -/
def D.flats : List D → Bool
  | [] => true
  | x :: r => x.flat && D.flats r

theorem flat_val {sz : TypeId → Nat} {F : Frz} {x : D} {v : Value} (hx : x.flat = true) (h : FRep sz F x v) : v = x.val := by
  cases h <;> first | rfl | (simp [D.flat] at hx)

theorem flats_get : ∀ {ds : List D}, D.flats ds = true → ∀ x ∈ ds, x.flat = true
  | [], _, x, hx => by cases hx
  | y :: ds, h, x, hx => by
    simp only [D.flats, Bool.and_eq_true] at h
    rcases List.mem_cons.mp hx with rfl | hx
    · exact h.1
    · exact flats_get h.2 x hx

/-- A function of numbers and texts that leaves the world below as it is. -/
theorem callP_below {f : FuncId} {ds : List D} {r : D} (hE : Enters P f) (hf : D.flats ds = true) (hr : r.flat = true)
    (hc : ∀ (base : Nat) (w0 w : World), GlobOk base w0 → base ≤ w.heap.size → (∀ q, q < base → w.heap[q]? = w0.heap[q]?) →
      Calls P f (ds.map D.val).toArray w fun e w' => e = .returned r.val ∧ RowKit.Below w.heap.size w w') : CallP P f (ds.map AV.d) h (.d r) := by
  refine ⟨hE, fun base w0 F ρ w vs hst ha => ?_⟩
  have hvs : vs = (ds.map D.val).toArray := by
    refine Array.ext (by simpa using ha.1.symm) fun i hi hi' => ?_
    simp only [List.size_toArray, List.length_map] at hi'
    obtain ⟨v, hv, hvr⟩ := ha.2 i (.d ds[i]) (by simp [hi'])
    have := flat_val (flats_get hf _ (List.getElem_mem hi')) hvr.d_inv
    rw [this] at hv
    have h2 := (Array.getElem?_eq_some_iff.mp hv).2
    simp [h2]
  subst hvs
  refine (hc base w0 w hst.old.1.2 hst.hb hst.old.2).mono ?_
  rintro e w' ⟨rfl, hb⟩
  refine ⟨_, .d r, h, F, ρ, rfl, Ext.refl _ _ _, hst.below ⟨hb.os, hb.tape, hb.output⟩ hb.size hb.block, ?_, Nat.le_refl _, rfl, rfl⟩
  exact .d (D.val_rep (by cases r <;> first | rfl | (simp [D.flat] at hr)))

end Go.Vm
