/- VMa: Vm0, Vm1, Vm2, Vm3, Vm4, Vm5, Vm6, Vm7, VmM, Vm8. -/
import Derived.WalkKit
import Derived.KernelRfl
import Derived.Test.YtkmeiandnebaeaaGreatDoorGl
import Derived.Laws.StructEq
import Derived.Laws.BytesArg
/- The ground of the virtual machine of values: pure data, abstract values, and how they are represented in a world. -/
set_option linter.unusedSimpArgs false
namespace Go.Vm

/-- Pure data: what a value that is never written again holds. -/
inductive D where
  | bool (b : Bool)
  | int (k : IntKind) (n : Int)
  | str (s : List UInt8)
  | sl (e : TypeId) (xs : List D)
  | nilsl | nilptr | nilfn | nilmap | nilif
  | agg (cs : List D)
  | fn (f : FuncId)
  | ifc (t : TypeId) (x : D)
  deriving Inhabited

def D.cells : D → List D
  | .agg cs => cs
  | d => [d]

abbrev Frz := Addr → Option Value

/-- A piece of data is represented by a value, whose memory is frozen. -/
inductive FRep (sz : TypeId → Nat) (F : Frz) : D → Value → Prop
  | bool (b : Bool) : FRep sz F (.bool b) (.bool b)
  | int (k : IntKind) (n : Int) : FRep sz F (.int k n) (.int k n)
  | str (s : List UInt8) : FRep sz F (.str s) (.string ⟨s.toArray⟩)
  | sl (e : TypeId) (xs : List D) (A : Option Addr) (ad : Addr) (cap : Nat) (val : Nat → Nat → Value)
      (hA : xs ≠ [] → A = some ad ∧ ad.spot = none) (hc : xs.length ≤ cap)
      (hl : ∀ (i : Nat) (x : D), xs[i]? = some x → x.cells.length = sz e)
      (hF : ∀ (i : Nat) (x : D) (k : Nat) (c : D), xs[i]? = some x → x.cells[k]? = some c → F ⟨ad.block, ad.off + (i * sz e + k), none⟩ = some (val i k))
      (hr : ∀ (i : Nat) (x : D) (k : Nat) (c : D), xs[i]? = some x → x.cells[k]? = some c → FRep sz F c (val i k))
      (ho : ∀ (i : Nat) (x : D) (k : Nat) (c : D), xs[i]? = some x → x.cells[k]? = some c → (val i k).oneCell' = true) :
      FRep sz F (.sl e xs) (.slice A xs.length cap)
  | nilsl : FRep sz F .nilsl (.slice none 0 0)
  | nilptr : FRep sz F .nilptr (.pointer none)
  | nilfn : FRep sz F .nilfn .nilFunc
  | nilmap : FRep sz F .nilmap (.map none)
  | nilif : FRep sz F .nilif .nilIface
  | agg (cs : List D) (vs : Array Value) (hs : vs.size = cs.length) (val : Nat → Value)
      (hv : ∀ (k : Nat) (c : D), cs[k]? = some c → vs[k]? = some (val k))
      (hr : ∀ (k : Nat) (c : D), cs[k]? = some c → FRep sz F c (val k)) : FRep sz F (.agg cs) (.agg vs)
  | fn (f : FuncId) : FRep sz F (.fn f) (.func (.func f) #[] #[])
  | ifc (t : TypeId) (x : D) (v : Value) (h : FRep sz F x v) : FRep sz F (.ifc t x) (.iface t v)

def Frz.le (F F' : Frz) : Prop := ∀ a v, F a = some v → F' a = some v

theorem Frz.le_refl (F : Frz) : F.le F := fun _ _ h => h
theorem Frz.le_trans {F G H : Frz} (h : F.le G) (h' : G.le H) : F.le H := fun a v e => h' a v (h a v e)

theorem FRep.mono {sz : TypeId → Nat} {F F' : Frz} (hF : F.le F') {x : D} {v : Value} (h : FRep sz F x v) : FRep sz F' x v := by
  induction h with
  | bool b => exact .bool b
  | int k n => exact .int k n
  | str s => exact .str s
  | sl e xs A ad cap val hA hc hl hF' hr ho ih => exact .sl e xs A ad cap val hA hc hl (fun i x k c h1 h2 => hF _ _ (hF' i x k c h1 h2)) ih ho
  | nilsl => exact .nilsl
  | nilptr => exact .nilptr
  | nilfn => exact .nilfn
  | nilmap => exact .nilmap
  | nilif => exact .nilif
  | agg cs vs hs val hv hr ih => exact .agg cs vs hs val hv ih
  | fn f => exact .fn f
  | ifc t x v h ih => exact .ifc t x v ih

/-- Abstract values: data; a builder (a slice that only grows, with what it holds); a view of a mutable block; pointers; what holds such. -/
inductive AV where
  | d (x : D)
  | bl (b : Nat) (e : TypeId) (xs : List D)
  | ref (b : Nat) (e : TypeId) (off len : Nat)
  | z0 (e : TypeId)
  | fp (e : TypeId) (xs : List D) (i off : Nat)
  | ptr (b : Nat) (e : TypeId) (i off : Nat)
  | agg (cs : List AV)
  | tup (vs : List AV)
  | clo (f : FuncId) (cs : List AV)
  | bnd (f : FuncId) (bs : List AV)
  | map (b : Nat)
  | iter (b : Nat)
  | gr (b : Nat) (e : TypeId) (k : Nat)
  | pb (p : Bool → Prop)
  | unk
  deriving Inhabited

/-- What the machine of values keeps of a block. -/
inductive Blk where
  | cells (e : TypeId) (xs : List AV)
  | tail (e : TypeId) (hw : Nat)
  | map (es : List (D × AV))
  | iter (b cnt : Nat) (seen : List Nat)
  | gone
  deriving Inhabited

/-- Where a block lies in the world. -/
inductive Loc where
  | mt (B N : Nat)
  | dead
  | bld (v : Value) (hw : Nat)
  | obj (r : Nat)

def Loc.ext : Loc → Loc → Prop
  | .mt B N, l => l = .mt B N ∨ l = .dead
  | .dead, l => l = .dead
  | .obj r, l => l = .obj r
  | .bld v hw, l => ∃ v' hw', l = .bld v' hw' ∧ hw ≤ hw' ∧ (hw = hw' → v = v')

theorem Loc.ext_refl (l : Loc) : l.ext l := by
  cases l with
  | mt B N => exact .inl rfl
  | dead => rfl
  | obj r => rfl
  | bld v hw => exact ⟨v, hw, rfl, Nat.le_refl _, fun _ => rfl⟩

theorem Loc.ext_trans {a b c : Loc} (h : a.ext b) (h' : b.ext c) : a.ext c := by
  cases a with
  | mt B N => rcases h with h | h <;> cases h <;> first | exact h' | exact .inr h'
  | dead => cases h; exact h'
  | obj r => cases h; exact h'
  | bld v hw =>
    obtain ⟨v1, hw1, rfl, hl, he⟩ := h
    obtain ⟨v2, hw2, rfl, hl2, he2⟩ := h'
    refine ⟨v2, hw2, rfl, by omega, fun e => ?_⟩
    rw [he (by omega), he2 (by omega)]

theorem Loc.mt_back {l l' : Loc} {B N : Nat} (h : l.ext l') (h' : l' = .mt B N) : l = .mt B N := by
  cases l with
  | mt B N => rcases h with h | h
              · rw [← h]; exact h'
              · rw [h] at h'; cases h'
  | dead => rw [show l' = .dead from h] at h'; cases h'
  | obj r => rw [show l' = .obj r from h] at h'; cases h'
  | bld v hw => obtain ⟨v', hw', h, _⟩ := h; rw [h] at h'; cases h'

abbrev Env0 := Nat → Loc

/-- What was known of the first m blocks stays known. -/
structure Ext (m : Nat) (F : Frz) (ρ : Env0) (F' : Frz) (ρ' : Env0) : Prop where
  frz : F.le F'
  loc : ∀ b, b < m → (ρ b).ext (ρ' b)

theorem Ext.refl (m : Nat) (F : Frz) (ρ : Env0) : Ext m F ρ F ρ := ⟨Frz.le_refl _, fun _ _ => Loc.ext_refl _⟩
theorem Ext.trans {m : Nat} {F G H : Frz} {ρ σ τ : Env0} (h : Ext m F ρ G σ) (h' : Ext m G σ H τ) : Ext m F ρ H τ :=
  ⟨Frz.le_trans h.frz h'.frz, fun b hb => Loc.ext_trans (h.loc b hb) (h'.loc b hb)⟩
theorem Ext.weak {m n : Nat} {F F' : Frz} {ρ ρ' : Env0} (h : Ext n F ρ F' ρ') (hm : m ≤ n) : Ext m F ρ F' ρ' :=
  ⟨h.frz, fun b hb => h.loc b (by omega)⟩

/-- An abstract value is represented by a value; n: how many blocks there are. -/
inductive VRel (sz : TypeId → Nat) (F : Frz) (ρ : Env0) (n : Nat) : AV → Value → Prop
  | d {x : D} {v : Value} (h : FRep sz F x v) : VRel sz F ρ n (.d x) v
  | bl {b : Nat} {e : TypeId} {xs : List D} {v v0 : Value} {hw : Nat} (hb : b < n) (h : FRep sz F (.sl e xs) v)
      (hl : ρ b = .bld v0 hw) (hw' : xs.length ≤ hw) (hcur : hw = xs.length → v = v0) : VRel sz F ρ n (.bl b e xs) v
  | ref {b : Nat} {e : TypeId} {off len cap : Nat} {A : Option Addr} (hb : b < n) (hA : cap ≠ 0 → ∃ ad, A = some ad) (hl : ∀ B N, ρ b = .mt B N → (cap ≠ 0 → A = some ⟨B, off * sz e, none⟩) ∧ off + cap ≤ N) (hc : len ≤ cap) :
      VRel sz F ρ n (.ref b e off len) (.slice A len cap)
  | z0 {e : TypeId} {A : Option Addr} : VRel sz F ρ n (.z0 e) (.slice A 0 0)
  | fp {e : TypeId} {xs : List D} {i off cap : Nat} {ad : Addr} (h : FRep sz F (.sl e xs) (.slice (some ad) xs.length cap)) (hi : i < xs.length) :
      VRel sz F ρ n (.fp e xs i off) (.pointer (some ⟨ad.block, ad.off + (i * sz e + off), none⟩))
  | ptr {b : Nat} {e : TypeId} {i off : Nat} {ad : Addr} (hb : b < n) (hl : ∀ B N, ρ b = .mt B N → ad = ⟨B, i * sz e + off, none⟩) :
      VRel sz F ρ n (.ptr b e i off) (.pointer (some ad))
  | agg (cs : List AV) (vs : Array Value) (hs : vs.size = cs.length) (val : Nat → Value)
      (hv : ∀ (k : Nat) (c : AV), cs[k]? = some c → vs[k]? = some (val k))
      (hr : ∀ (k : Nat) (c : AV), cs[k]? = some c → VRel sz F ρ n c (val k)) : VRel sz F ρ n (.agg cs) (.agg vs)
  | tup (cs : List AV) (vs : Array Value) (hs : vs.size = cs.length) (val : Nat → Value)
      (hv : ∀ (k : Nat) (c : AV), cs[k]? = some c → vs[k]? = some (val k))
      (hr : ∀ (k : Nat) (c : AV), cs[k]? = some c → VRel sz F ρ n c (val k)) : VRel sz F ρ n (.tup cs) (.tuple vs)
  | clo (f : FuncId) (cs : List AV) (vs : Array Value) (hs : vs.size = cs.length) (val : Nat → Value)
      (hv : ∀ (k : Nat) (c : AV), cs[k]? = some c → vs[k]? = some (val k))
      (hr : ∀ (k : Nat) (c : AV), cs[k]? = some c → VRel sz F ρ n c (val k)) : VRel sz F ρ n (.clo f cs) (.func (.func f) #[] vs)
  | bnd (f : FuncId) (bs : List AV) (vs : Array Value) (hs : vs.size = bs.length) (val : Nat → Value)
      (hv : ∀ (k : Nat) (c : AV), bs[k]? = some c → vs[k]? = some (val k))
      (hr : ∀ (k : Nat) (c : AV), bs[k]? = some c → VRel sz F ρ n c (val k)) : VRel sz F ρ n (.bnd f bs) (.func (.func f) vs #[])
  | map {b r : Nat} (hb : b < n) (hl : ρ b = .obj r) : VRel sz F ρ n (.map b) (.map (some r))
  | iter {b r : Nat} (hb : b < n) (hl : ρ b = .obj r) : VRel sz F ρ n (.iter b) (.pointer (some ⟨r, 0, none⟩))
  | gr {b k hw cap : Nat} {e : TypeId} {A : Option Addr} {v0 : Value} (hb : b < n) (hl : ρ b = .bld v0 hw) (h0 : hw = 0 → v0 = .slice A 0 cap) (hk : k ≤ cap) : VRel sz F ρ n (.gr b e k) (.slice A k cap)
  | pb {p : Bool → Prop} {b : Bool} (h : p b) : VRel sz F ρ n (.pb p) (.bool b)
  | unk (v : Value) : VRel sz F ρ n .unk v

theorem VRel.mono {sz : TypeId → Nat} {F F' : Frz} {ρ ρ' : Env0} {n n' : Nat} {a : AV} {v : Value}
    (h : VRel sz F ρ n a v) (hx : Ext n F ρ F' ρ') (hn : n ≤ n') : VRel sz F' ρ' n' a v := by
  induction h with
  | d h => exact .d (h.mono hx.frz)
  | @bl b e xs v v0 hw hb h hl hw' hcur =>
    have hh := hx.loc b hb
    rw [hl] at hh
    obtain ⟨v1, hw1, e1, hle, heq⟩ := hh
    refine .bl (by omega) (h.mono hx.frz) e1 (by omega) (fun e => ?_)
    have : hw = xs.length := by omega
    rw [hcur this, heq (by omega)]
  | ref hb hA hl hc => exact .ref (by omega) hA (fun B N h' => hl B N (Loc.mt_back (hx.loc _ hb) h')) hc
  | z0 => exact .z0
  | fp h hi => exact .fp (h.mono hx.frz) hi
  | ptr hb hl => exact .ptr (by omega) (fun B N h' => hl B N (Loc.mt_back (hx.loc _ hb) h'))
  | agg cs vs hs val hv hr ih => exact .agg cs vs hs val hv ih
  | tup cs vs hs val hv hr ih => exact .tup cs vs hs val hv ih
  | clo f cs vs hs val hv hr ih => exact .clo f cs vs hs val hv ih
  | bnd f cs vs hs val hv hr ih => exact .bnd f cs vs hs val hv ih
  | map hb hl => exact .map (by omega) (by have := hx.loc _ hb; rw [hl] at this; exact this)
  | iter hb hl => exact .iter (by omega) (by have := hx.loc _ hb; rw [hl] at this; exact this)
  | @gr b k hw cap e A v0 hb hl h0 hk =>
    have hh := hx.loc b hb
    rw [hl] at hh
    obtain ⟨v1, hw1, e1, hle, heq⟩ := hh
    exact .gr (by omega) e1 (fun e0 => by rw [← heq (by omega)]; exact h0 (by omega)) hk
  | pb h => exact .pb h
  | unk v => exact .unk v

def AV.cells : AV → List AV
  | .d x => x.cells.map AV.d
  | .agg cs => cs
  | a => [a]

/-- The slots' known values. -/
abbrev Slots := List (Nat × AV)
def look : Slots → Nat → Option AV
  | [], _ => none
  | (k, v) :: r, i => if k = i then some v else look r i

structure Env where
  s : Slots
  h : List Blk

def Env.put (env : Env) (d : Option Tmp) (v : AV) : Env :=
  match d with
  | some d => ⟨(d, v) :: env.s, env.h⟩
  | none => env

/-- Which block of the world is a block's own. -/
def Loc.conc : Loc → Option Nat
  | .mt B _ => some B
  | .obj r => some r
  | .dead => none
  | .bld (.slice (some ad) _ cap) _ => if cap = 0 then none else some ad.block
  | .bld _ _ => none

def BlkRel (sz : TypeId → Nat) (base : Nat) (F : Frz) (ρ : Env0) (n : Nat) (w : World) (b : Nat) : Blk → Prop
  | .cells e xs => ∃ B N c e0, ρ b = .mt B N ∧ base ≤ B ∧ w.heap[B]? = some (.cells c e0 (0, 0)) ∧ (∀ a, a.block = B → F a = none) ∧
      (xs.length ≤ N ∧ N * sz e = c.size ∧ e0 = e) ∧
      ∀ (i : Nat) (x : AV), xs[i]? = some x → x.cells.length = sz e ∧ ∀ (k : Nat) (y : AV), x.cells[k]? = some y → ∃ v : Value, c[i * sz e + k]? = some v ∧ VRel sz F ρ n y v ∧ v.oneCell' = true
  | .tail e hw => ∃ A cap, ρ b = .bld (.slice A hw cap) hw ∧ hw ≤ cap ∧
      (cap ≠ 0 → ∃ ad c e0, A = some ad ∧ ad.spot = none ∧ base ≤ ad.block ∧ w.heap[ad.block]? = some (.cells c e0 (0, 0)) ∧
        (ad.off + cap * sz e = c.size ∧ ad.off = 0 ∧ e0 = e) ∧ ∀ a, a.block = ad.block → F a ≠ none → a.off < ad.off + hw * sz e)
  | .map es => ∃ r m, ρ b = .obj r ∧ base ≤ r ∧ w.heap[r]? = some (.map m m.size) ∧ m.size = es.length ∧
      ∀ (i : Nat) (k : D) (x : AV), es[i]? = some (k, x) → ∃ en : MapEntry, m[i]? = some en ∧ en.born = i ∧ FRep sz F k en.key ∧ VRel sz F ρ n x en.val
  | .iter mb cnt seen => ∃ r r', ρ b = .obj r ∧ base ≤ r ∧ mb < n ∧ ρ mb = .obj r' ∧ w.heap[r]? = some (.mapIter (some r') cnt seen.toArray cnt)
  | .gone => True

/-- The abstract blocks fit the world. -/
structure St (sz : TypeId → Nat) (base : Nat) (w0 : World) (F : Frz) (ρ : Env0) (h : List Blk) (w : World) : Prop where
  frz : ∀ a v, F a = some v → w.cell? a = some v
  blk : ∀ b x, h[b]? = some x → BlkRel sz base F ρ h.length w b x
  dist : ∀ b b' B, b < h.length → b' < h.length → (ρ b).conc = some B → (ρ b').conc = some B → b = b'
  old : ((w.os = w0.os ∧ w.tape = w0.tape ∧ w.output = w0.output) ∧ GlobOk base w0) ∧ ∀ r, r < base → w.heap[r]? = w0.heap[r]?
  hb : base ≤ w.heap.size
  lt : ∀ b B, b < h.length → (ρ b).conc = some B → B < w.heap.size

structure Rel (sz : TypeId → Nat) (base : Nat) (w0 : World) (m nt : Nat) (F : Frz) (ρ : Env0) (env : Env) (a : Act) (w : World) : Prop where
  st : St sz base w0 F ρ env.h w
  slots : ∀ i v, look env.s i = some v → ∃ cv, a.tmps[i]? = some cv ∧ VRel sz F ρ env.h.length v cv
  size : a.tmps.size = nt
  defers : a.defers = []
  le : m ≤ env.h.length

end Go.Vm

/- The table of types, operands, and memory's reads in the machine of values. -/
set_option linter.unusedSimpArgs false
namespace Go.Vm

/-- What is kept of a type. -/
inductive TK where
  | bool | int (k : IntKind) | str
  | ptr (e : TypeId) | sl (e : TypeId) | arr (eq : Bool) (n : Nat) (e : TypeId) | map (k e : TypeId)
  | struct (eq : Bool) (fs : List (Nat × TypeId)) | func | ifc
  deriving Inhabited, DecidableEq

structure TI where
  k : TK
  size : Nat
  bytes : Nat
  zero : List D
  deriving Inhabited

def TI.agg (t : TI) : Bool := match t.k with | .struct _ _ | .arr _ _ _ => true | _ => false

abbrev Tab := List (TypeId × TI)
def Tab.get : Tab → TypeId → Option TI
  | [], _ => none
  | (k, v) :: r, t => if k = t then some v else Tab.get r t

/-- The value of a closed piece of data. -/
def D.val : D → Value
  | .bool b => .bool b
  | .int k n => .int k n
  | .str s => .string ⟨s.toArray⟩
  | .sl _ _ => .slice none 0 0
  | .nilsl => .slice none 0 0
  | .nilptr => .pointer none
  | .nilfn => .nilFunc
  | .nilmap => .map none
  | .nilif => .nilIface
  | .agg _ => .nilIface
  | .fn f => .func (.func f) #[] #[]
  | .ifc _ _ => .nilIface

def D.plain : D → Bool
  | .bool _ | .int _ _ | .str _ | .nilsl | .nilptr | .nilfn | .nilmap | .nilif | .fn _ => true
  | .sl _ xs => xs.isEmpty
  | _ => false

theorem D.val_rep {sz : TypeId → Nat} {F : Frz} {x : D} (h : x.plain = true) : FRep sz F x x.val := by
  cases x with
  | bool b => exact .bool b
  | int k n => exact .int k n
  | str s => exact .str s
  | sl e xs =>
    cases xs with
    | nil => exact .sl e [] none ⟨0, 0, none⟩ 0 (fun _ _ => .nilIface) (by simp) (by simp) (by simp) (by simp) (by simp) (by simp)
    | cons a b => simp [D.plain] at h
  | nilsl => exact .nilsl
  | nilptr => exact .nilptr
  | nilfn => exact .nilfn
  | nilmap => exact .nilmap
  | nilif => exact .nilif
  | agg cs => simp [D.plain] at h
  | fn f => exact .fn f
  | ifc t x => simp [D.plain] at h

def TK.fits : TypeDesc → TK → Bool
  | .bool, .bool => true
  | .int k, .int k' => k == k'
  | .string, .str => true
  | .pointer e, .ptr e' => e == e'
  | .slice e, .sl e' => e == e'
  | .array n e, .arr _ n' e' => n == n' && e == e'
  | .map k e, .map k' e' => k == k' && e == e'
  | .struct fs, .struct _ gs => fs.toList.map (fun f => (f.offset, f.type)) == gs
  | .func _ _ _, .func => true
  | .interface _, .ifc => true
  | _, _ => false

/-- Is a value that of a plain piece of data? -/
def D.isVal : D → Value → Bool
  | .bool b, .bool c => b == c
  | .int k n, .int k' n' => k == k' && n == n'
  | .str s, .string t => s == t.data.toList
  | .sl _ [], .slice none 0 0 => true
  | .nilsl, .slice none 0 0 => true
  | .nilptr, .pointer none => true
  | .nilfn, .nilFunc => true
  | .nilmap, .map none => true
  | .nilif, .nilIface => true
  | _, _ => false

theorem D.isVal_eq {x : D} {v : Value} (h : x.isVal v = true) : x.val = v ∧ x.plain = true := by
  cases x with
  | sl e xs =>
    cases xs with
    | nil =>
      cases v with
      | slice a n c =>
        cases a with
        | none => cases n <;> cases c <;> simp_all [D.isVal, D.val, D.plain]
        | some a => simp [D.isVal] at h
      | _ => simp [D.isVal] at h
    | cons a b => cases v <;> simp [D.isVal] at h
  | nilsl =>
    cases v with
    | slice a n c =>
      cases a with
      | none => cases n <;> cases c <;> simp_all [D.isVal, D.val, D.plain]
      | some a => simp [D.isVal] at h
    | _ => simp [D.isVal] at h
  | str s =>
    cases v with
    | string t =>
      simp only [D.isVal, beq_iff_eq] at h
      refine ⟨?_, rfl⟩
      subst h
      cases t with | mk b => simp [D.val]
    | _ => simp [D.isVal] at h
  | _ => cases v <;> simp_all [D.isVal, D.val, D.plain] <;> (rename_i a; cases a <;> simp_all [D.isVal])

def D.areVals : List D → List Value → Bool
  | [], [] => true
  | x :: xs, v :: vs => x.isVal v && D.areVals xs vs
  | _, _ => false

theorem D.areVals_eq : ∀ {xs : List D} {vs : List Value}, D.areVals xs vs = true → xs.map D.val = vs ∧ ∀ x ∈ xs, x.plain = true
  | [], [], _ => by simp
  | x :: xs, v :: vs, h => by
    simp only [D.areVals, Bool.and_eq_true] at h
    have h1 := D.isVal_eq h.1
    have h2 := D.areVals_eq h.2
    simp only [List.map_cons, List.mem_cons, forall_eq_or_imp]
    exact ⟨by rw [h1.1, h2.1], h1.2, h2.2⟩
  | [], _ :: _, h => by simp [D.areVals] at h
  | _ :: _, [], h => by simp [D.areVals] at h

/-- May values of a struct or an array be compared field by field? -/
def eqOk (P : Program) (t : TypeId) : Bool :=
  !P.eqGuardType P.depth t && match P.underlying t with
    | some (.struct fs) => !P.stoodInHeld t && fs.all fun f => f.name != "_"
    | some (.array _ _) => true
    | _ => false

def TK.eqFlag : TK → Bool
  | .struct b _ => b
  | .arr b _ _ => b
  | _ => false

def TI.checks (P : Program) (t : TypeId) (i : TI) : Bool :=
  (!i.k.eqFlag || eqOk P t) && (match P.underlying t with | some d => TK.fits d i.k | none => false) &&
  (i.agg || i.size == 1) && i.zero.length == i.size && (match P.info? t with
   | some info => info.size == i.size && info.bytes == i.bytes && (match info.zero with | some z => D.areVals i.zero z.cells.toList && (z matches .agg _) == i.agg | none => false)
   | none => false)

def Tab.checks (P : Program) (tab : Tab) : Bool := tab.all fun (t, i) => i.checks P t

def psz (P : Program) (t : TypeId) : Nat := ((P.info? t).map (·.size)).getD 0

structure TI.Good (P : Program) (t : TypeId) (i : TI) : Prop where
  eq : i.k.eqFlag = true → eqOk P t = true
  one : i.agg = false → i.size = 1
  zlen : i.zero.length = i.size
  desc : ∃ d, P.underlying t = some d ∧ TK.fits d i.k = true
  info : ∃ info, P.info? t = some info ∧ info.size = i.size ∧ info.bytes = i.bytes ∧ ∃ z, info.zero = some z ∧ z.cells.toList = i.zero.map D.val ∧ (∀ x ∈ i.zero, x.plain = true) ∧ (z matches .agg _) = i.agg

theorem Tab.good {P : Program} {tab : Tab} (h : tab.checks P = true) {t : TypeId} {i : TI} (hg : tab.get t = some i) : i.Good P t := by
  induction tab with
  | nil => simp [Tab.get] at hg
  | cons a r ih =>
    obtain ⟨k, v⟩ := a
    simp only [Tab.checks, List.all_cons, Bool.and_eq_true] at h
    simp only [Tab.get] at hg
    by_cases e : k = t
    · rw [if_pos e] at hg
      cases hg; subst e
      have h1 := h.1
      simp only [TI.checks, Bool.and_eq_true] at h1
      obtain ⟨⟨⟨⟨heq, hd⟩, ho⟩, hzl⟩, hi⟩ := h1
      constructor
      · intro hf; simpa [hf] using heq
      · intro hf; simpa [hf] using ho
      · simpa using hzl
      · cases hu : P.underlying k with
        | none => simp [hu] at hd
        | some d => rw [hu] at hd; exact ⟨d, rfl, hd⟩
      · cases hu : P.info? k with
        | none => simp [hu] at hi
        | some info =>
          rw [hu] at hi
          simp only [Bool.and_eq_true, beq_iff_eq] at hi
          obtain ⟨⟨h1, h2⟩, h3⟩ := hi
          cases hz : info.zero with
          | none => simp [hz] at h3
          | some z =>
            rw [hz] at h3
            simp only [Bool.and_eq_true, beq_iff_eq] at h3
            have := D.areVals_eq h3.1
            exact ⟨info, rfl, h1, h2, z, hz, this.1.symm, this.2, h3.2⟩
    · rw [if_neg e] at hg
      exact ih h.2 hg

theorem TI.Good.psz {P : Program} {t : TypeId} {i : TI} (h : i.Good P t) : psz P t = i.size := by
  obtain ⟨info, h1, h2, _⟩ := h.info
  simp [Vm.psz, h1, h2]

variable {P : Program} {w : World}

theorem TI.Good.run_sizeOf {t : TypeId} {i : TI} (h : i.Good P t) : (sizeOf t).run P w = .ok i.size w := by
  obtain ⟨info, h1, h2, _⟩ := h.info
  simp [sizeOf, typeInfo, h1, h2]

theorem TI.Good.run_under {t : TypeId} {i : TI} (h : i.Good P t) : ∃ d, (underlying t).run P w = .ok d w ∧ TK.fits d i.k = true := by
  obtain ⟨d, h1, h2⟩ := h.desc
  exact ⟨d, by simp [underlying, h1], h2⟩

theorem TI.Good.run_isAgg {t : TypeId} {i : TI} (h : i.Good P t) : (isAgg t).run P w = .ok i.agg w := by
  obtain ⟨d, h1, h2⟩ := h.run_under (w := w)
  simp only [isAgg, Sem.run_bind, h1, Result.andThen_ok, TI.agg]
  cases i with | mk k s b z => cases d <;> cases k <;> first | (simp [TK.fits] at h2; done) | rfl

end Go.Vm

/- The operations that leave memory as it is: what they give, as a function of the slots and the blocks. -/
set_option linter.unusedSimpArgs false
namespace Go.Vm

def constAV : Value → Option AV
  | .bool b => some (.d (.bool b))
  | .int k n => some (.d (.int k n))
  | .string s => some (.d (.str s.data.toList))
  | .slice none 0 0 => some (.d .nilsl)
  | .pointer none => some (.d .nilptr)
  | .nilFunc => some (.d .nilfn)
  | .map none => some (.d .nilmap)
  | .nilIface => some (.d .nilif)
  | _ => none

def ev (env : Env) : Operand → Option AV
  | .tmp t => look env.s t
  | .const v => constAV v
  | .func f => some (.d (.fn f))
  | .global _ => none

/-- A part of a piece of data: some of its cells. -/
def subD (agg : Bool) (size off : Nat) (x : D) : D :=
  if agg then .agg ((x.cells.drop off).take size) else (x.cells.drop off).headD .nilptr

def AV.allD : List AV → Option (List D)
  | [] => some []
  | .d x :: r => (AV.allD r).map (x :: ·)
  | _ :: _ => none

def AV.pack (cs : List AV) : AV := match AV.allD cs with | some ds => .d (.agg ds) | none => .agg cs

def subAV (agg : Bool) (size off : Nat) : AV → AV
  | .d x => .d (subD agg size off x)
  | x => if agg then AV.pack ((x.cells.drop off).take size) else (x.cells.drop off).headD .unk

def bitD (op : BinOp) (k : IntKind) (a b : Int) : Int :=
  let x := BitVec.ofInt k.bits a
  let y := BitVec.ofInt k.bits b
  match op with
  | .and => k.wrap (x &&& y).toNat
  | .or => k.wrap (x ||| y).toNat
  | .xor => k.wrap (x ^^^ y).toNat
  | .andNot => k.wrap (x &&& ~~~y).toNat
  | _ => 0

def intBin (op : BinOp) (k : IntKind) (a b : Int) : Option (Prop × AV) :=
  match op with
  | .add => some (True, .d (.int k (k.wrap (a + b))))
  | .sub => some (True, .d (.int k (k.wrap (a - b))))
  | .mul => some (True, .d (.int k (k.wrap (a * b))))
  | .quo => some (b ≠ 0, .d (.int k (k.wrap (a.tdiv b))))
  | .rem => some (b ≠ 0, .d (.int k (a.tmod b)))
  | .and | .or | .xor | .andNot => some (True, .d (.int k (bitD op k a b)))
  | .eql => some (True, .d (.bool (decide (a = b))))
  | .neq => some (True, .d (.bool (decide (a ≠ b))))
  | .lss => some (True, .d (.bool (decide (a < b))))
  | .leq => some (True, .d (.bool (decide (a ≤ b))))
  | .gtr => some (True, .d (.bool (decide (b < a))))
  | .geq => some (True, .d (.bool (decide (b ≤ a))))
  | _ => none

def strBin (op : BinOp) (a b : List UInt8) : Option (Prop × AV) :=
  match op with
  | .add => some (a.length + b.length ≤ 9223372036854775807, .d (.str (a ++ b)))
  | .eql => some (True, .d (.bool (decide (a = b))))
  | .neq => some (True, .d (.bool (decide (a ≠ b))))
  | .lss => some (True, .d (.bool (Op.bytesLess a b)))
  | .leq => some (True, .d (.bool (Op.bytesLess a b || decide (a = b))))
  | .gtr => some (True, .d (.bool (!(Op.bytesLess a b || decide (a = b)))))
  | .geq => some (True, .d (.bool (!Op.bytesLess a b)))
  | _ => none

/-- Are two values of a type equal? Bools, numbers and texts, and structs and arrays of such. -/
def eqFs (tab : Tab) (rec : TypeId → D → D → Option Bool) (xs ys : List D) : List (Nat × TypeId) → Option Bool
  | [] => some true
  | (o, ft) :: r => match tab.get ft with
    | some fi => if o + fi.size ≤ xs.length ∧ o + fi.size ≤ ys.length then
        (match rec ft (subD fi.agg fi.size o (.agg xs)) (subD fi.agg fi.size o (.agg ys)), eqFs tab rec xs ys r with
        | some a, some b => some (a && b)
        | _, _ => none) else none
    | none => none

def eqT (tab : Tab) : Nat → TypeId → D → D → Option Bool
  | 0, _, _, _ => none
  | f + 1, t, x, y => match tab.get t with
    | none => none
    | some ti => match ti.k, x, y with
      | .bool, .bool a, .bool b => some (decide (a = b))
      | .int _, .int k a, .int k' b => if k = k' then some (decide (a = b)) else none
      | .str, .str a, .str b => some (decide (a = b))
      | .struct true fs, .agg xs, .agg ys => eqFs tab (eqT tab f) xs ys fs
      | .arr true n e, .agg xs, .agg ys => match tab.get e with
        | some te => eqFs tab (eqT tab f) xs ys ((List.range n).map fun i => (i * te.size, e))
        | none => none
      | _, _, _ => none

/-- A byte, and texts out of bytes. -/
def byteOf : D → UInt8
  | .int _ n => UInt8.ofNat n.toNat
  | _ => 0
def isU8 : D → Prop
  | .int k _ => k = .u8
  | _ => False
def bytesOk : List D → Prop
  | [] => True
  | x :: r => isU8 x ∧ bytesOk r
def bytesAV : AV → Option (TypeId × List D)
  | .d (.sl e xs) => some (e, xs)
  | .bl _ e xs => some (e, xs)
  | _ => none
def nilStr : AV → Option (Prop × AV)
  | .d .nilsl => some (True, .d (.str []))
  | _ => none

/-- Is a value nil (of a type of its own kind)? -/
def nilness : TK → AV → Option (Prop × Bool)
  | .ptr _, .d .nilptr | .sl _, .d .nilsl | .func, .d .nilfn | .map _ _, .d .nilmap => some (True, true)
  | .ptr _, .ptr _ _ _ _ | .ptr _, .fp _ _ _ _ | .func, .d (.fn _) | .func, .clo _ _ | .func, .bnd _ _ | .map _ _, .map _ => some (True, false)
  | _, _ => none

/-- When can a slice be nil? -/
def nilMaybe : TK → AV → Option Prop
  | .sl _, .d (.sl _ xs) => some (xs = [])
  | .sl _, .bl _ _ xs => some (xs = [])
  | .sl _, .ref _ _ _ len => some (len = 0)
  | .sl _, .z0 _ => some True
  | _, _ => none

def isNilC : TK → AV → Bool
  | .ptr _, .d .nilptr | .sl _, .d .nilsl | .func, .d .nilfn | .map _ _, .d .nilmap => true
  | _, _ => false

def eqBin (tab : Tab) (t : TypeId) (neg : Bool) (x y : AV) : Option (Prop × AV) :=
  match tab.get t with
  | none => none
  | some ti => match ti.k, x, y with
    | .bool, .d (.bool a), .d (.bool b) => some (True, .d (.bool (if neg then decide (a ≠ b) else decide (a = b))))
    | .struct true _, .d x, .d y => (eqT tab 9 t x y).map fun b => (True, .d (.bool (if neg then !b else b)))
    | .arr true _ _, .d x, .d y => (eqT tab 9 t x y).map fun b => (True, .d (.bool (if neg then !b else b)))
    | k, x, y =>
      if isNilC k y then (match nilMaybe k x with
        | some q => some (True, .pb fun b => b = !neg → q)
        | none => (nilness k x).map fun (o, b) => (o, .d (.bool (if neg then !b else b))))
      else if isNilC k x then (nilness k y).map fun (o, b) => (o, .d (.bool (if neg then !b else b)))
      else none

def binAV (tab : Tab) (t : TypeId) (op : BinOp) (x y : AV) : Option (Prop × AV) :=
  match x, y with
  | .d (.int k a), .d (.int k' b) =>
    match op with
    | .shl => some (0 ≤ b, .d (.int k (k.wrap (a * 2 ^ (min b.toNat k.bits)))))
    | .shr => some (0 ≤ b, .d (.int k (a.fdiv (2 ^ (min b.toNat k.bits)))))
    | _ => if k = k' then intBin op k a b else none
  | .d (.str a), .d (.str b) => strBin op a b
  | x, y => match op with
    | .eql => eqBin tab t false x y
    | .neq => eqBin tab t true x y
    | _ => none

def unAV (op : UnOp) (x : AV) : Option (Prop × AV) :=
  match op, x with
  | .neg, .d (.int k n) => some (True, .d (.int k (k.wrap (0 - n))))
  | .xor, .d (.int k n) => some (True, .d (.int k (bitD .xor k (if k.signed then -1 else k.max) n)))
  | .not, .d (.bool b) => some (True, .d (.bool (!b)))
  | _, _ => none

def loadAV (tab : Tab) (h : List Blk) (t : TypeId) (a : AV) : Option (Prop × AV) :=
  match a, tab.get t with
  | .fp e xs i off, some ti =>
    match tab.get e with
    | some te => some (off + ti.size ≤ te.size, .d (subD ti.agg ti.size off (xs.getD i .nilptr)))
    | none => none
  | .ptr b e i off, some ti =>
    match tab.get e, h[b]? with
    | some te, some (.cells e' xs) => some (e' = e ∧ i < xs.length ∧ off + ti.size ≤ te.size, subAV ti.agg ti.size off (xs.getD i .unk))
    | _, _ => none
  | _, _ => none

/-- The fields' places of a struct type. -/
def fieldOf (tab : Tab) (t : TypeId) (f : Nat) : Option (Nat × TI) :=
  match tab.get t with
  | some ⟨.struct _ fs, _, _, _⟩ => match fs[f]? with
    | some (o, ft) => (tab.get ft).map fun ti => (o, ti)
    | none => none
  | _ => none

def fieldAddrAV (tab : Tab) (t : TypeId) (a : AV) (f : Nat) : Option (Prop × AV) :=
  match fieldOf tab t f, a with
  | some (o, ti), .fp e xs i off => some (ti.size ≠ 0, .fp e xs i (off + o))
  | some (o, ti), .ptr b e i off => some (ti.size ≠ 0, .ptr b e i (off + o))
  | _, _ => none

def fieldAV (tab : Tab) (t : TypeId) (a : AV) (f : Nat) : Option (Prop × AV) :=
  match fieldOf tab t f, a with
  | some (o, ti), .d (.agg cs) => some (o + ti.size ≤ cs.length, .d (subD ti.agg ti.size o (.agg cs)))
  | some (o, ti), .agg cs => some (o + ti.size ≤ cs.length, subAV ti.agg ti.size o (.agg cs))
  | _, _ => none

def asI : AV → Option Int
  | .d (.int _ n) => some n
  | _ => none

/-- The element type of a slice type, and of an array type. -/
def slOf (tab : Tab) (t : TypeId) : Option TypeId :=
  match tab.get t with
  | some ⟨.sl e, _, _, _⟩ => (tab.get e).map fun _ => e
  | _ => none
def arrOf (tab : Tab) (t : TypeId) : Option (Nat × TI) :=
  match tab.get t with
  | some ⟨.arr _ l e, _, _, _⟩ => (tab.get e).map fun te => (l, te)
  | _ => none
def isStr (tab : Tab) (t : TypeId) : Bool := match tab.get t with | some ⟨.str, _, _, _⟩ => true | _ => false

def indexAddrAV (tab : Tab) (t : TypeId) (x i : AV) : Option (Prop × AV) :=
  match asI i with
  | none => none
  | some n => match slOf tab t with
    | some e => match x with
      | .d (.sl e' xs) => some (e' = e ∧ 0 ≤ n ∧ n < xs.length, .fp e' xs n.toNat 0)
      | .bl _ e' xs => some (e' = e ∧ 0 ≤ n ∧ n < xs.length, .fp e' xs n.toNat 0)
      | .ref b e' off len => some (e' = e ∧ 0 ≤ n ∧ n < len, .ptr b e' (off + n.toNat) 0)
      | _ => none
    | none => match arrOf tab t, x with
      | some (l, te), .ptr b e' i off => some (0 ≤ n ∧ n < l, .ptr b e' i (off + n.toNat * te.size))
      | some (l, te), .fp e' xs i off => some (0 ≤ n ∧ n < l, .fp e' xs i (off + n.toNat * te.size))
      | _, _ => none

def byteAt (s : List UInt8) (i : Nat) : Int := ((s.getD i 0).toNat : Int)

def indexAV (tab : Tab) (t : TypeId) (x i : AV) : Option (Prop × AV) :=
  match asI i with
  | none => none
  | some n => match x with
    | .d (.str s) => if isStr tab t then some (0 ≤ n ∧ n < s.length, .d (.int .u8 (byteAt s n.toNat))) else none
    | .d (.agg cs) => (arrOf tab t).map fun (l, te) => (0 ≤ n ∧ n < l ∧ n.toNat * te.size + te.size ≤ cs.length, subAV te.agg te.size (n.toNat * te.size) (.d (.agg cs)))
    | .agg cs => (arrOf tab t).map fun (l, te) => (0 ≤ n ∧ n < l ∧ n.toNat * te.size + te.size ≤ cs.length, subAV te.agg te.size (n.toNat * te.size) (.agg cs))
    | _ => none

/-- A bound of a slice expression. -/
def bnd (env : Env) (dflt : Int) : Option Operand → Option Int
  | none => some dflt
  | some x => (ev env x).bind asI

def sliceAV (tab : Tab) (env : Env) (t : TypeId) (x : AV) (lo hi mx : Option Operand) : Option (Prop × AV) :=
  match mx with
  | none => match x with
    | .d (.str s) => match isStr tab t, bnd env 0 lo, bnd env s.length hi with
      | true, some l, some h => some (0 ≤ l ∧ l ≤ h ∧ h ≤ s.length, .d (.str ((s.take h.toNat).drop l.toNat)))
      | _, _, _ => none
    | .d (.sl e' xs) => match slOf tab t, bnd env 0 lo, bnd env xs.length hi with
      | some e, some l, some h => some (e' = e ∧ 0 ≤ l ∧ l ≤ h ∧ h ≤ xs.length, .d (.sl e' ((xs.take h.toNat).drop l.toNat)))
      | _, _, _ => none
    | .bl _ e' xs => match slOf tab t, bnd env 0 lo, bnd env xs.length hi with
      | some e, some l, some h => some (e' = e ∧ 0 ≤ l ∧ l ≤ h ∧ h ≤ xs.length, .d (.sl e' ((xs.take h.toNat).drop l.toNat)))
      | _, _, _ => none
    | .ref b e' off len => match slOf tab t, bnd env 0 lo, bnd env len hi with
      | some e, some l, some h => some (e' = e ∧ 0 ≤ l ∧ l ≤ h ∧ h ≤ len, .ref b e' (off + l.toNat) (h.toNat - l.toNat))
      | _, _, _ => none
    | .gr b e' k => match slOf tab t, bnd env 0 lo, bnd env k hi with
      | some e, some l, some h => some (e' = e ∧ l = 0 ∧ h = 0, .bl b e' [])
      | _, _, _ => none
    | .d .nilsl => match slOf tab t, bnd env 0 lo, bnd env 0 hi with
      | some _, some l, some h => some (l = 0 ∧ h = 0, .d .nilsl)
      | _, _, _ => none
    | _ => none
  | some m => match (ev env m).bind asI, bnd env 0 lo, hi.bind fun x => (ev env x).bind asI, slOf tab t with
    | some 0, some 0, some 0, some _ => match x with
      | .d (.sl e _) => some (True, .z0 e)
      | .bl _ e _ => some (True, .z0 e)
      | .ref _ e _ _ => some (True, .z0 e)
      | .d .nilsl => some (True, .d .nilsl)
      | _ => none
    | _, _, _, _ => none

def lenAV (str sl : Bool) : AV → Option Int
  | .d (.str s) => if str then some s.length else none
  | .d (.sl _ xs) => if sl then some xs.length else none
  | .d .nilsl => if sl then some 0 else none
  | .z0 _ => if sl then some 0 else none
  | .bl _ _ xs => if sl then some xs.length else none
  | .ref _ _ _ len => if sl then some len else none
  | _ => none

def setCells (cs : List AV) (off : Nat) (vs : List AV) : List AV := cs.take off ++ vs ++ cs.drop (off + vs.length)

def minmax (mx : Bool) : List AV → Option (IntKind × Int)
  | [.d (.int k a)] => some (k, a)
  | [.d (.int k a), .d (.int k' b)] => if k = k' then some (k, if mx then max a b else min a b) else none
  | [.d (.int k a), .d (.int k' b), .d (.int k'' c)] => if k = k' ∧ k = k'' then some (k, if mx then max (max a b) c else min (min a b) c) else none
  | _ => none

/-! Maps whose keys are bools, numbers or texts. -/

def zeroAV (ti : TI) : AV := if ti.agg then .d (.agg ti.zero) else .d (ti.zero.headD .nilptr)

def keyEq : D → D → Option Bool
  | .int k a, .int k' b => if k = k' then some (decide (a = b)) else none
  | .str a, .str b => some (decide (a = b))
  | .bool a, .bool b => some (decide (a = b))
  | _, _ => none

def mapFind (k : D) : List (D × AV) → Option (Option AV)
  | [] => some none
  | (k', v) :: r => match keyEq k k' with
    | some b => if b then some (some v) else mapFind k r
    | none => none

def mapPut (k : D) (v : AV) : List (D × AV) → Option (List (D × AV))
  | [] => some [(k, v)]
  | (k', v') :: r => match keyEq k k' with
    | some b => if b then some ((k', v) :: r) else (mapPut k v r).map ((k', v') :: ·)
    | none => none

def keyOk (tab : Tab) (kt : TypeId) (k : D) : Bool :=
  match tab.get kt, k with
  | some ⟨.int _, _, _, _⟩, .int _ _ => true
  | some ⟨.str, _, _, _⟩, .str _ => true
  | some ⟨.bool, _, _, _⟩, .bool _ => true
  | _, _ => false

/-- A map type's key type, and what is kept of its element type. -/
def mapOf (tab : Tab) (t : TypeId) : Option (TypeId × TI) :=
  match tab.get t with
  | some ⟨.map k e, _, _, _⟩ => (tab.get e).map fun te => (k, te)
  | _ => none

def lookupAV (tab : Tab) (h : List Blk) (t : TypeId) (m k : AV) (ok : Bool) : Option (Prop × AV) :=
  match mapOf tab t, k with
  | some (kt, te), .d kd => if keyOk tab kt kd then
      (match m with
        | .d .nilmap => some (True, if ok then .tup [zeroAV te, .d (.bool false)] else zeroAV te)
        | .map b => match h[b]? with
          | some (.map es) => (mapFind kd es).map fun r => (True, if ok then .tup [r.getD (zeroAV te), .d (.bool r.isSome)] else r.getD (zeroAV te))
          | _ => none
        | _ => none) else none
  | _, _ => none

/-- What an operation that leaves memory as it is gives: what must hold, and the value. -/
def evL (tab : Tab) (env : Env) : Op → Option (Prop × AV)
  | .move x | .assign x => (ev env x).map fun v => (True, v)
  | .pick c a b => match ev env c with
    | some (.d (.bool t)) => some (True, if t then (ev env a).getD .unk else (ev env b).getD .unk)
    | _ => none
  | .binOp op t x y _ => match ev env x, ev env y with
    | some a, some b => binAV tab t op a b
    | _, _ => none
  | .unOp op _ x => match ev env x with
    | some a => unAV op a
    | none => none
  | .convert s d x => match tab.get s, tab.get d, ev env x with
    | some ⟨.int _, _, _, _⟩, some ⟨.int k, _, _, _⟩, some (.d (.int _ n)) => some (True, .d (.int k (k.wrap n)))
    | some ⟨.str, _, _, _⟩, some ⟨.str, _, _, _⟩, some (.d (.str t)) => some (True, .d (.str t))
    | some ⟨.int _, _, _, _⟩, some ⟨.str, _, _, _⟩, some (.d (.int _ n)) => some (True, .d (.str (Utf8.encode n).data.toList))
    | some ⟨.sl e, _, _, _⟩, some ⟨.str, _, _, _⟩, some v => match tab.get e, bytesAV v with
      | some ⟨.int .u8, _, _, _⟩, some (e', xs) => some (e' = e ∧ bytesOk xs, .d (.str (xs.map byteOf)))
      | some ⟨.int .u8, _, _, _⟩, none => nilStr v
      | _, _ => none
    | _, _, _ => none
  | .load t a => match ev env a with
    | some v => loadAV tab env.h t v
    | none => none
  | .fieldAddr t x f => match ev env x with
    | some v => fieldAddrAV tab t v f
    | none => none
  | .field t x f => match ev env x with
    | some v => fieldAV tab t v f
    | none => none
  | .indexAddr t x i => match ev env x, ev env i with
    | some a, some b => indexAddrAV tab t a b
    | _, _ => none
  | .index t x i => match ev env x, ev env i with
    | some a, some b => indexAV tab t a b
    | _, _ => none
  | .slice t x lo hi mx => match ev env x with
    | some a => sliceAV tab env t a lo hi mx
    | none => none
  | .lookup t m k ok => match ev env m, ev env k with
    | some mv, some kv => lookupAV tab env.h t mv kv ok
    | _, _ => none
  | .extract x i => match ev env x with
    | some (.tup vs) => (vs[i]?).map fun v => (True, v)
    | _ => none
  | .nilCheck x => match ev env x with
    | some (.ptr b e i o) => some (True, .ptr b e i o)
    | some (.fp e xs i o) => some (True, .fp e xs i o)
    | some (.d (.fn f)) => some (True, .d (.fn f))
    | some (.clo f cs) => some (True, .clo f cs)
    | some (.bnd f bs) => some (True, .bnd f bs)
    | _ => none
  | .makeFunc (.func f) first caps => if first.size = 0 then
      (match caps.toList.mapM (ev env) with
       | some [] => some (True, .d (.fn f))
       | some cs => some (True, .clo f cs)
       | none => none)
    else if caps.size = 0 then (first.toList.mapM (ev env)).map fun bs => (True, .bnd f bs) else none
  | .call { callee := .builtin .len, args := args, argTypes := ts } => match args.toList, ts.toList with
    | [x], [t] => match arrOf tab t with
      | some (n, _) => some (True, .d (.int .i64 n))
      | none => ((ev env x).bind (lenAV (isStr tab t) (slOf tab t).isSome)).map fun n => (True, .d (.int .i64 n))
    | _, _ => none
  | .call { callee := .builtin .cap, args := args, argTypes := ts } => match args.toList, ts.toList with
    | [x], [t] => match slOf tab t, ev env x with
      | some _, some (.d .nilsl) => some (True, .d (.int .i64 0))
      | _, _ => none
    | _, _ => none
  | .call { callee := .builtin .min, args := args, argTypes := _ } => (args.toList.mapM (ev env)).bind fun vs => (minmax false vs).map fun (k, n) => (True, .d (.int k n))
  | .call { callee := .builtin .max, args := args, argTypes := _ } => (args.toList.mapM (ev env)).bind fun vs => (minmax true vs).map fun (k, n) => (True, .d (.int k n))
  | _ => none

end Go.Vm

/- Soundness of operands, of arithmetic, and of reads. -/
set_option linter.unusedSimpArgs false
namespace Go.Vm
variable {P : Program} {sz : TypeId → Nat} {base : Nat} {w0 : World} {m nt : Nat} {F : Frz} {ρ : Env0} {env : Env} {a : Act} {w : World} {n : Nat}

theorem constAV_sound {v : Value} {x : AV} (h : constAV v = some x) : VRel sz F ρ n x v := by
  cases v with
  | bool b => cases h; exact .d (.bool b)
  | int k i => cases h; exact .d (.int k i)
  | string s => cases h; cases s with | mk d => exact .d (by have := FRep.str (sz := sz) (F := F) d.toList; simpa using this)
  | slice ad l c =>
    cases ad with
    | none => cases l <;> cases c <;> first | (cases h; exact .d .nilsl) | (simp [constAV] at h)
    | some ad => simp [constAV] at h
  | pointer ad => cases ad with
    | none => cases h; exact .d .nilptr
    | some ad => simp [constAV] at h
  | nilFunc => cases h; exact .d .nilfn
  | map r => cases r with
    | none => cases h; exact .d .nilmap
    | some r => simp [constAV] at h
  | nilIface => cases h; exact .d .nilif
  | _ => simp [constAV] at h

theorem ev_sound (hr : Rel sz base w0 m nt F ρ env a w) {x : Operand} {v : AV} (h : ev env x = some v) :
    VRel sz F ρ env.h.length v (a.eval x) := by
  cases x with
  | tmp t =>
    obtain ⟨cv, h1, h2⟩ := hr.slots t v h
    simp [Act.eval, h1, h2]
  | const v => exact constAV_sound h
  | global g => simp [ev] at h
  | func f => cases h; exact .d (.fn f)

theorem VRel.int_inv {k : IntKind} {i : Int} {v : Value} (h : VRel sz F ρ n (.d (.int k i)) v) : v = .int k i := by
  cases h with | d h => cases h; rfl
theorem VRel.bool_inv {b : Bool} {v : Value} (h : VRel sz F ρ n (.d (.bool b)) v) : v = .bool b := by
  cases h with | d h => cases h; rfl
theorem VRel.str_inv {s : List UInt8} {v : Value} (h : VRel sz F ρ n (.d (.str s)) v) : v = .string ⟨s.toArray⟩ := by
  cases h with | d h => cases h; rfl

theorem rint (k : IntKind) (i : Int) : VRel sz F ρ n (.d (.int k i)) (.int k i) := .d (.int k i)
theorem rbool (b : Bool) : VRel sz F ρ n (.d (.bool b)) (.bool b) := .d (.bool b)
theorem rstr (s : List UInt8) : VRel sz F ρ n (.d (.str s)) (.string ⟨s.toArray⟩) := .d (.str s)

/-- A pure answer: the same world, a value that stands for the abstract one. -/
def Gives (P : Program) (sz : TypeId → Nat) (F : Frz) (ρ : Env0) (n : Nat) (w : World) (s : Sem Value) (v : AV) : Prop :=
  ∃ cv, s.run P w = .ok cv w ∧ VRel sz F ρ n v cv

theorem dec_beq {α : Type} [BEq α] [LawfulBEq α] [DecidableEq α] (x y : α) : (x == y) = decide (x = y) := by
  by_cases h : x = y <;> simp [h]

theorem intBin_sound {op : BinOp} {t : TypeId} {k : IntKind} {x y : Int} {ob : Prop} {v : AV} (h : intBin op k x y = some (ob, v)) (hob : ob) :
    Gives P sz F ρ n w (binOp op t (.int k x) (.int k y)) v := by
  cases op <;> simp only [intBin, Option.some.injEq, Prod.mk.injEq, reduceCtorEq] at h <;> obtain ⟨h1, rfl⟩ := h
  case add | sub | mul => exact ⟨_, by simp only [binOp, ne_eq, not_true_eq_false, if_false]; rfl, rint _ _⟩
  case quo | rem => exact ⟨_, by subst h1; simp only [binOp, ne_eq, not_true_eq_false, if_false, Op.intDiv, if_neg hob]; rfl, rint _ _⟩
  case and | or | xor | andNot => exact ⟨_, by simp only [binOp, ne_eq, not_true_eq_false, if_false]; rfl, rint _ _⟩
  case lss | leq | gtr | geq => exact ⟨_, by simp only [binOp, ne_eq, not_true_eq_false, if_false]; rfl, rbool _⟩
  case eql => exact ⟨_, by simp only [binOp, ne_eq, not_true_eq_false, if_false, Op.intCmp, dec_beq]; rfl, rbool _⟩
  case neq => exact ⟨_, by simp only [binOp, ne_eq, not_true_eq_false, if_false, Op.intCmp, dec_beq, bne]; rfl, by simpa using rbool _⟩

theorem toList_mk (s : List UInt8) : (ByteArray.mk s.toArray).toList = s := by
  rw [ByteArray.toList_eq]

theorem strBin_sound {op : BinOp} {t : TypeId} {x y : List UInt8} {ob : Prop} {v : AV} (h : strBin op x y = some (ob, v)) (hob : ob) :
    Gives P sz F ρ n w (binOp op t (.string ⟨x.toArray⟩) (.string ⟨y.toArray⟩)) v := by
  cases op <;> simp only [strBin, Option.some.injEq, Prod.mk.injEq, reduceCtorEq] at h <;> obtain ⟨h1, rfl⟩ := h
  case add =>
    subst h1
    refine ⟨.string ⟨(x ++ y).toArray⟩, ?_, rstr _⟩
    have h2 : ¬ (((ByteArray.mk x.toArray).size + (ByteArray.mk y.toArray).size : Nat) : Int) > IntKind.i64.max := by
      show ¬ (((x.toArray.size + y.toArray.size : Nat) : Int) > 9223372036854775807)
      simp only [List.size_toArray]; omega
    simp only [binOp, Op.stringOp, h2, if_false, Sem.run_pure]
    congr 2
  all_goals exact ⟨_, by simp only [binOp, Op.stringOp, toList_mk, dec_beq, Sem.run_pure]; rfl, by simpa using rbool _⟩

theorem Gives.pure {v : AV} {cv : Value} (h : VRel sz F ρ n v cv) : Gives P sz F ρ n w (Pure.pure cv) v := ⟨cv, rfl, h⟩

theorem Tab.get_good {tab : Tab} (hT : tab.checks P = true) {t : TypeId} {ti : TI} (h : tab.get t = some ti) : ti.Good P t := Tab.good hT h

/-- Is a value of a kind nil? -/
inductive NilV : TK → Value → Bool → Prop
  | ptr (e : TypeId) (a : Option Addr) : NilV (.ptr e) (.pointer a) a.isNone
  | sl (e : TypeId) (a : Option Addr) (l c : Nat) : NilV (.sl e) (.slice a l c) a.isNone
  | fnil : NilV .func .nilFunc true
  | func (f : Fn) (a b : Array Value) : NilV .func (.func f a b) false
  | map (k e : TypeId) (r : Option Nat) : NilV (.map k e) (.map r) r.isNone

theorem nilness_sound {k : TK} {x : AV} {ob : Prop} {b : Bool} {v : Value} (h : nilness k x = some (ob, b)) (hob : ob) (r : VRel sz F ρ n x v) : NilV k v b := by
  cases r with
  | d hd =>
    cases hd <;> cases k <;> simp only [nilness, Option.some.injEq, Prod.mk.injEq, reduceCtorEq] at h <;> obtain ⟨h1, h2⟩ := h <;> subst h2 <;> subst h1
    case nilsl.sl => exact .sl _ none _ _
    case nilptr.ptr => exact .ptr _ none
    case nilfn.func => exact .fnil
    case nilmap.map => exact .map _ _ none
    case fn.func => exact .func _ _ _
  | z0 => cases k <;> simp [nilness] at h
  | fp hf hi =>
    cases k <;> simp only [nilness, Option.some.injEq, Prod.mk.injEq, reduceCtorEq] at h
    obtain ⟨h1, h2⟩ := h; subst h2
    exact .ptr _ (some _)
  | ptr hb hl =>
    cases k <;> simp only [nilness, Option.some.injEq, Prod.mk.injEq, reduceCtorEq] at h
    obtain ⟨h1, h2⟩ := h; subst h2
    exact .ptr _ (some _)
  | bnd =>
    cases k <;> simp only [nilness, Option.some.injEq, Prod.mk.injEq, reduceCtorEq] at h
    obtain ⟨h1, h2⟩ := h; subst h2
    exact .func _ _ _
  | clo =>
    cases k <;> simp only [nilness, Option.some.injEq, Prod.mk.injEq, reduceCtorEq] at h
    obtain ⟨h1, h2⟩ := h; subst h2
    exact .func _ _ _
  | map hb hl =>
    cases k <;> simp only [nilness, Option.some.injEq, Prod.mk.injEq, reduceCtorEq] at h
    obtain ⟨h1, h2⟩ := h; subst h2
    exact .map _ _ (some _)
  | _ => cases k <;> simp [nilness] at h

theorem nilMaybe_sound {k : TK} {x : AV} {q : Prop} {v : Value} (h : nilMaybe k x = some q) (r : VRel sz F ρ n x v) : ∃ b, NilV k v b ∧ (b = true → q) := by
  unfold nilMaybe at h
  split at h <;> simp only [Option.some.injEq, reduceCtorEq] at h <;> subst h
  · cases r with | d r => cases r with
    | sl _ _ A ad cap val hA =>
      exact ⟨_, .sl _ _ _ _, fun hb => Classical.byContradiction fun hne => by rw [(hA hne).1] at hb; simp at hb⟩
  · cases r with | bl hb r hl hw hc => cases r with
    | sl _ _ A ad cap val hA =>
      exact ⟨_, .sl _ _ _ _, fun hb => Classical.byContradiction fun hne => by rw [(hA hne).1] at hb; simp at hb⟩
  · cases r with | ref hb hA hl hc =>
    exact ⟨_, .sl _ _ _ _, fun hb => Classical.byContradiction fun hne => by obtain ⟨ad, rfl⟩ := hA (by omega); simp at hb⟩
  · cases r with | z0 => exact ⟨_, .sl _ _ _ _, fun _ => trivial⟩

theorem isNilC_nilness {k : TK} {x : AV} (h : isNilC k x = true) : nilness k x = some (True, true) := by
  cases k <;> cases x <;> (try (simp [isNilC] at h; done)) <;> (rename_i y; cases y <;> first | rfl | (simp [isNilC] at h; done))

theorem NilV.true_inv {k : TK} {u : Value} {b : Bool} (h : NilV k u b) (hb : b = true) :
    (∃ e, k = .ptr e ∧ u = .pointer none) ∨ (∃ e l c, k = .sl e ∧ u = .slice none l c) ∨ (k = .func ∧ u = .nilFunc) ∨ (∃ a b, k = .map a b ∧ u = .map none) := by
  cases h with
  | ptr e a => cases a with
    | none => exact .inl ⟨e, rfl, rfl⟩
    | some a => simp at hb
  | sl e a l c => cases a with
    | none => exact .inr (.inl ⟨e, l, c, rfl, rfl⟩)
    | some a => simp at hb
  | fnil => exact .inr (.inr (.inl ⟨rfl, rfl⟩))
  | func => simp at hb
  | map k e r => cases r with
    | none => exact .inr (.inr (.inr ⟨k, e, rfl, rfl⟩))
    | some a => simp at hb

theorem nil_eq {k : TK} {v u : Value} {b : Bool} {d : TypeDesc} {t : TypeId} (hd : TK.fits d k = true) (hu : P.underlying t = some d) (hv : NilV k v b) (hn : NilV k u true) :
    ((Op.equal t v u).run P w = .ok b w ∧ (Op.equal t u v).run P w = .ok b w) ∧
    (∀ op c e, (eqGuard op t c e v u).run P w = .ok () w ∧ (eqGuard op t c e u v).run P w = .ok () w) ∧
    (binOp .eql t v u = (do Pure.pure (.bool (← Op.equal t v u))) ∧ binOp .neq t v u = (do Pure.pure (.bool (!(← Op.equal t v u))))) ∧
    (binOp .eql t u v = (do Pure.pure (.bool (← Op.equal t u v))) ∧ binOp .neq t u v = (do Pure.pure (.bool (!(← Op.equal t u v))))) := by
  have hun : (underlying t).run P w = .ok d w := by simp [underlying, hu]
  refine ⟨?_, ?_, ?_, ?_⟩
  · suffices hs : ∀ dd : Nat, (Op.equalIn (dd + 1) t v u).run P w = .ok b w ∧ (Op.equalIn (dd + 1) t u v).run P w = .ok b w from hs 9999
    intro dd
    rcases hn.true_inv rfl with ⟨e, rfl, rfl⟩ | ⟨e, l, c, rfl, rfl⟩ | ⟨rfl, rfl⟩ | ⟨e, l, rfl, rfl⟩ <;> cases d <;> simp only [TK.fits, Bool.false_eq_true] at hd
    · cases hv with | ptr _ a => cases a <;> simp only [Op.equalIn, Sem.run_bind, hun, Result.andThen_ok, Sem.run_pure] <;> simp
    · cases hv with | sl _ a => cases a <;> simp only [Op.equalIn, Sem.run_bind, hun, Result.andThen_ok, Sem.run_pure] <;> simp
    · cases hv <;> simp only [Op.equalIn, Sem.run_bind, hun, Result.andThen_ok, Sem.run_pure] <;> simp
    · cases hv with | map _ _ a => cases a <;> simp only [Op.equalIn, Sem.run_bind, hun, Result.andThen_ok, Sem.run_pure] <;> simp
  · intro op c e
    rcases hn.true_inv rfl with ⟨e, rfl, rfl⟩ | ⟨e, l, c, rfl, rfl⟩ | ⟨rfl, rfl⟩ | ⟨e, l, rfl, rfl⟩ <;> cases hv <;> cases op <;> simp [eqGuard]
  · rcases hn.true_inv rfl with ⟨e, rfl, rfl⟩ | ⟨e, l, c, rfl, rfl⟩ | ⟨rfl, rfl⟩ | ⟨e, l, rfl, rfl⟩ <;> cases hv <;> simp [binOp]
  · rcases hn.true_inv rfl with ⟨e, rfl, rfl⟩ | ⟨e, l, c, rfl, rfl⟩ | ⟨rfl, rfl⟩ | ⟨e, l, rfl, rfl⟩ <;> cases hv <;> simp [binOp]

end Go.Vm

/- Soundness of loads, fields, indices and slice expressions. -/
set_option linter.unusedSimpArgs false
namespace Go.Vm
variable {P : Program} {sz : TypeId → Nat} {base : Nat} {w0 : World} {m nt : Nat} {F : Frz} {ρ : Env0} {env : Env} {a : Act} {w : World} {n : Nat}

theorem add_none (B o k : Nat) : (Addr.add ⟨B, o, none⟩ k) = ⟨B, o + k, none⟩ := by
  unfold Addr.add
  by_cases h : k = 0 <;> simp [h]

theorem add_spot {ad : Addr} (h : ad.spot = none) (k : Nat) : ad.add k = ⟨ad.block, ad.off + k, none⟩ := by
  cases ad with | mk b o s => cases h; exact add_none b o k

/-- Reading consecutive cells. -/
theorem loadCellsFrom_run {ad : Addr} (hs : ad.spot = none) (val : Nat → Value) : ∀ (k i : Nat) (acc : Array Value),
    (∀ j, j < k → w.cell? ⟨ad.block, ad.off + (i + j), none⟩ = some (val (i + j))) →
    (loadCellsFrom ad i k acc).run P w = .ok (acc ++ ((List.range k).map fun j => val (i + j)).toArray) w
  | 0, i, acc, _ => by simp [loadCellsFrom]
  | k + 1, i, acc, h => by
    have h0 := h 0 (by omega)
    simp only [Nat.add_zero] at h0
    simp only [loadCellsFrom, Sem.run_bind, run_load, add_spot hs, h0, Result.andThen_ok]
    rw [loadCellsFrom_run hs val k (i + 1) _ (fun j hj => by have := h (j + 1) (by omega); rw [show i + 1 + j = i + (j + 1) from by omega]; exact this)]
    congr 1
    rw [List.range_succ_eq_map]
    simp [Function.comp_def, Nat.add_assoc, Nat.add_comm 1]

theorem loadCells_run {ad : Addr} (hs : ad.spot = none) (val : Nat → Value) (k : Nat)
    (h : ∀ j, j < k → w.cell? ⟨ad.block, ad.off + j, none⟩ = some (val j)) :
    (loadCells ad k).run P w = .ok ((List.range k).map val).toArray w := by
  unfold loadCells
  rw [loadCellsFrom_run hs val k 0 #[] (fun j hj => by simpa using h j hj)]
  simp

theorem loadVar_agg {t : TypeId} {ti : TI} (hg : ti.Good P t) (hagg : ti.agg = true) {ad : Addr} (hs : ad.spot = none) (val : Nat → Value)
    (h : ∀ j, j < ti.size → w.cell? ⟨ad.block, ad.off + j, none⟩ = some (val j)) :
    (loadVar t ad).run P w = .ok (.agg ((List.range ti.size).map val).toArray) w := by
  simp only [loadVar, Sem.run_bind, hg.run_isAgg, Result.andThen_ok, hagg, if_true, hg.run_sizeOf, loadCells_run hs val _ h, Sem.run_pure]

theorem loadVar_one {t : TypeId} {ti : TI} (hg : ti.Good P t) (hagg : ti.agg = false) {ad : Addr} {v : Value}
    (h : w.cell? ad = some v) : (loadVar t ad).run P w = .ok v w := by
  simp only [loadVar, Sem.run_bind, hg.run_isAgg, Result.andThen_ok, hagg, run_load, h, Bool.false_eq_true, if_false]

theorem cells_agg (cs : List D) : (D.agg cs).cells = cs := rfl

theorem D.cells_pos (x : D) (h : ∀ cs, x ≠ .agg cs) : x.cells = [x] := by
  cases x <;> first | rfl | exact absurd rfl (h _)

/-- Some cells of a frozen row: as data. -/
theorem sub_rep {e : TypeId} {xs : List D} {cap : Nat} {ad : Addr} (h : FRep sz F (.sl e xs) (.slice (some ad) xs.length cap)) {i off k : Nat} (hi : i < xs.length)
    (hk : off + k ≤ sz e) : ad.spot = none ∧ ∃ val : Nat → Value, (∀ j, j < k → F ⟨ad.block, ad.off + (i * sz e + off) + j, none⟩ = some (val j)) ∧
      ∀ j, j < k → ∃ c, (xs.getD i .nilptr).cells[off + j]? = some c ∧ FRep sz F c (val j) := by
  generalize hv : Value.slice (some ad) xs.length cap = v at h
  cases h with
  | sl _ _ A ad' cap' val hA hc hl hF hr ho =>
    simp only [Value.slice.injEq] at hv
    obtain ⟨hA', _, _⟩ := hv
    have hne : xs ≠ [] := by intro h0; simp [h0] at hi
    obtain ⟨h1, h2⟩ := hA hne
    rw [← hA'] at h1
    cases h1
    have hx : xs[i]? = some (xs.getD i .nilptr) := by simp [List.getD, List.getElem?_eq_getElem hi]
    have hlen := hl i _ hx
    refine ⟨h2, fun j => val i (off + j), fun j hj => ?_, fun j hj => ?_⟩
    · have hc' : (xs.getD i .nilptr).cells[off + j]? = some ((xs.getD i .nilptr).cells[off + j]'(by omega)) := List.getElem?_eq_getElem _
      have := hF i _ (off + j) _ hx hc'
      rw [show ad.off + (i * sz e + off) + j = ad.off + (i * sz e + (off + j)) from by omega]
      exact this
    · have hc' : (xs.getD i .nilptr).cells[off + j]? = some ((xs.getD i .nilptr).cells[off + j]'(by omega)) := List.getElem?_eq_getElem _
      exact ⟨_, hc', hr i _ (off + j) _ hx hc'⟩

theorem headD_drop {α : Type} (l : List α) (k : Nat) (d : α) : (l.drop k).headD d = l.getD k d := by
  induction l generalizing k with
  | nil => simp
  | cons x l ih => cases k with
    | zero => rfl
    | succ k => simp

theorem ptr_eq (e : TypeId) (ad : Addr) (i off : Nat) : ad.off + (i * sz e + off) = ad.off + (i * sz e + off) := rfl

theorem load_fp (hT : ∀ (a : Addr) (v : Value), F a = some v → w.cell? a = some v) {t : TypeId} {ti : TI} (hg : ti.Good P t)
    {e : TypeId} {xs : List D} {i off : Nat} {cv : Value} (hv : VRel sz F ρ n (.fp e xs i off) cv) (hk : off + ti.size ≤ sz e) :
    Gives P sz F ρ n w (Instr.loadAt t cv) (.d (subD ti.agg ti.size off (xs.getD i .nilptr))) := by
  cases hv with
  | @fp _ _ _ _ cap ad h hi =>
    obtain ⟨hs, val, hF, hr⟩ := sub_rep h hi hk
    cases hagg : ti.agg with
    | true =>
      refine ⟨.agg ((List.range ti.size).map val).toArray, ?_, .d ?_⟩
      · simp only [Instr.loadAt, Instr.sureAddr, pure_bind]
        exact loadVar_agg hg hagg rfl val (fun j hj => hT _ _ (hF j hj))
      · simp only [subD, if_true]
        have hlen : (((xs.getD i .nilptr).cells.drop off).take ti.size).length = ti.size := by
          simp only [List.length_take, List.length_drop]
          rcases Nat.eq_zero_or_pos ti.size with h0 | h0
          · omega
          · obtain ⟨c, hc, _⟩ := hr (ti.size - 1) (by omega)
            have := (List.getElem?_eq_some_iff.mp hc).1
            omega
        refine .agg _ _ (by rw [hlen]; simp) val (fun k c hk' => ?_) (fun k c hk' => ?_)
        · have hkl := (List.getElem?_eq_some_iff.mp hk').1
          rw [hlen] at hkl
          simp [hkl]
        · have hkl := (List.getElem?_eq_some_iff.mp hk').1
          rw [hlen] at hkl
          obtain ⟨c', hc', hr'⟩ := hr k hkl
          rw [List.getElem?_take_of_lt hkl, List.getElem?_drop, hc'] at hk'
          cases hk'
          exact hr'
    | false =>
      have h1' := hg.one hagg
      obtain ⟨c, hc, hr'⟩ := hr 0 (by omega)
      refine ⟨val 0, ?_, .d ?_⟩
      · simp only [Instr.loadAt, Instr.sureAddr, pure_bind]
        exact loadVar_one hg hagg (hT _ _ (by simpa using hF 0 (by omega)))
      · simp only [subD, Bool.false_eq_true, if_false, headD_drop]
        rw [List.getD, show (xs.getD i .nilptr).cells[off]? = some c from by simpa using hc]
        exact hr'

theorem AV.allD_some : ∀ {cs : List AV} {ds : List D}, AV.allD cs = some ds → cs = ds.map AV.d
  | [], ds, h => by simp [AV.allD] at h; simp [h]
  | .d x :: r, ds, h => by
    simp only [AV.allD, Option.map_eq_some_iff] at h
    obtain ⟨ds', h', rfl⟩ := h
    simp [AV.allD_some h']
  | .bl _ _ _ :: _, _, h | .ref _ _ _ _ :: _, _, h | .z0 _ :: _, _, h | .fp _ _ _ _ :: _, _, h | .ptr _ _ _ _ :: _, _, h | .agg _ :: _, _, h
  | .tup _ :: _, _, h | .clo _ _ :: _, _, h | .bnd _ _ :: _, _, h | .map _ :: _, _, h | .iter _ :: _, _, h | .gr _ _ _ :: _, _, h | .pb _ :: _, _, h | .unk :: _, _, h => by simp [AV.allD] at h

theorem VRel.d_inv {x : D} {v : Value} (h : VRel sz F ρ n (.d x) v) : FRep sz F x v := by cases h with | d h => exact h

/-- A struct's value, out of its cells. -/
theorem pack_rel {cs : List AV} {vs : Array Value} (hs : vs.size = cs.length) (val : Nat → Value) (hv : ∀ k c, cs[k]? = some c → vs[k]? = some (val k))
    (hr : ∀ k c, cs[k]? = some c → VRel sz F ρ n c (val k)) : VRel sz F ρ n (AV.pack cs) (.agg vs) := by
  unfold AV.pack
  cases h : AV.allD cs with
  | none => exact .agg cs vs hs val hv hr
  | some ds =>
    have := AV.allD_some h
    subst this
    refine .d (.agg ds vs (by simpa using hs) val (fun k c hc => hv k (.d c) (by simp [hc])) (fun k c hc => (hr k (.d c) (by simp [hc])).d_inv))

/-- Some cells of an element of a mutable block. -/
theorem sub_mut (hst : St sz base w0 F ρ env.h w) {b : Nat} {e : TypeId} {xs : List AV} {B : Nat} (hb : env.h[b]? = some (.cells e xs))
    (hl : ∃ N, ρ b = .mt B N)
    {i off k : Nat} (hi : i < xs.length) (hk : off + k ≤ sz e) : ∃ val : Nat → Value, (∀ j, j < k → w.cell? ⟨B, (i * sz e + off) + j, none⟩ = some (val j)) ∧
      (xs.getD i .unk).cells.length = sz e ∧ ∀ j, j < k → ∃ c, (xs.getD i .unk).cells[off + j]? = some c ∧ VRel sz F ρ env.h.length c (val j) := by
  obtain ⟨B', N, c, e0, h1, h2, h3, h4, h5, h6⟩ := hst.blk b _ hb
  obtain ⟨N', hl⟩ := hl
  rw [hl] at h1
  cases h1
  have hx : xs[i]? = some (xs.getD i .unk) := by simp [List.getD, List.getElem?_eq_getElem hi]
  obtain ⟨hlen, hcs⟩ := h6 i _ hx
  have hall : ∀ j, ∃ v, j < k → c[i * sz e + (off + j)]? = some v ∧ ∃ y, (xs.getD i .unk).cells[off + j]? = some y ∧ VRel sz F ρ env.h.length y v := by
    intro j
    by_cases hj : j < k
    · have hc' : (xs.getD i .unk).cells[off + j]? = some ((xs.getD i .unk).cells[off + j]'(by omega)) := List.getElem?_eq_getElem _
      obtain ⟨v, hv, hr, _⟩ := hcs (off + j) _ hc'
      exact ⟨v, fun _ => ⟨hv, _, hc', hr⟩⟩
    · exact ⟨.nilIface, fun h => absurd h hj⟩
  refine ⟨fun j => (hall j).choose, fun j hj => ?_, hlen, fun j hj => ?_⟩
  · have := ((hall j).choose_spec hj).1
    simp only [World.cell?, h3]
    rw [Nat.add_assoc]
    simpa using this
  · obtain ⟨y, hy, hr⟩ := ((hall j).choose_spec hj).2
    exact ⟨y, hy, hr⟩

theorem subD_rel {x : D} {agg : Bool} {size off : Nat} {val : Nat → Value} (h1 : agg = false → size = 1) (hsz : off + size ≤ x.cells.length)
    (hr : ∀ j, j < size → ∃ c, x.cells[off + j]? = some c ∧ FRep sz F c (val j)) :
    FRep sz F (subD agg size off x) (if agg then .agg ((List.range size).map val).toArray else val 0) := by
  cases agg with
  | true =>
    simp only [subD, if_true]
    have hlen : ((x.cells.drop off).take size).length = size := by simp only [List.length_take, List.length_drop]; omega
    refine .agg _ _ (by rw [hlen]; simp) val (fun k c hk' => ?_) (fun k c hk' => ?_)
    · have hkl := (List.getElem?_eq_some_iff.mp hk').1
      rw [hlen] at hkl
      simp [hkl]
    · have hkl := (List.getElem?_eq_some_iff.mp hk').1
      rw [hlen] at hkl
      obtain ⟨c', hc', hr'⟩ := hr k hkl
      rw [List.getElem?_take_of_lt hkl, List.getElem?_drop, hc'] at hk'
      cases hk'
      exact hr'
  | false =>
    have := h1 rfl
    obtain ⟨c, hc, hr'⟩ := hr 0 (by omega)
    simp only [subD, Bool.false_eq_true, if_false, headD_drop]
    rw [List.getD, show x.cells[off]? = some c from by simpa using hc]
    exact hr'

theorem subAV_rel {x : AV} {agg : Bool} {size off : Nat} {val : Nat → Value} (h1 : agg = false → size = 1) (hsz : off + size ≤ x.cells.length)
    (hr : ∀ j, j < size → ∃ c, x.cells[off + j]? = some c ∧ VRel sz F ρ n c (val j)) :
    VRel sz F ρ n (subAV agg size off x) (if agg then .agg ((List.range size).map val).toArray else val 0) := by
  have main : ∀ y : AV, y.cells = x.cells → VRel sz F ρ n (if agg then AV.pack ((y.cells.drop off).take size) else (y.cells.drop off).headD .unk) (if agg then .agg ((List.range size).map val).toArray else val 0) := by
    intro y hy
    rw [hy]
    cases agg with
    | true =>
      simp only [if_true]
      have hlen : ((x.cells.drop off).take size).length = size := by simp only [List.length_take, List.length_drop]; omega
      refine pack_rel (by rw [hlen]; simp) val (fun k c hk' => ?_) (fun k c hk' => ?_)
      · have hkl := (List.getElem?_eq_some_iff.mp hk').1
        rw [hlen] at hkl
        simp [hkl]
      · have hkl := (List.getElem?_eq_some_iff.mp hk').1
        rw [hlen] at hkl
        obtain ⟨c', hc', hr'⟩ := hr k hkl
        rw [List.getElem?_take_of_lt hkl, List.getElem?_drop, hc'] at hk'
        cases hk'
        exact hr'
    | false =>
      have := h1 rfl
      obtain ⟨c, hc, hr'⟩ := hr 0 (by omega)
      simp only [Bool.false_eq_true, if_false, headD_drop]
      rw [List.getD, show x.cells[off]? = some c from by simpa using hc]
      exact hr'
  cases x with
  | d x =>
    refine .d (subD_rel h1 (by simpa [AV.cells] using hsz) (fun j hj => ?_))
    obtain ⟨c, hc, hr'⟩ := hr j hj
    simp only [AV.cells, List.getElem?_map, Option.map_eq_some_iff] at hc
    obtain ⟨c', hc', rfl⟩ := hc
    exact ⟨c', hc', hr'.d_inv⟩
  | _ => exact main _ rfl

theorem load_ptr (hst : St sz base w0 F ρ env.h w) {t : TypeId} {ti : TI} (hg : ti.Good P t)
    {e : TypeId} {b : Nat} {xs : List AV} {i off : Nat} {cv : Value} (hv : VRel sz F ρ n (.ptr b e i off) cv) (hb : env.h[b]? = some (.cells e xs)) (hi : i < xs.length)
    (hk : off + ti.size ≤ sz e) :
    Gives P sz F ρ env.h.length w (Instr.loadAt t cv) (subAV ti.agg ti.size off (xs.getD i .unk)) := by
  cases hv with
  | ptr hbn hl =>
    obtain ⟨B, N, c, e0, h1, _⟩ := hst.blk b _ hb
    have := hl _ _ h1
    subst this
    obtain ⟨val, hF, hlen, hr⟩ := sub_mut hst hb ⟨N, h1⟩ hi hk
    refine ⟨_, ?_, subAV_rel hg.one (by omega) hr⟩
    cases hagg : ti.agg with
    | true =>
      simp only [Instr.loadAt, Instr.sureAddr, pure_bind, if_true]
      exact loadVar_agg hg hagg rfl val hF
    | false =>
      simp only [Instr.loadAt, Instr.sureAddr, pure_bind, Bool.false_eq_true, if_false]
      exact loadVar_one hg hagg (by simpa using hF 0 (by have := hg.one hagg; omega))

end Go.Vm

/- Soundness of all the operations that leave memory as it is. -/
set_option linter.unusedSimpArgs false
namespace Go.Vm
variable {P : Program} {base : Nat} {w0 : World} {m nt : Nat} {F : Frz} {ρ : Env0} {env : Env} {a : Act} {w : World} {n : Nat} {tab : Tab} {sz : TypeId → Nat}

theorem run_underlying' {t : TypeId} {d : TypeDesc} (h : P.underlying t = some d) : (underlying t).run P w = .ok d w := by simp [underlying, h]

theorem fieldOf_sound (hT : tab.checks P = true) {t : TypeId} {f o : Nat} {ti : TI} (h : fieldOf tab t f = some (o, ti)) :
    ∃ fs fd, P.underlying t = some (.struct fs) ∧ fs[f]? = some fd ∧ fd.offset = o ∧ ti.Good P fd.type := by
  unfold fieldOf at h
  split at h
  · rename_i fs _ _ _ hg
    obtain ⟨d, hu, hf⟩ := (Tab.good hT hg).desc
    split at h
    · rename_i o' ft hfs
      simp only [Option.map_eq_some_iff, Prod.mk.injEq] at h
      obtain ⟨ti', ht, rfl, rfl⟩ := h
      cases d <;> simp only [TK.fits, Bool.false_eq_true, beq_iff_eq] at hf
      rename_i fds
      subst hf
      simp only [List.getElem?_map, Array.getElem?_toList, Option.map_eq_some_iff, Prod.mk.injEq] at hfs
      obtain ⟨fd, h1, h2, h3⟩ := hfs
      exact ⟨fds, fd, hu, h1, h2, h3 ▸ Tab.good hT ht⟩
    · simp at h
  · simp at h

theorem fieldAddr_sound (hT : tab.checks P = true) {t : TypeId} {x : AV} {f : Nat} {ob : Prop} {v : AV} {cv : Value} (h : fieldAddrAV tab t x f = some (ob, v)) (hob : ob)
    (hx : VRel sz F ρ n x cv) : Gives P sz F ρ n w (Instr.fieldAt t cv f) v := by
  unfold fieldAddrAV at h
  split at h
  · rename_i o ti e xs i off hf
    simp only [Option.some.injEq, Prod.mk.injEq] at h
    obtain ⟨h1, rfl⟩ := h
    subst h1
    obtain ⟨fs, fd, hu, h2, h3, hg⟩ := fieldOf_sound hT hf
    cases hx with
    | @fp _ _ _ _ cap ad hx hi =>
      refine ⟨.pointer (some ⟨ad.block, ad.off + (i * sz e + (off + o)), none⟩), ?_, .fp hx hi⟩
      simp only [Instr.fieldAt, Sem.run_bind, run_underlying' hu, Result.andThen_ok, h2, Instr.sureAddr, Sem.run_pure, fieldPlace, hg.run_sizeOf, if_neg hob, add_none, h3]
      congr 4; omega
  · rename_i o ti b e i off hf
    simp only [Option.some.injEq, Prod.mk.injEq] at h
    obtain ⟨h1, rfl⟩ := h
    subst h1
    obtain ⟨fs, fd, hu, h2, h3, hg⟩ := fieldOf_sound hT hf
    cases hx with
    | @ptr _ _ _ _ ad hb hl =>
      refine ⟨.pointer (some (ad.add o)), ?_, .ptr hb (fun B N h' => by rw [hl B N h', add_none, Nat.add_assoc])⟩
      simp only [Instr.fieldAt, Sem.run_bind, run_underlying' hu, Result.andThen_ok, h2, Instr.sureAddr, Sem.run_pure, fieldPlace, hg.run_sizeOf, if_neg hob, h3]
  · simp at h

/-- A part of a struct's value in a register. -/
theorem part_sound {t : TypeId} {ti : TI} (hg : ti.Good P t) {x : AV} {o : Nat} {vs : Array Value} (hx : VRel sz F ρ n x (.agg vs)) (hsz : o + ti.size ≤ x.cells.length)
    (hxa : (∃ cs, x = .d (.agg cs)) ∨ ∃ cs, x = .agg cs) :
    Gives P sz F ρ n w (part t vs o) (subAV ti.agg ti.size o x) := by
  obtain ⟨val, hvl, hv, hr⟩ : ∃ val : Nat → Value, vs.size = x.cells.length ∧ (∀ k c, x.cells[k]? = some c → vs[k]? = some (val k)) ∧ ∀ k c, x.cells[k]? = some c → VRel sz F ρ n c (val k) := by
    rcases hxa with ⟨cs, rfl⟩ | ⟨cs, rfl⟩
    · cases hx with | d hx => cases hx with
      | agg _ _ hs val hv hr =>
        refine ⟨val, by simp [AV.cells, D.cells, hs], fun k c hc => ?_, fun k c hc => ?_⟩ <;>
          simp only [AV.cells, D.cells, List.getElem?_map, Option.map_eq_some_iff] at hc <;> obtain ⟨c', hc', rfl⟩ := hc
        · exact hv k c' hc'
        · exact .d (hr k c' hc')
    · cases hx with
      | agg _ _ hs val hv hr => exact ⟨val, hs, hv, hr⟩
  have hall : ∀ j, j < ti.size → ∃ c, x.cells[o + j]? = some c ∧ VRel sz F ρ n c (val (o + j)) := fun j hj => by
    have hc' : x.cells[o + j]? = some (x.cells[o + j]'(by omega)) := List.getElem?_eq_getElem _
    exact ⟨_, hc', hr _ _ hc'⟩
  refine ⟨_, ?_, subAV_rel (val := fun j => val (o + j)) hg.one hsz hall⟩
  unfold part
  simp only [Sem.run_bind, hg.run_isAgg, Result.andThen_ok]
  cases hagg : ti.agg with
  | true =>
    simp only [if_true, Sem.run_bind, hg.run_sizeOf, Result.andThen_ok, Sem.run_pure]
    congr 2
    apply Array.ext
    · simp; omega
    · intro i h1 h2
      simp only [Array.size_extract] at h1
      have hlt : i < ti.size := by omega
      obtain ⟨c, hc, _⟩ := hall i hlt
      have := hv _ _ hc
      simp only [Array.getElem_extract]
      rw [Array.getElem?_eq_some_iff] at this
      obtain ⟨h3, h4⟩ := this
      rw [h4]
      simp
  | false =>
    have := hg.one hagg
    obtain ⟨c, hc, _⟩ := hall 0 (by omega)
    have := hv _ _ hc
    simp only [Nat.add_zero] at this
    simp [this]

theorem field_sound (hT : tab.checks P = true) {t : TypeId} {x : AV} {f : Nat} {ob : Prop} {v : AV} {cv : Value} (h : fieldAV tab t x f = some (ob, v)) (hob : ob)
    (hx : VRel sz F ρ n x cv) : Gives P sz F ρ n w (Instr.field t cv f) v := by
  unfold fieldAV at h
  split at h
  · rename_i o ti cs hf
    simp only [Option.some.injEq, Prod.mk.injEq] at h
    obtain ⟨h1, rfl⟩ := h
    subst h1
    obtain ⟨fs, fd, hu, h2, h3, hg⟩ := fieldOf_sound hT hf
    have hx' := hx
    cases hx with | d hx => cases hx with
    | agg _ vs hs val hv hr =>
      obtain ⟨cv, h4, h5⟩ := part_sound (P := P) (w := w) hg hx' (o := o) (by simpa [AV.cells, D.cells] using hob) (.inl ⟨cs, rfl⟩)
      refine ⟨cv, ?_, h5⟩
      simp only [Instr.field, Sem.run_bind, run_underlying' hu, Result.andThen_ok, h2, asAgg, Sem.run_pure, h3, h4]
  · rename_i o ti cs hf
    simp only [Option.some.injEq, Prod.mk.injEq] at h
    obtain ⟨h1, rfl⟩ := h
    subst h1
    obtain ⟨fs, fd, hu, h2, h3, hg⟩ := fieldOf_sound hT hf
    have hx' := hx
    cases hx with
    | agg _ vs hs val hv hr =>
      obtain ⟨cv, h4, h5⟩ := part_sound (P := P) (w := w) hg hx' (o := o) hob (.inr ⟨cs, rfl⟩)
      refine ⟨cv, ?_, h5⟩
      simp only [Instr.field, Sem.run_bind, run_underlying' hu, Result.andThen_ok, h2, asAgg, Sem.run_pure, h3, h4]
  · simp at h

theorem asI_sound {x : AV} {i : Int} {cv : Value} (h : asI x = some i) (hx : VRel sz F ρ n x cv) : ∃ k, cv = .int k i := by
  unfold asI at h
  split at h
  · cases h; exact ⟨_, hx.int_inv⟩
  · simp at h

theorem FRep.sl_inv {e : TypeId} {xs : List D} {v : Value} (h : FRep sz F (.sl e xs) v) : ∃ A cap, v = .slice A xs.length cap ∧ xs.length ≤ cap ∧ (xs ≠ [] → ∃ ad, A = some ad ∧ ad.spot = none) := by
  cases h with
  | sl _ _ A ad cap val hA hc hl hF hr ho => exact ⟨A, cap, rfl, hc, fun h => ⟨ad, (hA h).1, (hA h).2⟩⟩

theorem tk_sl {d : TypeDesc} {e : TypeId} (h : TK.fits d (.sl e) = true) : d = .slice e := by
  cases d <;> simp only [TK.fits, Bool.false_eq_true, beq_iff_eq] at h; rw [h]
theorem tk_arr {d : TypeDesc} {e : TypeId} {l : Nat} {b : Bool} (h : TK.fits d (.arr b l e) = true) : d = .array l e := by
  cases d <;> simp only [TK.fits, Bool.false_eq_true, beq_iff_eq, Bool.and_eq_true] at h; rw [h.1, h.2]
theorem tk_str {d : TypeDesc} (h : TK.fits d .str = true) : d = .string := by
  cases d <;> simp only [TK.fits, Bool.false_eq_true] at h; rfl
theorem tk_int {d : TypeDesc} {k : IntKind} (h : TK.fits d (.int k) = true) : d = .int k := by
  cases d <;> simp only [TK.fits, Bool.false_eq_true, beq_iff_eq] at h; rw [h]

theorem good_size (hT : tab.checks P = true) {e : TypeId} {te : TI} (h : tab.get e = some te) : psz P e = te.size := (Tab.good hT h).psz

theorem run_under (hT : tab.checks P = true) {t : TypeId} {k : TK} {s b : Nat} {z : List D} (h : tab.get t = some ⟨k, s, b, z⟩) : ∃ d, P.underlying t = some d ∧ TK.fits d k = true :=
  (Tab.good hT h).desc

theorem slOf_sound (hT : tab.checks P = true) {t e : TypeId} (h : slOf tab t = some e) : P.underlying t = some (.slice e) ∧ ∃ te : TI, tab.get e = some te ∧ te.Good P e := by
  unfold slOf at h
  split at h
  · rename_i e' _ _ _ hg
    simp only [Option.map_eq_some_iff] at h
    obtain ⟨te, h1, rfl⟩ := h
    obtain ⟨d, hu, hf⟩ := (Tab.good hT hg).desc
    exact ⟨by rw [hu, tk_sl hf], te, h1, Tab.good hT h1⟩
  · simp at h

theorem arrOf_sound (hT : tab.checks P = true) {t : TypeId} {l : Nat} {te : TI} (h : arrOf tab t = some (l, te)) : ∃ e, P.underlying t = some (.array l e) ∧ te.Good P e := by
  unfold arrOf at h
  split at h
  · rename_i l' e' _ _ _ hg
    simp only [Option.map_eq_some_iff, Prod.mk.injEq] at h
    obtain ⟨te, h1, rfl, rfl⟩ := h
    obtain ⟨d, hu, hf⟩ := (Tab.good hT hg).desc
    exact ⟨e', by rw [hu, tk_arr hf], Tab.good hT h1⟩
  · simp at h

theorem isStr_sound (hT : tab.checks P = true) {t : TypeId} (h : isStr tab t = true) : P.underlying t = some .string := by
  unfold isStr at h
  split at h
  · rename_i hg
    obtain ⟨d, hu, hf⟩ := (Tab.good hT hg).desc
    rw [hu, tk_str hf]
  · simp at h

theorem indexAddr_sound (hT : tab.checks P = true) {t : TypeId} {x i : AV} {ob : Prop} {v : AV} {cv ci : Value} (h : indexAddrAV tab t x i = some (ob, v)) (hob : ob)
    (hx : VRel (psz P) F ρ n x cv) (hi : VRel (psz P) F ρ n i ci) : Gives P (psz P) F ρ n w (Instr.indexAt t cv ci) v := by
  unfold indexAddrAV at h
  split at h
  · simp at h
  rename_i j hj
  obtain ⟨k, rfl⟩ := asI_sound hj hi
  split at h
  · rename_i e he
    obtain ⟨hu, te, _, hg⟩ := slOf_sound hT he
    split at h
    · rename_i e' xs
      simp only [Option.some.injEq, Prod.mk.injEq] at h
      obtain ⟨h1, rfl⟩ := h
      subst h1
      obtain ⟨rfl, h0, h1⟩ := hob
      have hrep := hx.d_inv
      obtain ⟨A, cap, rfl, hc, hA⟩ := hrep.sl_inv
      obtain ⟨ad, rfl, hs⟩ := hA (by intro h; subst h; simp at h1; omega)
      refine ⟨.pointer (some ⟨ad.block, ad.off + (j.toNat * psz P e' + 0), none⟩), ?_, .fp hrep (by omega)⟩
      simp only [Instr.indexAt, asIntOf, Sem.run_bind, Sem.run_pure, Result.andThen_ok, run_underlying' hu, h0, h1, and_self, if_true, hg.run_sizeOf, hg.psz, add_spot hs, Nat.add_zero]
    · rename_i b e' xs
      simp only [Option.some.injEq, Prod.mk.injEq] at h
      obtain ⟨h1, rfl⟩ := h
      subst h1
      obtain ⟨rfl, h0, h1⟩ := hob
      cases hx with
      | bl hb hrep hl hw' hcur =>
      obtain ⟨A, cap, rfl, hc, hA⟩ := hrep.sl_inv
      obtain ⟨ad, rfl, hs⟩ := hA (by intro h; subst h; simp at h1; omega)
      refine ⟨.pointer (some ⟨ad.block, ad.off + (j.toNat * psz P e' + 0), none⟩), ?_, .fp hrep (by omega)⟩
      simp only [Instr.indexAt, asIntOf, Sem.run_bind, Sem.run_pure, Result.andThen_ok, run_underlying' hu, h0, h1, and_self, if_true, hg.run_sizeOf, hg.psz, add_spot hs, Nat.add_zero]
    · rename_i b e' off len
      simp only [Option.some.injEq, Prod.mk.injEq] at h
      obtain ⟨h1, rfl⟩ := h
      subst h1
      obtain ⟨rfl, h0, h1⟩ := hob
      cases hx with
      | @ref _ _ _ _ cap A hb hA hl hc =>
      obtain ⟨ad, rfl⟩ := hA (by omega)
      refine ⟨.pointer (some (ad.add (j.toNat * psz P e'))), ?_, .ptr hb (fun B N h' => ?_)⟩
      · simp only [Instr.indexAt, asIntOf, Sem.run_bind, Sem.run_pure, Result.andThen_ok, run_underlying' hu, h0, h1, and_self, if_true, hg.run_sizeOf, hg.psz]
      · have := (hl B N h').1 (by omega)
        cases this
        rw [add_none, Nat.add_mul, Nat.add_zero]
    · simp at h
  · split at h
    · rename_i l te b e' i' off ha
      simp only [Option.some.injEq, Prod.mk.injEq] at h
      obtain ⟨h1, rfl⟩ := h
      subst h1
      obtain ⟨e, hu, hg⟩ := arrOf_sound hT ha
      cases hx with
      | @ptr _ _ _ _ ad hb hl =>
      refine ⟨.pointer (some (ad.add (j.toNat * te.size))), ?_, .ptr hb (fun B N h' => by rw [hl B N h', add_none, Nat.add_assoc])⟩
      simp only [Instr.indexAt, asIntOf, Sem.run_bind, Sem.run_pure, Result.andThen_ok, run_underlying' hu, Instr.sureAddr, hob.1, hob.2, and_self, if_true, hg.run_sizeOf]
    · rename_i l te e' xs i' off ha
      simp only [Option.some.injEq, Prod.mk.injEq] at h
      obtain ⟨h1, rfl⟩ := h
      subst h1
      obtain ⟨e, hu, hg⟩ := arrOf_sound hT ha
      cases hx with
      | @fp _ _ _ _ cap ad hx hi' =>
      refine ⟨.pointer (some ⟨ad.block, ad.off + (i' * psz P e' + (off + j.toNat * te.size)), none⟩), ?_, .fp hx hi'⟩
      simp only [Instr.indexAt, asIntOf, Sem.run_bind, Sem.run_pure, Result.andThen_ok, run_underlying' hu, Instr.sureAddr, hob.1, hob.2, and_self, if_true, hg.run_sizeOf, add_none]
      congr 4; omega
    · simp at h

theorem index_sound (hT : tab.checks P = true) {t : TypeId} {x i : AV} {ob : Prop} {v : AV} {cv ci : Value} (h : indexAV tab t x i = some (ob, v)) (hob : ob)
    (hx : VRel (psz P) F ρ n x cv) (hi : VRel (psz P) F ρ n i ci) : Gives P (psz P) F ρ n w (Instr.index t cv ci) v := by
  unfold indexAV at h
  split at h
  · simp at h
  rename_i j hj
  obtain ⟨k, rfl⟩ := asI_sound hj hi
  split at h
  · rename_i s
    split at h
    · rename_i hs
      simp only [Option.some.injEq, Prod.mk.injEq] at h
      obtain ⟨h1, rfl⟩ := h
      subst h1
      obtain ⟨h0, h1⟩ := hob
      have := hx.str_inv
      subst this
      have hlt : j.toNat < s.length := by omega
      refine ⟨.int .u8 (byteAt s j.toNat), ?_, rint _ _⟩
      have hget : (ByteArray.mk s.toArray)[j.toNat]? = some (s.getD j.toNat 0) := by
        rw [getElem?_pos (ByteArray.mk s.toArray) j.toNat (by show j.toNat < s.toArray.size; simpa using hlt)]
        show some (s.toArray[j.toNat]'_) = _
        simp [List.getD, List.getElem?_eq_getElem hlt]
      simp only [Instr.index, asIntOf, Sem.run_bind, Sem.run_pure, Result.andThen_ok, run_underlying' (isStr_sound hT hs), h0, if_true, hget, byteAt]
    · simp at h
  · rename_i cs
    simp only [Option.map_eq_some_iff, Prod.mk.injEq, Prod.exists] at h
    obtain ⟨l, te, ha, h1, rfl⟩ := h
    subst h1
    obtain ⟨h0, h1, h2⟩ := hob
    obtain ⟨e, hu, hg⟩ := arrOf_sound hT ha
    have hx' := hx
    cases hx with | d hx => cases hx with
    | agg _ vs hs val hv hr =>
      obtain ⟨cv, h4, h5⟩ := part_sound (P := P) (w := w) hg hx' (o := j.toNat * te.size) (by simpa [AV.cells, D.cells] using h2) (.inl ⟨cs, rfl⟩)
      refine ⟨cv, ?_, h5⟩
      simp only [Instr.index, asIntOf, Sem.run_bind, Sem.run_pure, Result.andThen_ok, run_underlying' hu, h0, h1, and_self, if_true, hg.run_sizeOf, h4]
  · rename_i cs
    simp only [Option.map_eq_some_iff, Prod.mk.injEq, Prod.exists] at h
    obtain ⟨l, te, ha, h1, rfl⟩ := h
    subst h1
    obtain ⟨h0, h1, h2⟩ := hob
    obtain ⟨e, hu, hg⟩ := arrOf_sound hT ha
    have hx' := hx
    cases hx with
    | agg _ vs hs val hv hr =>
      obtain ⟨cv, h4, h5⟩ := part_sound (P := P) (w := w) hg hx' (o := j.toNat * te.size) h2 (.inr ⟨cs, rfl⟩)
      refine ⟨cv, ?_, h5⟩
      simp only [Instr.index, asIntOf, Sem.run_bind, Sem.run_pure, Result.andThen_ok, run_underlying' hu, h0, h1, and_self, if_true, hg.run_sizeOf, h4]
  · simp at h

end Go.Vm

/- Soundness of slice expressions, and of evL as a whole. -/
set_option linter.unusedSimpArgs false
namespace Go.Vm
variable {P : Program} {base : Nat} {w0 : World} {m nt : Nat} {F : Frz} {ρ : Env0} {env : Env} {a : Act} {w : World} {n : Nat} {tab : Tab} {sz : TypeId → Nat}

theorem bnd_sound (hr : Rel sz base w0 m nt F ρ env a w) {d i : Int} {o : Option Operand} (h : bnd env d o = some i) :
    (o = none ∧ i = d) ∨ ∃ x k, o = some x ∧ a.eval x = .int k i := by
  cases o with
  | none => cases h; exact .inl ⟨rfl, rfl⟩
  | some x =>
    simp only [bnd, Option.bind_eq_some_iff] at h
    obtain ⟨v, h1, h2⟩ := h
    obtain ⟨k, hk⟩ := asI_sound h2 (ev_sound hr h1)
    exact .inr ⟨x, k, rfl, hk⟩

theorem sliceBound_run {k : IntKind} {i : Int} {y : Nat} {c : BoundsCode} (h0 : 0 ≤ i) (h1 : i ≤ y) : (Instr.sliceBound (.int k i) y c).run P w = .ok i.toNat w := by
  simp [Instr.sliceBound, asIntOf, h0, h1]

theorem sliceBounds_run (hr : Rel sz base w0 m nt F ρ env a w) {lo hi : Option Operand} {l h : Int} {len cap : Nat} {sl : Bool}
    (hl : bnd env 0 lo = some l) (hh : bnd env len hi = some h) (h0 : 0 ≤ l) (h1 : l ≤ h) (h2 : h ≤ cap) :
    (Instr.sliceBounds sl len cap (lo.map a.eval) (hi.map a.eval) none).run P w = .ok (l.toNat, h.toNat, cap) w := by
  rcases bnd_sound hr hl with ⟨rfl, rfl⟩ | ⟨x, k, rfl, hx⟩ <;> rcases bnd_sound hr hh with ⟨rfl, rfl⟩ | ⟨y, k', rfl, hy⟩
  · simp [Instr.sliceBounds]
  · simp only [Instr.sliceBounds, Option.map_none, Option.map_some, hy, Sem.run_bind, Sem.run_pure, Result.andThen_ok]
    rw [sliceBound_run (by omega) h2]
    simp
  · simp only [Instr.sliceBounds, Option.map_none, Option.map_some, hx, Sem.run_bind, Sem.run_pure, Result.andThen_ok]
    rw [sliceBound_run h0 (by omega)]
    simp
  · simp only [Instr.sliceBounds, Option.map_some, hx, hy, Sem.run_bind, Sem.run_pure, Result.andThen_ok]
    rw [sliceBound_run (by omega) h2]
    simp only [Result.andThen_ok]
    rw [sliceBound_run h0 (by omega)]
    simp

/-- A part of a frozen row is a frozen row. -/
theorem FRep.sub {e : TypeId} {xs : List D} {A : Option Addr} {cap : Nat} (h : FRep sz F (.sl e xs) (.slice A xs.length cap)) {l r : Nat} (hl : l ≤ r) (hr : r ≤ xs.length) :
    FRep sz F (.sl e ((xs.take r).drop l)) (.slice (if cap = l then A else A.map (·.add (l * sz e))) (r - l) (cap - l)) := by
  generalize hv : Value.slice A xs.length cap = v at h
  cases h with
  | sl _ _ A' ad cap' val hA hc hlen hF hrr ho =>
    simp only [Value.slice.injEq] at hv
    obtain ⟨rfl, _, rfl⟩ := hv
    have hlen' : ((xs.take r).drop l).length = r - l := by simp only [List.length_drop, List.length_take]; omega
    rw [← hlen']
    have hget : ∀ (i : Nat) (x : D), ((xs.take r).drop l)[i]? = some x → xs[l + i]? = some x := by
      intro i x hx
      rw [List.getElem?_drop] at hx
      have hlt := (List.getElem?_eq_some_iff.mp hx).1
      rw [List.getElem?_take_of_lt (by simp only [List.length_take] at hlt; omega)] at hx
      exact hx
    by_cases hne : xs = []
    · subst hne
      refine .sl _ _ _ ad _ (fun i k => val (l + i) k) (by simp) (by simp) (by simp) (by simp) (by simp) (by simp)
    · obtain ⟨rfl, hs⟩ := hA hne
      refine .sl _ _ _ (if cap = l then ad else ad.add (l * sz e)) _ (fun i k => val (l + i) k) ?_ (by omega) (fun i x hx => hlen _ _ (hget i x hx)) ?_ (fun i x k c hx hc => hrr _ _ _ _ (hget i x hx) hc) (fun i x k c hx hc => ho _ _ _ _ (hget i x hx) hc)
      · intro _
        by_cases hcl : cap = l
        · simp [hcl, hs]
        · simp [hcl, add_spot hs]
      · intro i x k c hx hck
        have hlt := (List.getElem?_eq_some_iff.mp hx).1
        have hcl : cap ≠ l := by omega
        have := hF _ _ _ _ (hget i x hx) hck
        simp only [hcl, if_false, add_spot hs]
        rw [← this]
        congr 2
        rw [Nat.add_mul]; omega

theorem slice_str {t : TypeId} (hr : Rel sz base w0 m nt F ρ env a w) (hu : P.underlying t = some .string) {s : List UInt8} {lo hi : Option Operand} {l h : Int}
    (hl : bnd env 0 lo = some l) (hh : bnd env s.length hi = some h) (h0 : 0 ≤ l) (h1 : l ≤ h) (h2 : h ≤ s.length) :
    (Instr.sliceAt t (.string ⟨s.toArray⟩) (lo.map a.eval) (hi.map a.eval) none).run P w = .ok (.string ⟨((s.take h.toNat).drop l.toNat).toArray⟩) w := by
  have hsz : (ByteArray.mk s.toArray).size = s.length := by show s.toArray.size = _; simp
  simp only [Instr.sliceAt, Instr.slice, Sem.run_bind, run_underlying' hu, Result.andThen_ok, Option.isSome_none, Bool.false_eq_true, if_false, hsz, Sem.run_pure]
  rw [sliceBounds_run hr hl hh h0 h1 h2]
  simp only [Result.andThen_ok]
  congr 2
  apply ByteArray.ext
  rw [ByteArray.data_extract]
  apply Array.toList_inj.mp
  simp [List.drop_take]

theorem slice_sl {t e : TypeId} {te : TI} (hr : Rel sz base w0 m nt F ρ env a w) (hu : P.underlying t = some (.slice e)) (hg : te.Good P e) {A : Option Addr} {len cap : Nat} {lo hi : Option Operand} {l h : Int}
    (hl : bnd env 0 lo = some l) (hh : bnd env len hi = some h) (h0 : 0 ≤ l) (h1 : l ≤ h) (h2 : h ≤ cap) :
    (Instr.sliceAt t (.slice A len cap) (lo.map a.eval) (hi.map a.eval) none).run P w =
      .ok (.slice (if cap = l.toNat then A else A.map (·.add (l.toNat * te.size))) (h.toNat - l.toNat) (cap - l.toNat)) w := by
  simp only [Instr.sliceAt, Instr.slice, Sem.run_bind, run_underlying' hu, Result.andThen_ok]
  rw [sliceBounds_run hr hl hh h0 h1 h2]
  simp only [Result.andThen_ok, hg.run_sizeOf, Sem.run_pure]

theorem slice_sound (hT : tab.checks P = true) (hr : Rel (psz P) base w0 m nt F ρ env a w) {t : TypeId} {x : AV} {lo hi mx : Option Operand} {ob : Prop} {v : AV} {cv : Value}
    (h : sliceAV tab env t x lo hi mx = some (ob, v)) (hob : ob) (hx : VRel (psz P) F ρ n x cv) :
    Gives P (psz P) F ρ n w (Instr.sliceAt t cv (lo.map a.eval) (hi.map a.eval) (mx.map a.eval)) v := by
  unfold sliceAV at h
  split at h
  · split at h
    · split at h
      · rename_i s _ _ _ l h' hs hl hh
        simp only [Option.some.injEq, Prod.mk.injEq] at h
        obtain ⟨h1, rfl⟩ := h
        subst h1
        obtain ⟨h0, h1, h2⟩ := hob
        have := hx.str_inv
        subst this
        exact ⟨_, slice_str hr (isStr_sound hT hs) hl hh h0 h1 h2, rstr _⟩
      · simp at h
    · split at h
      · rename_i e' xs _ _ _ e l h' hs hl hh
        simp only [Option.some.injEq, Prod.mk.injEq] at h
        obtain ⟨h1, rfl⟩ := h
        subst h1
        obtain ⟨rfl, h0, h1, h2⟩ := hob
        obtain ⟨hu, te, _, hg⟩ := slOf_sound hT hs
        have hrep := hx.d_inv
        obtain ⟨A, cap, rfl, hc, _⟩ := hrep.sl_inv
        refine ⟨_, slice_sl hr hu hg hl hh h0 h1 (by omega), .d ?_⟩
        rw [← hg.psz]
        exact hrep.sub (by omega) (by omega)
      · simp at h
    · split at h
      · rename_i b e' xs _ _ _ e l h' hs hl hh
        simp only [Option.some.injEq, Prod.mk.injEq] at h
        obtain ⟨h1, rfl⟩ := h
        subst h1
        obtain ⟨rfl, h0, h1, h2⟩ := hob
        obtain ⟨hu, te, _, hg⟩ := slOf_sound hT hs
        cases hx with
        | bl hb hrep hl' hw' hcur =>
        obtain ⟨A, cap, rfl, hc, _⟩ := hrep.sl_inv
        refine ⟨_, slice_sl hr hu hg hl hh h0 h1 (by omega), .d ?_⟩
        rw [← hg.psz]
        exact hrep.sub (by omega) (by omega)
      · simp at h
    · split at h
      · rename_i b e' off len _ _ _ e l h' hs hl hh
        simp only [Option.some.injEq, Prod.mk.injEq] at h
        obtain ⟨h1, rfl⟩ := h
        subst h1
        obtain ⟨rfl, h0, h1, h2⟩ := hob
        obtain ⟨hu, te, _, hg⟩ := slOf_sound hT hs
        cases hx with
        | @ref _ _ _ _ cap A hb hA hl' hc =>
        refine ⟨_, slice_sl hr hu hg hl hh h0 h1 (by omega), .ref hb (fun hne => ?_) (fun B N h' => ⟨fun hne => ?_, ?_⟩) (by omega)⟩
        · obtain ⟨ad, rfl⟩ := hA (by omega)
          rw [if_neg (by omega)]
          exact ⟨_, rfl⟩
        · rw [if_neg (by omega), (hl' B N h').1 (by omega), ← hg.psz]
          simp only [Option.map_some, add_none]
          rw [Nat.add_mul]
        · have := (hl' B N h').2
          omega
      · simp at h
    · split at h
      · rename_i b e' k _ _ _ e l h' hs hl hh
        simp only [Option.some.injEq, Prod.mk.injEq] at h
        obtain ⟨h1, rfl⟩ := h
        subst h1
        obtain ⟨rfl, rfl, rfl⟩ := hob
        obtain ⟨hu, te, _, hg⟩ := slOf_sound hT hs
        cases hx with
        | @gr _ _ hw cap _ A v0 hb hl' h0 hk =>
        refine ⟨_, slice_sl hr hu hg hl hh (Int.le_refl _) (Int.le_refl _) (by omega), ?_⟩
        have e1 : (if cap = (0 : Int).toNat then A else A.map (·.add ((0 : Int).toNat * te.size))) = A := by
          split
          · rfl
          · cases A <;> simp [Addr.add]
        rw [e1]
        refine .bl (v0 := v0) (hw := hw) hb (.sl e' [] A ⟨0, 0, none⟩ cap (fun _ _ => .nilIface) (by simp) (by simp) (by simp) (by simp) (by simp) (by simp)) hl' (by simp) (fun e0 => ?_)
        simp at e0
        rw [h0 e0]
        rfl
      · simp at h
    · split at h
      · rename_i _ _ _ e l h' hs hl hh
        simp only [Option.some.injEq, Prod.mk.injEq] at h
        obtain ⟨h1, rfl⟩ := h
        subst h1
        obtain ⟨rfl, rfl⟩ := hob
        obtain ⟨hu, te, _, hg⟩ := slOf_sound hT hs
        cases hx with | d hx => cases hx with
        | nilsl =>
        exact ⟨_, slice_sl hr hu hg hl hh (Int.le_refl _) (Int.le_refl _) (by simp), .d .nilsl⟩
      · simp at h
    · simp at h
  · rename_i mo
    split at h
    · rename_i hm hl hh hs
      obtain ⟨hu, te, _, hg⟩ := slOf_sound hT hs
      simp only [Option.bind_eq_some_iff] at hm
      obtain ⟨mv, hm1, hm2⟩ := hm
      obtain ⟨km, hkm⟩ := asI_sound hm2 (ev_sound hr hm1)
      have hrun : ∀ (A : Option Addr) (len cap : Nat), (Instr.sliceAt t (.slice A len cap) (lo.map a.eval) (hi.map a.eval) ((some mo).map a.eval)).run P w =
          .ok (.slice A 0 0) w := by
        intro A len cap
        simp only [Option.bind_eq_some_iff] at hh
        obtain ⟨y, rfl, yv, hy1, hy2⟩ := hh
        obtain ⟨ky, hy⟩ := asI_sound hy2 (ev_sound hr hy1)
        have z0 : ∀ (k : IntKind) (y : Nat) (c : BoundsCode), (Instr.sliceBound (.int k 0) y c).run P w = .ok 0 w := fun k y c => sliceBound_run (by omega) (by omega)
        rcases bnd_sound hr hl with ⟨rfl, _⟩ | ⟨z, kz, rfl, hz⟩
        · simp [Instr.sliceAt, Instr.slice, Instr.sliceBounds, run_underlying' hu, hkm, hy, z0, hg.run_sizeOf]
        · simp [Instr.sliceAt, Instr.slice, Instr.sliceBounds, run_underlying' hu, hkm, hy, hz, z0, hg.run_sizeOf]
      split at h
      all_goals simp only [Option.some.injEq, Prod.mk.injEq, reduceCtorEq] at h
      all_goals obtain ⟨_, rfl⟩ := h
      · obtain ⟨A, cap, rfl, hc, _⟩ := hx.d_inv.sl_inv
        exact ⟨_, hrun _ _ _, .z0⟩
      · cases hx with
        | bl hb hrep hl' hw' hcur =>
        obtain ⟨A, cap, rfl, hc, _⟩ := hrep.sl_inv
        exact ⟨_, hrun _ _ _, .z0⟩
      · cases hx with
        | ref => exact ⟨_, hrun _ _ _, .z0⟩
      · cases hx with | d hx => cases hx with
        | nilsl => exact ⟨_, hrun _ _ _, .d .nilsl⟩
    · simp at h

end Go.Vm

/- evL is sound. -/
set_option linter.unusedSimpArgs false
namespace Go.Vm
variable {P : Program} {base : Nat} {w0 : World} {m nt : Nat} {F : Frz} {ρ : Env0} {env : Env} {a : Act} {w : World} {n : Nat} {tab : Tab} {sz : TypeId → Nat}

theorem eqGuard_int (op : BinOp) (t : TypeId) (x y : Operand) (k k' : IntKind) (i j : Int) : (eqGuard op t x y (.int k i) (.int k' j)).run P w = .ok () w := by
  cases op <;> simp [eqGuard]
theorem eqGuard_str (op : BinOp) (t : TypeId) (x y : Operand) (i j : ByteArray) : (eqGuard op t x y (.string i) (.string j)).run P w = .ok () w := by
  cases op <;> simp [eqGuard]
theorem eqGuard_bool (op : BinOp) (t : TypeId) (x y : Operand) (i j : Bool) : (eqGuard op t x y (.bool i) (.bool j)).run P w = .ok () w := by
  cases op <;> simp [eqGuard]

theorem equal_bool {t : TypeId} (hu : P.underlying t = some .bool) (x y : Bool) : (Op.equal t (.bool x) (.bool y)).run P w = .ok (decide (x = y)) w := by
  suffices hs : ∀ dd : Nat, (Op.equalIn (dd + 1) t (.bool x) (.bool y)).run P w = .ok (decide (x = y)) w from hs 9999
  intro dd
  simp only [Op.equalIn, Sem.run_bind, run_underlying' hu, Result.andThen_ok, Sem.run_pure]
  cases x <;> cases y <;> rfl

theorem eqFs_sound (hT : tab.checks P = true) {rec : TypeId → D → D → Option Bool} {xs ys : List D} {vs us : Array Value} {d : Nat} (hx : FRep sz F (.agg xs) (.agg vs)) (hy : FRep sz F (.agg ys) (.agg us))
    (hrec : ∀ (t : TypeId) (x y : D) (b : Bool) (vx vy : Value), rec t x y = some b → FRep sz F x vx → FRep sz F y vy → (Op.equalIn d t vx vy).run P w = .ok b w) :
    ∀ {fs : List Field} {b : Bool}, (∀ f ∈ fs, (f.name == "_") = false) → eqFs tab rec xs ys (fs.map fun f => (f.offset, f.type)) = some b → (Op.eqFields d vs us fs).run P w = .ok b w
  | [], b, _, h => by
    simp only [List.map_nil, eqFs, Option.some.injEq] at h
    subst h
    simp [Op.eqFields]
  | f :: fs, b, hn, h => by
    simp only [List.map_cons, eqFs] at h
    split at h
    · rename_i fi hfi
      split at h
      · rename_i hb
        split at h
        · rename_i b1 b2 h1 h2
          cases h
          have hg := Tab.good hT hfi
          obtain ⟨cx, p1, p2⟩ := part_sound (P := P) (w := w) (F := F) (ρ := fun _ => .obj 0) (n := 0) hg (x := .d (.agg xs)) (o := f.offset) (.d hx) (by simpa [AV.cells, D.cells] using hb.1) (.inl ⟨xs, rfl⟩)
          obtain ⟨cy, q1, q2⟩ := part_sound (P := P) (w := w) (F := F) (ρ := fun _ => .obj 0) (n := 0) hg (x := .d (.agg ys)) (o := f.offset) (.d hy) (by simpa [AV.cells, D.cells] using hb.2) (.inl ⟨ys, rfl⟩)
          have he := hrec _ _ _ _ _ _ h1 p2.d_inv q2.d_inv
          have ih := eqFs_sound hT hx hy hrec (fun g hg => hn g (by simp [hg])) h2
          have hne : f.name ≠ "_" := by simpa using hn f (by simp)
          simp only [Op.eqFields, if_pos hne, Sem.run_bind, p1, q1, he, Result.andThen_ok]
          cases b1
          · simp
          · simpa using ih
        · simp at h
      · simp at h
    · simp at h

/-- Elements of arrays, one by one. -/
def eqElems (d : Nat) (e : TypeId) (k : Nat) (xs ys : Array Value) : List Nat → Sem Bool
  | [] => Pure.pure true
  | i :: r => do
    let a ← part e xs (i * k)
    let b ← part e ys (i * k)
    let c ← Op.equalIn d e a b
    if (!c) = true then Pure.pure false else eqElems d e k xs ys r

theorem run_equalIn_array (d : Nat) {t e : TypeId} {len k : Nat} (xs ys : Array Value) (ht : P.underlying t = some (.array len e)) (hs : ∀ w : World, (sizeOf e).run P w = .ok k w) :
    (Op.equalIn (d + 1) t (.agg xs) (.agg ys)).run P w = (eqElems d e k xs ys (List.range len)).run P w := by
  simp only [Op.equalIn, Sem.run_bind, run_underlying' ht, Result.andThen_ok, hs, Std.Legacy.Range.forIn_eq_forIn_range', Std.Legacy.Range.size, Nat.sub_zero, Nat.add_sub_cancel, Nat.div_one]
  rw [List.range_eq_range']
  generalize List.range' 0 len = l
  induction l generalizing w with
  | nil => simp [eqElems]
  | cons i l ih =>
    simp only [List.forIn_cons, eqElems, Sem.run_bind]
    generalize (part e xs (i * k)).run P w = r1
    cases r1 with
    | ok a w1 =>
      simp only [Result.andThen_ok]
      generalize (part e ys (i * k)).run P w1 = r2
      cases r2 with
      | ok b w2 =>
        simp only [Result.andThen_ok]
        generalize (Op.equalIn d e a b).run P w2 = r3
        cases r3 with
        | ok r w3 =>
          cases r
          · simp
          · simp only [Result.andThen_ok, Bool.not_true, Bool.false_eq_true, if_false, Sem.run_pure]
            exact ih
        | halt x w3 => simp [Result.andThen]
      | halt x w2 => simp [Result.andThen]
    | halt x w1 => simp [Result.andThen]

theorem eqElems_sound (hT : tab.checks P = true) {rec : TypeId → D → D → Option Bool} {xs ys : List D} {vs us : Array Value} {d : Nat} {e : TypeId} {te : TI} (hte : tab.get e = some te) (hx : FRep sz F (.agg xs) (.agg vs)) (hy : FRep sz F (.agg ys) (.agg us))
    (hrec : ∀ (t : TypeId) (x y : D) (b : Bool) (vx vy : Value), rec t x y = some b → FRep sz F x vx → FRep sz F y vy → (Op.equalIn d t vx vy).run P w = .ok b w) :
    ∀ {l : List Nat} {b : Bool}, eqFs tab rec xs ys (l.map fun i => (i * te.size, e)) = some b → (eqElems d e te.size vs us l).run P w = .ok b w
  | [], b, h => by
    simp only [List.map_nil, eqFs, Option.some.injEq] at h
    subst h
    simp [eqElems]
  | i :: l, b, h => by
    simp only [List.map_cons, eqFs, hte] at h
    split at h
    · rename_i hb
      split at h
      · rename_i b1 b2 h1 h2
        cases h
        have hg := Tab.good hT hte
        obtain ⟨cx, p1, p2⟩ := part_sound (P := P) (w := w) (F := F) (ρ := fun _ => .obj 0) (n := 0) hg (x := .d (.agg xs)) (o := i * te.size) (.d hx) (by simpa [AV.cells, D.cells] using hb.1) (.inl ⟨xs, rfl⟩)
        obtain ⟨cy, q1, q2⟩ := part_sound (P := P) (w := w) (F := F) (ρ := fun _ => .obj 0) (n := 0) hg (x := .d (.agg ys)) (o := i * te.size) (.d hy) (by simpa [AV.cells, D.cells] using hb.2) (.inl ⟨ys, rfl⟩)
        have he := hrec _ _ _ _ _ _ h1 p2.d_inv q2.d_inv
        have ih := eqElems_sound hT hte hx hy hrec h2
        simp only [eqElems, Sem.run_bind, p1, q1, he, Result.andThen_ok]
        cases b1
        · simp
        · simpa using ih
      · simp at h
    · simp at h

theorem eqT_sound (hT : tab.checks P = true) : ∀ (f : Nat) (t : TypeId) (x y : D) (b : Bool) (vx vy : Value) (d : Nat), f ≤ d → eqT tab f t x y = some b → FRep sz F x vx → FRep sz F y vy → (Op.equalIn d t vx vy).run P w = .ok b w
  | 0, _, _, _, _, _, _, _, _, h, _, _ => by simp [eqT] at h
  | f + 1, t, x, y, b, vx, vy, d, hd, h, hx, hy => by
    obtain ⟨d, rfl⟩ : ∃ k, d = k + 1 := ⟨d - 1, by omega⟩
    unfold eqT at h
    split at h
    · simp at h
    · rename_i ti hti
      have hg := Tab.good hT hti
      obtain ⟨ds, hu, hf⟩ := hg.desc
      split at h
      · rename_i p q hk
        cases h
        cases hx; cases hy
        rw [hk] at hf
        have : ds = .bool := by cases ds <;> simp only [TK.fits, Bool.false_eq_true] at hf; rfl
        subst this
        simp only [Op.equalIn, Sem.run_bind, run_underlying' hu, Result.andThen_ok, Sem.run_pure, dec_beq]
      · rename_i k0 k p k' q hk
        split at h
        · rename_i hkk
          cases h
          cases hx; cases hy
          rw [hk] at hf
          have := tk_int hf
          subst this
          simp only [Op.equalIn, Sem.run_bind, run_underlying' hu, Result.andThen_ok, Sem.run_pure, hkk, if_true, dec_beq]
        · simp at h
      · rename_i p q hk
        cases h
        cases hx; cases hy
        rw [hk] at hf
        have := tk_str hf
        subst this
        simp only [Op.equalIn, Sem.run_bind, run_underlying' hu, Result.andThen_ok, Sem.run_pure]
        congr 1
        rw [show (ByteArray.mk p.toArray == ByteArray.mk q.toArray) = (p == q) from by rw [beq_toListBytes, toList_mk, toList_mk], dec_beq]
      · rename_i fs xs ys hk
        rw [hk] at hf
        have heq := hg.eq (by rw [hk]; rfl)
        cases ds <;> simp only [TK.fits, Bool.false_eq_true, beq_iff_eq] at hf
        rename_i fds
        subst hf
        unfold eqOk at heq
        rw [hu] at heq
        simp only [Bool.and_eq_true, Bool.not_eq_true', Array.all_eq_true', bne_iff_ne] at heq
        obtain ⟨_, hso, hnm⟩ := heq
        cases hx with
        | agg _ vs hs val hv hr =>
        cases hy with
        | agg _ us hs' val' hv' hr' =>
        have hfo : P.fieldsOf t = fds := by simp [Program.fieldsOf, hu]
        rw [run_equalIn_struct (P := P) w d t vs us (by rw [hfo]; exact hu) hso, hfo]
        exact eqFs_sound hT (.agg _ vs hs val hv hr) (.agg _ us hs' val' hv' hr') (fun t x y b vx vy h hx hy => eqT_sound hT f t x y b vx vy d (by omega) h hx hy) (fun g hg => by simpa using hnm g (by simpa using hg)) h
      · rename_i n e xs ys hk
        split at h
        · rename_i te hte
          rw [hk] at hf
          have := tk_arr hf
          subst this
          cases hx with
          | agg _ vs hs val hv hr =>
          cases hy with
          | agg _ us hs' val' hv' hr' =>
          rw [run_equalIn_array d vs us hu (fun w => (Tab.good hT hte).run_sizeOf)]
          exact eqElems_sound hT hte (.agg _ vs hs val hv hr) (.agg _ us hs' val' hv' hr') (fun t x y b vx vy h hx hy => eqT_sound hT f t x y b vx vy d (by omega) h hx hy) h
        · simp at h
      · simp at h

theorem eqGuard_eq {t : TypeId} (h : P.eqGuardType P.depth t = false) (op : BinOp) (x y : Operand) (xs ys : Array Value) : (eqGuard op t x y (.agg xs) (.agg ys)).run P w = .ok () w := by
  cases op <;> simp [eqGuard, h]

theorem eqBin_sound (hT : tab.checks P = true) {t : TypeId} {neg : Bool} {x y : AV} {ob : Prop} {v : AV} {vx vy : Value} (h : eqBin tab t neg x y = some (ob, v)) (hob : ob)
    (hx : VRel sz F ρ n x vx) (hy : VRel sz F ρ n y vy) (ox oy : Operand) :
    Gives P sz F ρ n w (do eqGuard (if neg then .neq else .eql) t ox oy vx vy; binOp (if neg then .neq else .eql) t vx vy) v := by
  unfold eqBin at h
  split at h
  · simp at h
  rename_i ti hti
  obtain ⟨d, hu, hf⟩ := (Tab.good hT hti).desc
  split at h
  · rename_i p q hk
    rw [hk] at hf
    have hd : d = .bool := by cases d <;> simp only [TK.fits, Bool.false_eq_true] at hf; rfl
    subst hd
    simp only [Option.some.injEq, Prod.mk.injEq] at h
    obtain ⟨_, rfl⟩ := h
    have := hx.bool_inv; subst this
    have := hy.bool_inv; subst this
    cases neg
    · refine ⟨_, ?_, rbool _⟩
      simp only [Sem.run_bind, eqGuard_bool, Result.andThen_ok, binOp, equal_bool hu, Sem.run_pure, Bool.false_eq_true, if_false]
    · refine ⟨.bool (!decide (p = q)), ?_, by simpa using rbool _⟩
      simp only [Sem.run_bind, eqGuard_bool, Result.andThen_ok, binOp, equal_bool hu, Sem.run_pure, if_true]
  all_goals try (
    rename_i p q hk
    simp only [Option.map_eq_some_iff, Prod.mk.injEq] at h
    obtain ⟨b, h1, _, rfl⟩ := h
    have heq := (Tab.good hT hti).eq (by rw [hk]; rfl)
    have hgd : P.eqGuardType P.depth t = false := by
      unfold eqOk at heq
      simp only [Bool.and_eq_true, Bool.not_eq_true'] at heq
      exact heq.1
    have hrun : (Op.equal t vx vy).run P w = .ok b w := eqT_sound hT 9 t p q b vx vy 10000 (by omega) h1 hx.d_inv hy.d_inv
    have hagg : ∃ us vs, vx = .agg us ∧ vy = .agg vs := by
      unfold eqT at h1
      rw [hti] at h1
      simp only [hk] at h1
      split at h1 <;> (try (simp at h1; done)) <;> (try contradiction)
      all_goals
        have h2 := hx.d_inv
        have h3 := hy.d_inv
        cases h2; cases h3
        exact ⟨_, _, rfl, rfl⟩
    obtain ⟨us, vs, rfl, rfl⟩ := hagg
    cases neg
    · refine ⟨_, ?_, rbool _⟩
      simp only [Sem.run_bind, eqGuard_eq hgd, Result.andThen_ok, binOp, hrun, Sem.run_pure, Bool.false_eq_true, if_false]
    · refine ⟨_, ?_, rbool _⟩
      simp only [Sem.run_bind, eqGuard_eq hgd, Result.andThen_ok, binOp, hrun, Sem.run_pure, if_true]
    done)
  · rename_i k x' y' _ _ _ hk
    split at h
    · rename_i hn
      split at h
      · rename_i q hq
        simp only [Option.some.injEq, Prod.mk.injEq] at h
        obtain ⟨_, rfl⟩ := h
        obtain ⟨b, hvx, hbq⟩ := nilMaybe_sound hq hx
        have hvy := nilness_sound (isNilC_nilness hn) trivial hy
        obtain ⟨⟨e1, _⟩, e2, ⟨e3, e4⟩, _⟩ := nil_eq (w := w) hf hu hvx hvy
        cases neg
        · refine ⟨_, ?_, .pb (b := b) (fun hb => hbq (by simpa using hb))⟩
          simp only [Sem.run_bind, (e2 _ _ _).1, Result.andThen_ok, Bool.false_eq_true, if_false, e3, e1, Sem.run_pure]
        · refine ⟨_, ?_, .pb (b := !b) (fun hb => hbq (by simpa using hb))⟩
          simp only [Sem.run_bind, (e2 _ _ _).1, Result.andThen_ok, if_true, e4, e1, Sem.run_pure]
      · simp only [Option.map_eq_some_iff, Prod.mk.injEq, Prod.exists] at h
        obtain ⟨o, b, h1, rfl, rfl⟩ := h
        have hvx := nilness_sound h1 hob hx
        have hvy := nilness_sound (isNilC_nilness hn) trivial hy
        obtain ⟨⟨e1, _⟩, e2, ⟨e3, e4⟩, _⟩ := nil_eq (w := w) hf hu hvx hvy
        cases neg
        · refine ⟨_, ?_, rbool _⟩
          simp only [Sem.run_bind, (e2 _ _ _).1, Result.andThen_ok, Bool.false_eq_true, if_false, e3, e1, Sem.run_pure]
        · refine ⟨_, ?_, rbool _⟩
          simp only [Sem.run_bind, (e2 _ _ _).1, Result.andThen_ok, if_true, e4, e1, Sem.run_pure]
    · split at h
      · rename_i hn
        simp only [Option.map_eq_some_iff, Prod.mk.injEq, Prod.exists] at h
        obtain ⟨o, b, h1, rfl, rfl⟩ := h
        have hvy := nilness_sound h1 hob hy
        have hvx := nilness_sound (isNilC_nilness hn) trivial hx
        obtain ⟨⟨_, e1⟩, e2, _, ⟨e3, e4⟩⟩ := nil_eq (w := w) hf hu hvy hvx
        cases neg
        · refine ⟨_, ?_, rbool _⟩
          simp only [Sem.run_bind, (e2 _ _ _).2, Result.andThen_ok, Bool.false_eq_true, if_false, e3, e1, Sem.run_pure]
        · refine ⟨_, ?_, rbool _⟩
          simp only [Sem.run_bind, (e2 _ _ _).2, Result.andThen_ok, if_true, e4, e1, Sem.run_pure]
      · simp at h

theorem bin_sound (hT : tab.checks P = true) {t : TypeId} {op : BinOp} {x y : AV} {ob : Prop} {v : AV} {vx vy : Value} (h : binAV tab t op x y = some (ob, v)) (hob : ob)
    (hx : VRel sz F ρ n x vx) (hy : VRel sz F ρ n y vy) (ox oy : Operand) :
    Gives P sz F ρ n w (do eqGuard op t ox oy vx vy; binOp op t vx vy) v := by
  unfold binAV at h
  split at h
  · rename_i k i k' j
    have := hx.int_inv; subst this
    have := hy.int_inv; subst this
    split at h
    · simp only [Option.some.injEq, Prod.mk.injEq] at h
      obtain ⟨h1, rfl⟩ := h
      subst h1
      have h0 : ¬ j < 0 := by omega
      refine ⟨_, ?_, rint _ _⟩
      simp only [Sem.run_bind, eqGuard_int, Result.andThen_ok, binOp, Op.shift, h0, if_false, Sem.run_pure]
    · simp only [Option.some.injEq, Prod.mk.injEq] at h
      obtain ⟨h1, rfl⟩ := h
      subst h1
      have h0 : ¬ j < 0 := by omega
      refine ⟨_, ?_, rint _ _⟩
      simp only [Sem.run_bind, eqGuard_int, Result.andThen_ok, binOp, Op.shift, h0, if_false, Sem.run_pure]
    · split at h
      · rename_i hk
        subst hk
        obtain ⟨cv, h1, h2⟩ := intBin_sound (P := P) (w := w) (t := t) (sz := sz) (F := F) (ρ := ρ) (n := n) h hob
        exact ⟨cv, by simp only [Sem.run_bind, eqGuard_int, Result.andThen_ok, h1], h2⟩
      · simp at h
  · have := hx.str_inv; subst this
    have := hy.str_inv; subst this
    obtain ⟨cv, h1, h2⟩ := strBin_sound (P := P) (w := w) (t := t) (sz := sz) (F := F) (ρ := ρ) (n := n) h hob
    exact ⟨cv, by simp only [Sem.run_bind, eqGuard_str, Result.andThen_ok, h1], h2⟩
  · split at h
    · exact eqBin_sound (neg := false) hT h hob hx hy ox oy
    · exact eqBin_sound (neg := true) hT h hob hx hy ox oy
    · simp at h

theorem un_sound {op : UnOp} {x : AV} {ob : Prop} {v : AV} {vx : Value} (h : unAV op x = some (ob, v)) (hx : VRel sz F ρ n x vx) :
    Gives P sz F ρ n w (Op.unary op vx) v := by
  unfold unAV at h
  split at h
  · simp only [Option.some.injEq, Prod.mk.injEq] at h
    obtain ⟨_, rfl⟩ := h
    have := hx.int_inv; subst this
    exact ⟨_, rfl, rint _ _⟩
  · simp only [Option.some.injEq, Prod.mk.injEq] at h
    obtain ⟨_, rfl⟩ := h
    have := hx.int_inv; subst this
    exact ⟨_, rfl, rint _ _⟩
  · simp only [Option.some.injEq, Prod.mk.injEq] at h
    obtain ⟨_, rfl⟩ := h
    have := hx.bool_inv; subst this
    exact ⟨_, rfl, rbool _⟩
  · simp at h

theorem load_sound (hT : tab.checks P = true) (hst : St (psz P) base w0 F ρ env.h w) {t : TypeId} {x : AV} {ob : Prop} {v : AV} {cv : Value} (h : loadAV tab env.h t x = some (ob, v)) (hob : ob)
    (hx : VRel (psz P) F ρ env.h.length x cv) : Gives P (psz P) F ρ env.h.length w (Instr.loadAt t cv) v := by
  unfold loadAV at h
  split at h
  · rename_i e xs i off ti hti
    split at h
    · rename_i te hte
      simp only [Option.some.injEq, Prod.mk.injEq] at h
      obtain ⟨h1, rfl⟩ := h
      subst h1
      exact load_fp hst.frz (Tab.good hT hti) hx (by rw [good_size hT hte]; exact hob)
    · simp at h
  · rename_i b e i off ti hti
    split at h
    · rename_i te e' xs hte hb
      simp only [Option.some.injEq, Prod.mk.injEq] at h
      obtain ⟨h1, rfl⟩ := h
      subst h1
      obtain ⟨rfl, hi, hk⟩ := hob
      exact load_ptr hst (Tab.good hT hti) hx hb hi (by rw [good_size hT hte]; exact hk)
    · simp at h
  · simp at h

theorem len_sound (hT : tab.checks P = true) {t ty : TypeId} {x : AV} {i : Int} {cv : Value} (h : lenAV (isStr tab t) (slOf tab t).isSome x = some i) (hx : VRel sz F ρ n x cv) :
    (Builtin.len_ #[t] ty #[cv]).run P w = .ok (.int .i64 i) w := by
  have slc : (slOf tab t).isSome = true → ∀ (A : Option Addr) (l c : Nat), (Builtin.len_ #[t] ty #[.slice A l c]).run P w = .ok (.int .i64 l) w := by
    intro hs A l c
    obtain ⟨e, he⟩ := Option.isSome_iff_exists.mp hs
    obtain ⟨hu, _⟩ := slOf_sound hT he
    simp [Builtin.len_, run_underlying' hu, goInt]
  unfold lenAV at h
  split at h <;> (try (simp at h; done)) <;> simp only [Option.ite_none_right_eq_some, Option.some.injEq] at h <;> obtain ⟨hs, rfl⟩ := h
  · have := hx.str_inv; subst this
    simp only [Builtin.len_, List.getElem?_toArray, List.getElem?_cons_zero, Sem.run_bind, run_underlying' (isStr_sound hT hs), Result.andThen_ok, goInt, Sem.run_pure]
    congr 2
  · obtain ⟨A, cap, rfl, hc, _⟩ := hx.d_inv.sl_inv
    exact slc hs _ _ _
  · cases hx with | d hx => cases hx with
    | nilsl => exact slc hs _ _ _
  · cases hx with
    | z0 => exact slc hs _ _ _
  · cases hx with
    | bl hb hrep hl' hw' hcur =>
    obtain ⟨A, cap, rfl, hc, _⟩ := hrep.sl_inv
    exact slc hs _ _ _
  · cases hx with
    | ref => exact slc hs _ _ _

theorem mapM_ev (hr : Rel sz base w0 m nt F ρ env a w) : ∀ {xs : List Operand} {vs : List AV}, xs.mapM (ev env) = some vs → xs.length = vs.length ∧ ∀ (k : Nat) (v : AV), vs[k]? = some v → ∃ x, xs[k]? = some x ∧ VRel sz F ρ env.h.length v (a.eval x)
  | [], vs, h => by simp at h; subst h; simp
  | x :: xs, vs, h => by
    simp only [List.mapM_cons, Option.bind_eq_bind, Option.bind_eq_some_iff, Option.pure_def, Option.some.injEq] at h
    obtain ⟨v, h1, vs', h2, rfl⟩ := h
    obtain ⟨hl, hs⟩ := mapM_ev hr h2
    refine ⟨by simp [hl], fun k u hk => ?_⟩
    cases k with
    | zero => simp at hk; subst hk; exact ⟨x, by simp, ev_sound hr h1⟩
    | succ k => simpa using hs k u (by simpa using hk)

theorem minmax_sound {b : Bool} {vs : List AV} {k : IntKind} {i : Int} {cvs : List Value} (h : minmax b vs = some (k, i))
    (hl : cvs.length = vs.length) (hv : ∀ (j : Nat) (v : AV), vs[j]? = some v → ∃ x, cvs[j]? = some x ∧ VRel sz F ρ n v x) (ts : Array TypeId) (ty : TypeId) :
    ((if b then Builtin.max_ else Builtin.min_) ts ty cvs.toArray).run P w = .ok (.int k i) w := by
  unfold minmax at h
  split at h
  · simp only [Option.some.injEq, Prod.mk.injEq] at h
    obtain ⟨rfl, rfl⟩ := h
    match cvs, hl with
    | [x], _ =>
      obtain ⟨x', h1, h2⟩ := hv 0 _ rfl
      cases h1
      have := h2.int_inv; subst this
      cases b <;> simp [Builtin.max_, Builtin.min_]
  · simp only [Option.ite_none_right_eq_some, Option.some.injEq, Prod.mk.injEq] at h
    obtain ⟨rfl, rfl, rfl⟩ := h
    match cvs, hl with
    | [x, y], _ =>
      obtain ⟨x', h1, h2⟩ := hv 0 _ rfl
      cases h1
      have := h2.int_inv; subst this
      obtain ⟨x', h1, h2⟩ := hv 1 _ rfl
      cases h1
      have := h2.int_inv; subst this
      cases b
      · simp [Builtin.min_, Builtin.min2]; split <;> omega
      · simp [Builtin.max_, Builtin.max2]; split <;> omega
  · simp only [Option.ite_none_right_eq_some, Option.some.injEq, Prod.mk.injEq] at h
    obtain ⟨⟨rfl, rfl⟩, rfl, rfl⟩ := h
    match cvs, hl with
    | [x, y, z], _ =>
      obtain ⟨x', h1, h2⟩ := hv 0 _ rfl
      cases h1
      have := h2.int_inv; subst this
      obtain ⟨x', h1, h2⟩ := hv 1 _ rfl
      cases h1
      have := h2.int_inv; subst this
      obtain ⟨x', h1, h2⟩ := hv 2 _ rfl
      cases h1
      have := h2.int_inv; subst this
      cases b
      · simp [Builtin.min_, Builtin.min2]; split <;> split <;> omega
      · simp [Builtin.max_, Builtin.max2]; split <;> split <;> omega
  · simp at h

end Go.Vm

/- Maps: lookups and updates. -/
set_option linter.unusedSimpArgs false
namespace Go.Vm
variable {P : Program} {base : Nat} {w0 : World} {m nt : Nat} {F : Frz} {ρ : Env0} {env : Env} {a : Act} {w : World} {n : Nat} {tab : Tab} {sz : TypeId → Nat}

theorem mapOf_sound (hT : tab.checks P = true) {t kt : TypeId} {te : TI} (h : mapOf tab t = some (kt, te)) : ∃ e, P.underlying t = some (.map kt e) ∧ tab.get e = some te := by
  unfold mapOf at h
  split at h
  · rename_i k e _ _ _ hg
    simp only [Option.map_eq_some_iff, Prod.mk.injEq] at h
    obtain ⟨te', h1, rfl, rfl⟩ := h
    obtain ⟨d, hu, hf⟩ := (Tab.good hT hg).desc
    cases d <;> simp only [TK.fits, Bool.false_eq_true, Bool.and_eq_true, beq_iff_eq] at hf
    obtain ⟨rfl, rfl⟩ := hf
    exact ⟨_, hu, h1⟩
  · simp at h

theorem zero_rel (hT : tab.checks P = true) {t : TypeId} {ti : TI} (h : tab.get t = some ti) : Gives P sz F ρ n w (zeroValue t) (zeroAV ti) := by
  have hg := Tab.good hT h
  obtain ⟨info, hi1, hi2, _, z, hz, hzc, hzp, hza⟩ := hg.info
  refine ⟨z, by simp only [zeroValue, typeInfo, Sem.run_bind, run_program, hi1, Result.andThen_ok, Sem.run_pure, hz], ?_⟩
  unfold zeroAV
  cases hagg : ti.agg with
  | true =>
    rw [hagg] at hza
    cases z with
    | agg cs =>
      simp only [Value.cells] at hzc
      simp only [if_true]
      refine .d (.agg _ _ (by rw [← Array.length_toList, hzc]; simp) (fun k => (ti.zero.getD k .nilptr).val) (fun k c hk => ?_) (fun k c hk => ?_))
      · have : cs.toList[k]? = some c.val := by rw [hzc]; simp [hk]
        rw [List.getD, hk]
        simpa using this
      · rw [List.getD, hk]
        exact D.val_rep (hzp c (List.mem_of_getElem? hk))
    | _ => simp at hza
  | false =>
    have h1 := hg.one hagg
    rw [← hg.zlen] at h1
    rw [hagg] at hza
    match hzz : ti.zero with
    | [] => rw [hzz] at h1; simp at h1
    | [x] =>
      rw [hzz] at hzc
      simp only [Bool.false_eq_true, if_false, List.headD_cons]
      have : z = x.val := by
        cases z with
        | agg cs => simp at hza
        | _ => simpa [Value.cells] using hzc
      rw [this]
      exact .d (D.val_rep (hzp x (by rw [hzz]; simp)))
    | _ :: _ :: _ => rw [hzz] at h1; simp at h1

theorem sb_int {k : IntKind} {i : Int} {m : Nat} : Instr.sameBits m (.int k i) (.int k i) = true := by cases m <;> simp [Instr.sameBits]
theorem sb_bool {b : Bool} {m : Nat} : Instr.sameBits m (.bool b) (.bool b) = true := by cases m <;> simp [Instr.sameBits]
theorem sb_str {b : ByteArray} {m : Nat} : Instr.sameBits m (.string b) (.string b) = true := by cases m <;> simp [Instr.sameBits, beq_toListBytes]

theorem checkKey_ok {kt : TypeId} {v : Value} {d : TypeDesc} (hu : P.underlying kt = some d) (h1 : ∀ l e, d ≠ .array l e) (h2 : ∀ fs, d ≠ .struct fs) (h3 : ∀ ms, d ≠ .interface ms) (b : Bool) (m : Nat) :
    (Instr.checkKey b (m + 1) kt v).run P w = .ok () w := by
  simp only [Instr.checkKey, Sem.run_bind, run_underlying' hu, Result.andThen_ok]
  cases d <;> first | rfl | exact absurd rfl (h1 _ _) | exact absurd rfl (h2 _) | exact absurd rfl (h3 _)

/-- A key of a kind that is compared at once. -/
theorem keyOk_sound (hT : tab.checks P = true) {kt : TypeId} {k : D} {v : Value} (h : keyOk tab kt k = true) (hv : FRep sz F k v) : ∃ d, P.underlying kt = some d ∧
    (∀ b, (Instr.checkKey b 10000 kt v).run P w = .ok () w) ∧ ∀ (k' : D) (v' : Value) (r : Bool), FRep sz F k' v' → keyEq k k' = some r → Instr.sameNow d v v' = some r ∧ (r = true → v' = v ∧ Instr.sameBits 10000 v' v = true) := by
  have ck : ∀ (d : TypeDesc), P.underlying kt = some d → (∀ l e, d ≠ .array l e) → (∀ fs, d ≠ .struct fs) → (∀ ms, d ≠ .interface ms) → ∀ b, (Instr.checkKey b 10000 kt v).run P w = .ok () w := by
    intro d hu h1 h2 h3 b
    exact checkKey_ok hu h1 h2 h3 b 9999
  unfold keyOk at h
  split at h
  · rename_i k0 _ _ _ k1 i hg
    obtain ⟨d, hu, hf⟩ := (Tab.good hT hg).desc
    have := tk_int hf
    subst this
    refine ⟨_, hu, ck _ hu (by simp) (by simp) (by simp), fun k' v' r hr hk => ?_⟩
    cases hv
    cases hr <;> simp only [keyEq, reduceCtorEq] at hk
    split at hk
    · rename_i hkk
      subst hkk
      cases hk
      refine ⟨by simp [Instr.sameNow, dec_beq], fun hb => ?_⟩
      have hb' := of_decide_eq_true hb
      subst hb'
      exact ⟨rfl, sb_int⟩
    · simp at hk
  · rename_i _ _ _ s hg
    obtain ⟨d, hu, hf⟩ := (Tab.good hT hg).desc
    have := tk_str hf
    subst this
    refine ⟨_, hu, ck _ hu (by simp) (by simp) (by simp), fun k' v' r hr hk => ?_⟩
    cases hv
    cases hr <;> simp only [keyEq, reduceCtorEq] at hk
    rename_i s'
    cases hk
    refine ⟨?_, fun hb => ?_⟩
    · simp only [Instr.sameNow]
      rw [show (ByteArray.mk s.toArray == ByteArray.mk s'.toArray) = (s == s') from by rw [beq_toListBytes, toList_mk, toList_mk], dec_beq]
    · have hb' := of_decide_eq_true hb
      subst hb'
      exact ⟨rfl, sb_str⟩
  · rename_i _ _ _ s hg
    obtain ⟨d, hu, hf⟩ := (Tab.good hT hg).desc
    have : d = .bool := by cases d <;> simp only [TK.fits, Bool.false_eq_true] at hf; rfl
    subst this
    refine ⟨_, hu, ck _ hu (by simp) (by simp) (by simp), fun k' v' r hr hk => ?_⟩
    cases hv
    cases hr <;> simp only [keyEq, reduceCtorEq] at hk
    rename_i s'
    cases hk
    refine ⟨by simp [Instr.sameNow, dec_beq], fun hb => ?_⟩
    have hb' := of_decide_eq_true hb
    subst hb'
    exact ⟨rfl, sb_bool⟩
  · simp at h

/-- The entries of a map, in the world and here. -/
def Ents (sz : TypeId → Nat) (F : Frz) (ρ : Env0) (n : Nat) (es : List (D × AV)) (ms : List MapEntry) : Prop :=
  ms.length = es.length ∧ ∀ (i : Nat) (k : D) (x : AV), es[i]? = some (k, x) → ∃ en : MapEntry, ms[i]? = some en ∧ FRep sz F k en.key ∧ VRel sz F ρ n x en.val

theorem Ents.tail {e : D × AV} {es : List (D × AV)} {en : MapEntry} {ms : List MapEntry} (h : Ents sz F ρ n (e :: es) (en :: ms)) : FRep sz F e.1 en.key ∧ VRel sz F ρ n e.2 en.val ∧ Ents sz F ρ n es ms := by
  obtain ⟨en', h1, h2, h3⟩ := h.2 0 e.1 e.2 rfl
  simp only [List.getElem?_cons_zero, Option.some.injEq] at h1
  subst h1
  exact ⟨h2, h3, by simpa using h.1, fun i k x hi => by simpa using h.2 (i + 1) k x (by simpa using hi)⟩

theorem find_sound {d : TypeDesc} {k : D} {v : Value} (hk : ∀ (k' : D) (v' : Value) (r : Bool), FRep sz F k' v' → keyEq k k' = some r → Instr.sameNow d v v' = some r ∧ (r = true → v' = v ∧ Instr.sameBits 10000 v' v = true)) :
    ∀ {es : List (D × AV)} {ms : List MapEntry} {r : Option AV} (j : Nat), Ents sz F ρ n es ms → mapFind k es = some r →
      match r with
      | none => Instr.findNow d v ms j = some none
      | some x => ∃ i cv, Instr.findNow d v ms j = some (some (i, cv)) ∧ VRel sz F ρ n x cv
  | [], [], r, j, _, h => by
    simp only [mapFind, Option.some.injEq] at h
    subst h
    rfl
  | [], _ :: _, r, j, he, _ => by have := he.1; simp at this
  | _ :: _, [], r, j, he, _ => by have := he.1; simp at this
  | (k', x) :: es, en :: ms, r, j, he, h => by
    obtain ⟨h1, h2, h3⟩ := he.tail
    simp only [mapFind] at h
    split at h
    · rename_i b hb
      obtain ⟨h4, _⟩ := hk k' en.key b h1 hb
      cases b with
      | true =>
        simp only [if_true, Option.some.injEq] at h
        subst h
        exact ⟨j, en.val, by simp only [Instr.findNow, h4], h2⟩
      | false =>
        simp only [Bool.false_eq_true, if_false] at h
        have := find_sound hk (j + 1) h3 h
        cases r with
        | none => simp only [Instr.findNow, h4]; exact this
        | some x => simp only [Instr.findNow, h4]; exact this
    · simp at h

theorem findNow_shift {d : TypeDesc} {v : Value} : ∀ (ms : List MapEntry) (j : Nat), Instr.findNow d v ms j = (Instr.findNow d v ms 0).map fun r => r.map fun p => (j + p.1, p.2)
  | [], _ => rfl
  | en :: ms, j => by
    simp only [Instr.findNow]
    split
    · rfl
    · rw [findNow_shift ms (j + 1), findNow_shift ms (0 + 1)]
      cases Instr.findNow d v ms 0 with
      | none => rfl
      | some r => cases r with
        | none => rfl
        | some p => simp only [Option.map_some, Option.some.injEq, Prod.mk.injEq, and_true]; omega
    · rfl

theorem put_sound {d : TypeDesc} {k : D} {v : Value} {x : AV} (hk : ∀ (k' : D) (v' : Value) (r : Bool), FRep sz F k' v' → keyEq k k' = some r → Instr.sameNow d v v' = some r ∧ (r = true → v' = v ∧ Instr.sameBits 10000 v' v = true)) :
    ∀ {es es' : List (D × AV)} {ms : List MapEntry}, Ents sz F ρ n es ms → mapPut k x es = some es' →
      (Instr.findNow d v ms 0 = some none ∧ es' = es ++ [(k, x)]) ∨
      ∃ i cv en k' x', Instr.findNow d v ms 0 = some (some (i, cv)) ∧ ms[i]? = some en ∧ en.key = v ∧ Instr.sameBits 10000 en.key v = true ∧ es[i]? = some (k', x') ∧ es' = es.set i (k', x)
  | [], es', [], _, h => by
    simp only [mapPut, Option.some.injEq] at h
    subst h
    exact .inl ⟨rfl, rfl⟩
  | [], _, _ :: _, he, _ => by have := he.1; simp at this
  | _ :: _, _, [], he, _ => by have := he.1; simp at this
  | (k', x0) :: es, es', en :: ms, he, h => by
    obtain ⟨h1, h2, h3⟩ := he.tail
    simp only [mapPut] at h
    split at h
    · rename_i b hb
      obtain ⟨h4, h5⟩ := hk k' en.key b h1 hb
      cases b with
      | true =>
        simp only [if_true, Option.some.injEq] at h
        subst h
        obtain ⟨h6, h7⟩ := h5 rfl
        exact .inr ⟨0, en.val, en, k', x0, by simp only [Instr.findNow, h4], rfl, h6, h7, rfl, rfl⟩
      | false =>
        simp only [Bool.false_eq_true, if_false, Option.map_eq_some_iff] at h
        obtain ⟨es1, h6, rfl⟩ := h
        rcases put_sound hk h3 h6 with ⟨h7, rfl⟩ | ⟨i, cv, en', k1, x1, h7, h8, h9, h10, h11, rfl⟩
        · refine .inl ⟨?_, rfl⟩
          simp only [Instr.findNow, h4]
          rw [findNow_shift, h7]; rfl
        · refine .inr ⟨i + 1, cv, en', k1, x1, ?_, by simpa using h8, h9, h10, by simpa using h11, rfl⟩
          simp only [Instr.findNow, h4]
          rw [findNow_shift, h7]
          simp only [Option.map_some, Option.some.injEq, Prod.mk.injEq, and_true]; omega
    · simp at h

theorem lookup_sound (hT : tab.checks P = true) (hst : St sz base w0 F ρ env.h w) {t : TypeId} {mv kv : AV} {ok : Bool} {ob : Prop} {v : AV} {cm ck : Value} (h : lookupAV tab env.h t mv kv ok = some (ob, v))
    (hm : VRel sz F ρ env.h.length mv cm) (hk : VRel sz F ρ env.h.length kv ck) : Gives P sz F ρ env.h.length w (Instr.lookup t cm ck ok) v := by
  unfold lookupAV at h
  split at h
  · rename_i kt te kd hmo
    obtain ⟨e, hu, hte⟩ := mapOf_sound hT hmo
    obtain ⟨z, hz1, hz2⟩ := zero_rel (sz := sz) (F := F) (ρ := ρ) (n := env.h.length) (w := w) hT hte
    split at h
    · rename_i hko
      obtain ⟨d, hd, hck, hkey⟩ := keyOk_sound (w := w) hT hko hk.d_inv
      have fin : ∀ (r : Option AV) (x : AV) (cx : Value), VRel sz F ρ env.h.length x cx → ∃ cv, (Pure.pure (if ok then Value.tuple #[cx, .bool r.isSome] else cx) : Sem Value).run P w = .ok cv w ∧
          VRel sz F ρ env.h.length (if ok then .tup [x, .d (.bool r.isSome)] else x) cv := by
        intro r x cx hx
        cases ok with
        | false => exact ⟨cx, rfl, hx⟩
        | true =>
          refine ⟨_, rfl, .tup _ _ rfl (fun k => if k = 0 then cx else .bool r.isSome) (fun k c hk => ?_) (fun k c hk => ?_)⟩
          · match k with
            | 0 => rfl
            | 1 => rfl
            | k + 2 => simp at hk
          · match k with
            | 0 => simp only [List.getElem?_cons_zero, Option.some.injEq] at hk; subst hk; exact hx
            | 1 => simp only [List.getElem?_cons_succ, List.getElem?_cons_zero, Option.some.injEq] at hk; subst hk; exact rbool _
            | k + 2 => simp at hk
      split at h
      · simp only [Option.some.injEq, Prod.mk.injEq] at h
        obtain ⟨_, rfl⟩ := h
        cases hm with | d hm => cases hm with
        | nilmap =>
          obtain ⟨cv, h1, h2⟩ := fin none _ _ hz2
          refine ⟨cv, ?_, h2⟩
          simp only [Instr.lookup, Sem.run_bind, run_underlying' hu, Result.andThen_ok, Sem.run_pure, hck, Instr.findKey, run_underlying' hd]
          simp only [Instr.findNow, Sem.run_bind, Sem.run_pure, Result.andThen_ok, hz1]
          exact h1
      · rename_i b
        split at h
        · rename_i es hb
          simp only [Option.map_eq_some_iff, Prod.mk.injEq] at h
          obtain ⟨r, hr, _, rfl⟩ := h
          obtain ⟨ro, m', h1, h2, h3, h4, h5⟩ := hst.blk b _ hb
          have he : Ents sz F ρ env.h.length es m'.toList := ⟨by simpa using h4, fun i k x hi => by
            obtain ⟨en, h6, h7, h8, h9⟩ := h5 i k x hi
            exact ⟨en, by simpa using h6, h8, h9⟩⟩
          have hfs := find_sound hkey 0 he hr
          cases hm with
          | @map _ r' hbn hl =>
            rw [h1] at hl
            cases hl
            have hgo : (getObj ro).run P w = .ok (.map m' m'.size) w := by simp only [getObj, Sem.run, h3]
            cases r with
            | none =>
              obtain ⟨cv, h6, h7⟩ := fin none _ _ hz2
              refine ⟨cv, ?_, h7⟩
              simp only [Instr.lookup, Sem.run_bind, run_underlying' hu, Result.andThen_ok, Sem.run_pure, hck, Instr.findKey, run_underlying' hd, hgo]
              rw [hfs]
              simp only [Sem.run_bind, Sem.run_pure, Result.andThen_ok, hz1]
              exact h6
            | some x =>
              obtain ⟨i, cx, h8, h9⟩ := hfs
              obtain ⟨cv, h6, h7⟩ := fin (some x) _ _ h9
              refine ⟨cv, ?_, h7⟩
              simp only [Instr.lookup, Sem.run_bind, run_underlying' hu, Result.andThen_ok, Sem.run_pure, hck, Instr.findKey, run_underlying' hd, hgo]
              rw [h8]
              simp only [Sem.run_bind, Sem.run_pure, Result.andThen_ok]
              exact h6
        · simp at h
      · simp at h
    · simp at h
  · simp at h

end Go.Vm

/- evL as a whole. -/
set_option linter.unusedSimpArgs false
namespace Go.Vm
variable {P : Program} {base : Nat} {w0 : World} {m nt : Nat} {F : Frz} {ρ : Env0} {env : Env} {a : Act} {w : World} {n : Nat} {tab : Tab} {sz : TypeId → Nat}

theorem vOf {s : Sem Value} {v : AV} (h : Gives P sz F ρ n w s v) : ∃ cv, ((do Pure.pure (Next.value (← s)) : Sem Next)).run P w = .ok (.value cv) w ∧ VRel sz F ρ n v cv := by
  obtain ⟨cv, h1, h2⟩ := h
  exact ⟨cv, by simp only [Sem.run_bind, h1, Result.andThen_ok, Sem.run_pure], h2⟩

theorem tup_get {vs : List AV} {cv : Value} {i : Nat} {v : AV} (h : VRel sz F ρ n (.tup vs) cv) (hi : vs[i]? = some v) : Gives P sz F ρ n w (Instr.extract cv i) v := by
  cases h with
  | tup _ ws hs val hv hr =>
    have := hv i v hi
    exact ⟨val i, by simp [Instr.extract, this], hr i v hi⟩

theorem bytesOk_get : ∀ {xs : List D}, bytesOk xs → ∀ (i : Nat) (x : D), xs[i]? = some x → ∃ n, x = .int .u8 n
  | [], _, i, x, h => by simp at h
  | y :: ys, hb, i, x, h => by
    cases i with
    | zero =>
      simp at h
      subst h
      cases y with
      | int k n => have : k = .u8 := hb.1; subst this; exact ⟨n, rfl⟩
      | _ => exact hb.1.elim
    | succ i => exact bytesOk_get hb.2 i x (by simpa using h)

def numOf : D → Int
  | .int _ n => n
  | _ => 0

theorem strOfNums_map (xs : List D) (hb : bytesOk xs) : strOfNums (xs.map numOf) = ⟨(xs.map byteOf).toArray⟩ := by
  unfold strOfNums
  congr 2
  rw [List.map_map]
  apply List.map_congr_left
  intro x hx
  obtain ⟨i, hi⟩ := List.getElem?_of_mem hx
  obtain ⟨n, rfl⟩ := bytesOk_get hb i x hi
  rfl

/-- A text out of bytes. -/
theorem bytes_sound {F : Frz} {e src dst : TypeId} {xs : List D} {v : Value} (hF : ∀ y u, F y = some u → w.cell? y = some u) (hs : P.underlying src = some (.slice e)) (he : P.underlying e = some (.int .u8)) (hd : P.underlying dst = some .string)
    (hsz : psz P e = 1) (hb : bytesOk xs) (h : FRep (psz P) F (.sl e xs) v) : (convert src dst v).run P w = .ok (.string ⟨(xs.map byteOf).toArray⟩) w := by
  cases h with
  | sl _ _ A ad cap val hA hc hl hF' hr ho =>
    by_cases h0 : xs = []
    · subst h0
      show (convert src dst (.slice A 0 cap)).run P w = _
      rw [run_convert_bytes_string w src dst e A 0 cap hs he hd]
      cases A with
      | none => simp [Conv.bytesToString]; rfl
      | some a =>
        exact run_bytesToString (P := P) w a 0 cap [] (by simp [loadCells, loadCellsFrom])
    · obtain ⟨rfl, hsp⟩ := hA h0
      obtain ⟨b, off, spot⟩ := ad
      simp only at hsp hF'
      subst hsp
      rw [← strOfNums_map xs hb]
      refine run_convert_bytes_arg w src e hs he b off xs.length cap (xs.map numOf) (by simp) (fun i hi => ?_) dst hd
      have hx : xs[i]? = some xs[i] := List.getElem?_eq_getElem hi
      obtain ⟨n, hn⟩ := bytesOk_get hb i _ hx
      have h1 := hF' i _ 0 (.int .u8 n) hx (by rw [hn]; rfl)
      have h2 := hr i _ 0 (.int .u8 n) hx (by rw [hn]; rfl)
      rw [hsz, Nat.mul_one, Nat.add_zero] at h1
      have h3 := hF _ _ h1
      generalize hv : val i 0 = u at h2 h3
      cases h2
      rw [h3]
      simp [List.getD, hx, hn, numOf]

theorem evL_sound (hT : tab.checks P = true) (hr : Rel (psz P) base w0 m nt F ρ env a w) {o : Oper} {ob : Prop} {v : AV} (h : evL tab env o.op = some (ob, v)) (hob : ob) :
    ∃ cv, (execOp a.eval o).run P w = .ok (.value cv) w ∧ VRel (psz P) F ρ env.h.length v cv := by
  obtain ⟨dst, op, type, pos, after, guard⟩ := o
  simp only at h
  cases op with
  | move x | assign x =>
    simp only [evL, Option.map_eq_some_iff, Prod.mk.injEq] at h
    obtain ⟨v', h1, rfl, rfl⟩ := h
    exact ⟨a.eval x, rfl, ev_sound hr h1⟩
  | pick c x y =>
    simp only [evL] at h
    split at h
    · rename_i t ht
      simp only [Option.some.injEq, Prod.mk.injEq] at h
      obtain ⟨_, rfl⟩ := h
      have := (ev_sound hr ht).bool_inv
      have key : ∀ z : Operand, VRel (psz P) F ρ env.h.length ((ev env z).getD .unk) (a.eval z) := by
        intro z
        cases hz : ev env z with
        | none => exact .unk _
        | some u => exact ev_sound hr hz
      refine ⟨if t then a.eval x else a.eval y, ?_, ?_⟩
      · simp only [execOp, this, asBool, Sem.run_bind, Sem.run_pure, Result.andThen_ok]
      · cases t
        · exact key y
        · exact key x
    · simp at h
  | binOp op t x y yt =>
    simp only [evL] at h
    split at h
    · rename_i p q hp hq
      exact vOf (bin_sound hT h hob (ev_sound hr hp) (ev_sound hr hq) x y)
    · simp at h
  | unOp op t x =>
    simp only [evL] at h
    split at h
    · rename_i p hp
      exact vOf (un_sound h (ev_sound hr hp))
    · simp at h
  | convert s d x =>
    simp only [evL] at h
    split at h
    · rename_i ks _ _ _ k _ _ _ ks' i hs hd hx
      simp only [Option.some.injEq, Prod.mk.injEq] at h
      obtain ⟨_, rfl⟩ := h
      obtain ⟨ds, hus, hfs⟩ := (Tab.good hT hs).desc
      obtain ⟨dd, hud, hfd⟩ := (Tab.good hT hd).desc
      have := (ev_sound hr hx).int_inv
      refine vOf ⟨_, ?_, rint _ _⟩
      simp only [this, convert, Sem.run_bind, run_underlying' hus, run_underlying' hud, Result.andThen_ok, tk_int hfs, tk_int hfd, Conv.intToInt, Sem.run_pure]
    · rename_i s' hs hd hx
      simp only [Option.some.injEq, Prod.mk.injEq] at h
      obtain ⟨_, rfl⟩ := h
      obtain ⟨ds, hus, hfs⟩ := (Tab.good hT hs).desc
      obtain ⟨dd, hud, hfd⟩ := (Tab.good hT hd).desc
      have := (ev_sound hr hx).str_inv
      refine vOf ⟨_, ?_, rstr _⟩
      simp only [this, convert, Sem.run_bind, run_underlying' hus, run_underlying' hud, Result.andThen_ok, tk_str hfs, tk_str hfd, Sem.run_pure]
    · rename_i ks _ _ _ _ _ _ ks' i hs hd hx
      simp only [Option.some.injEq, Prod.mk.injEq] at h
      obtain ⟨_, rfl⟩ := h
      obtain ⟨ds, hus, hfs⟩ := (Tab.good hT hs).desc
      obtain ⟨dd, hud, hfd⟩ := (Tab.good hT hd).desc
      have := (ev_sound hr hx).int_inv
      refine vOf ⟨_, ?_, rstr _⟩
      simp only [this, convert, Sem.run_bind, run_underlying' hus, run_underlying' hud, Result.andThen_ok, tk_int hfs, tk_str hfd, Conv.intToString, Sem.run_pure]
    · rename_i e _ _ _ _ _ _ u hs hd hx
      obtain ⟨ds, hus, hfs⟩ := (Tab.good hT hs).desc
      obtain ⟨dd, hud, hfd⟩ := (Tab.good hT hd).desc
      rw [tk_sl hfs] at hus
      rw [tk_str hfd] at hud
      split at h
      · rename_i s1 b1 z1 e' xs he hu
        simp only [Option.some.injEq, Prod.mk.injEq] at h
        obtain ⟨h1, rfl⟩ := h
        rw [← h1] at hob
        obtain ⟨rfl, hok⟩ := hob
        have hg := Tab.good hT he
        obtain ⟨de, hue, hfe⟩ := hg.desc
        rw [tk_int hfe] at hue
        have hsz1 : psz P e' = 1 := by rw [hg.psz]; exact hg.one rfl
        have hrep : FRep (psz P) F (.sl e' xs) (a.eval x) := by
          have hvr := ev_sound hr hx
          unfold bytesAV at hu
          split at hu
          · cases hu; exact hvr.d_inv
          · cases hu; generalize a.eval x = cv at hvr; cases hvr with | bl hb h hl hw hc => exact h
          · simp at hu
        exact vOf ⟨_, bytes_sound hr.st.frz hus hue hud hsz1 hok hrep, rstr _⟩
      · rename_i s1 b1 z1 he hu
        unfold nilStr at h
        split at h
        · simp only [Option.some.injEq, Prod.mk.injEq] at h
          obtain ⟨_, rfl⟩ := h
          have hg := Tab.good hT he
          obtain ⟨de, hue, hfe⟩ := hg.desc
          rw [tk_int hfe] at hue
          have hvr := ev_sound hr hx
          have hcv : a.eval x = .slice none 0 0 := by
            generalize a.eval x = cv at hvr
            cases hvr with | d hvr => cases hvr; rfl
          refine vOf ⟨_, ?_, rstr []⟩
          rw [hcv, run_convert_bytes_nil w _ e hus hue 0 0 d hud]
          rfl
        · simp at h
      · simp at h
    · simp at h
  | load t x =>
    simp only [evL] at h
    split at h
    · rename_i p hp
      exact vOf (load_sound hT hr.st h hob (ev_sound hr hp))
    · simp at h
  | fieldAddr t x f =>
    simp only [evL] at h
    split at h
    · rename_i p hp
      exact vOf (fieldAddr_sound hT h hob (ev_sound hr hp))
    · simp at h
  | field t x f =>
    simp only [evL] at h
    split at h
    · rename_i p hp
      exact vOf (field_sound hT h hob (ev_sound hr hp))
    · simp at h
  | indexAddr t x i =>
    simp only [evL] at h
    split at h
    · rename_i p q hp hq
      exact vOf (indexAddr_sound hT h hob (ev_sound hr hp) (ev_sound hr hq))
    · simp at h
  | index t x i =>
    simp only [evL] at h
    split at h
    · rename_i p q hp hq
      exact vOf (index_sound hT h hob (ev_sound hr hp) (ev_sound hr hq))
    · simp at h
  | slice t x lo hi mx =>
    simp only [evL] at h
    split at h
    · rename_i p hp
      exact vOf (slice_sound hT hr h hob (ev_sound hr hp))
    · simp at h
  | lookup t m k ok =>
    simp only [evL] at h
    split at h
    · rename_i mv kv hm hk
      exact vOf (lookup_sound hT hr.st h (ev_sound hr hm) (ev_sound hr hk))
    · simp at h
  | extract x i =>
    simp only [evL] at h
    split at h
    · rename_i vs hvs
      simp only [Option.map_eq_some_iff, Prod.mk.injEq] at h
      obtain ⟨v', h1, rfl, rfl⟩ := h
      exact vOf (tup_get (ev_sound hr hvs) h1)
    · simp at h
  | nilCheck x =>
    simp only [evL] at h
    split at h
    · rename_i b e i o hp
      simp only [Option.some.injEq, Prod.mk.injEq] at h
      obtain ⟨_, rfl⟩ := h
      have hs := ev_sound hr hp
      refine ⟨a.eval x, ?_, hs⟩
      generalize hcv : a.eval x = cv at hs
      cases hs with
      | ptr hb hl => simp only [execOp, hcv, Sem.run_pure]
    · rename_i e xs i o hp
      simp only [Option.some.injEq, Prod.mk.injEq] at h
      obtain ⟨_, rfl⟩ := h
      have hs := ev_sound hr hp
      refine ⟨a.eval x, ?_, hs⟩
      generalize hcv : a.eval x = cv at hs
      cases hs with
      | fp hb hl => simp only [execOp, hcv, Sem.run_pure]
    · rename_i f hp
      simp only [Option.some.injEq, Prod.mk.injEq] at h
      obtain ⟨_, rfl⟩ := h
      have hs := ev_sound hr hp
      refine ⟨a.eval x, ?_, hs⟩
      generalize hcv : a.eval x = cv at hs
      cases hs with | d hs => cases hs with
      | fn f => simp only [execOp, hcv, Sem.run_pure]
    · rename_i f cs hp
      simp only [Option.some.injEq, Prod.mk.injEq] at h
      obtain ⟨_, rfl⟩ := h
      have hs := ev_sound hr hp
      refine ⟨a.eval x, ?_, hs⟩
      generalize hcv : a.eval x = cv at hs
      cases hs with
      | clo => simp only [execOp, hcv, Sem.run_pure]
    · rename_i f cs hp
      simp only [Option.some.injEq, Prod.mk.injEq] at h
      obtain ⟨_, rfl⟩ := h
      have hs := ev_sound hr hp
      refine ⟨a.eval x, ?_, hs⟩
      generalize hcv : a.eval x = cv at hs
      cases hs with
      | bnd => simp only [execOp, hcv, Sem.run_pure]
    · simp at h
  | makeFunc fn first caps =>
    cases fn with
    | func f =>
      simp only [evL] at h
      split at h
      · rename_i h0
        have hf0 : first = #[] := Array.eq_empty_of_size_eq_zero h0
        subst hf0
        have main : ∀ cs : List AV, caps.toList.mapM (ev env) = some cs → VRel (psz P) F ρ env.h.length (.clo f cs) (.func (.func f) #[] (caps.map a.eval)) := by
          intro cs hcs
          obtain ⟨hl, hv⟩ := mapM_ev hr hcs
          refine .clo f cs _ (by simpa using hl) (fun k => a.eval (caps.toList.getD k (.func 0))) (fun k c hk => ?_) (fun k c hk => ?_)
          · obtain ⟨x, hx, _⟩ := hv k c hk
            have : caps[k]? = some x := by simpa using hx
            simp [this]
          · obtain ⟨x, hx, hr'⟩ := hv k c hk
            rw [List.getD, hx]
            exact hr'
        split at h
        · rename_i hcs
          simp only [Option.some.injEq, Prod.mk.injEq] at h
          obtain ⟨_, rfl⟩ := h
          refine vOf ⟨.func (.func f) #[] (caps.map a.eval), by simp [Instr.makeFunc], ?_⟩
          obtain ⟨hl, _⟩ := mapM_ev hr hcs
          have : caps = #[] := Array.eq_empty_of_size_eq_zero (by simpa using hl)
          subst this
          simpa using VRel.d (.fn f)
        · rename_i cs hne hcs
          simp only [Option.some.injEq, Prod.mk.injEq] at h
          obtain ⟨_, rfl⟩ := h
          exact vOf ⟨.func (.func f) #[] (caps.map a.eval), by simp [Instr.makeFunc], main _ hcs⟩
        · simp at h
      · split at h
        · rename_i h0
          have hf0 : caps = #[] := Array.eq_empty_of_size_eq_zero h0
          subst hf0
          simp only [Option.map_eq_some_iff, Prod.mk.injEq] at h
          obtain ⟨bs, hbs, _, rfl⟩ := h
          obtain ⟨hl, hv⟩ := mapM_ev hr hbs
          refine vOf ⟨.func (.func f) (first.map a.eval) #[], by simp [Instr.makeFunc], ?_⟩
          refine .bnd f bs _ (by simpa using hl) (fun k => a.eval (first.toList.getD k (.func 0))) (fun k c hk => ?_) (fun k c hk => ?_)
          · obtain ⟨x, hx, _⟩ := hv k c hk
            have : first[k]? = some x := by simpa using hx
            simp [this]
          · obtain ⟨x, hx, hr'⟩ := hv k c hk
            rw [List.getD, hx]
            exact hr'
        · simp at h
    | _ => simp [evL] at h
  | call c =>
    obtain ⟨callee, args, ts⟩ := c
    cases callee with
    | builtin b =>
      cases b with
      | len =>
        simp only [evL] at h
        split at h
        · rename_i x t hx ht
          have hargs : args = #[x] := by rw [← Array.toArray_toList (xs := args), hx]
          have hts : ts = #[t] := by rw [← Array.toArray_toList (xs := ts), ht]
          subst hargs; subst hts
          split at h
          · rename_i l te ha
            simp only [Option.some.injEq, Prod.mk.injEq] at h
            obtain ⟨_, rfl⟩ := h
            obtain ⟨e, hu, _⟩ := arrOf_sound hT ha
            refine ⟨_, ?_, rint _ _⟩
            simp [execOp, resolve, invoke, builtin, Builtin.len_, run_underlying' hu, goInt]
          · simp only [Option.map_eq_some_iff, Option.bind_eq_some_iff, Prod.mk.injEq] at h
            obtain ⟨i, ⟨u, h1, h2⟩, _, rfl⟩ := h
            refine ⟨_, ?_, rint _ _⟩
            have := len_sound (ty := type) (w := w) hT h2 (ev_sound hr h1)
            simp only [execOp, resolve, Sem.run_bind, Sem.run_pure, Result.andThen_ok, invoke, builtin]
            rw [show #[x].map a.eval = #[a.eval x] from by simp, this]
            rfl
        · simp at h
      | cap =>
        simp only [evL] at h
        split at h
        · rename_i x t hx ht
          have hargs : args = #[x] := by rw [← Array.toArray_toList (xs := args), hx]
          have hts : ts = #[t] := by rw [← Array.toArray_toList (xs := ts), ht]
          subst hargs; subst hts
          split at h
          · rename_i e hs hv
            simp only [Option.some.injEq, Prod.mk.injEq] at h
            obtain ⟨_, rfl⟩ := h
            have hu := (slOf_sound hT hs).1
            have hrv := ev_sound hr hv
            generalize hcv : a.eval x = cv at hrv
            cases hrv with | d hrv => cases hrv with
            | nilsl =>
            refine ⟨_, ?_, rint _ _⟩
            simp [execOp, resolve, invoke, builtin, Builtin.cap_, run_underlying' hu, goInt, hcv]
          · simp at h
        · simp at h
      | min =>
        simp only [evL, Option.bind_eq_some_iff, Option.map_eq_some_iff, Prod.mk.injEq, Prod.exists] at h
        obtain ⟨vs, h1, k, i, h2, _, rfl⟩ := h
        obtain ⟨hl, hv⟩ := mapM_ev hr h1
        refine ⟨_, ?_, rint _ _⟩
        have := minmax_sound (w := w) (P := P) (cvs := args.toList.map a.eval) h2 (by simpa using hl) (fun j v hj => by
          obtain ⟨x, hx, hr'⟩ := hv j v hj
          exact ⟨a.eval x, by simp only [List.getElem?_map, hx, Option.map_some], hr'⟩) ts type
        simp only [Bool.false_eq_true, if_false, ← Array.toList_map, Array.toArray_toList] at this
        simp only [execOp, resolve, Sem.run_bind, Sem.run_pure, Result.andThen_ok, invoke, builtin, this]
      | max =>
        simp only [evL, Option.bind_eq_some_iff, Option.map_eq_some_iff, Prod.mk.injEq, Prod.exists] at h
        obtain ⟨vs, h1, k, i, h2, _, rfl⟩ := h
        obtain ⟨hl, hv⟩ := mapM_ev hr h1
        refine ⟨_, ?_, rint _ _⟩
        have := minmax_sound (w := w) (P := P) (cvs := args.toList.map a.eval) h2 (by simpa using hl) (fun j v hj => by
          obtain ⟨x, hx, hr'⟩ := hv j v hj
          exact ⟨a.eval x, by simp only [List.getElem?_map, hx, Option.map_some], hr'⟩) ts type
        simp only [if_true, ← Array.toList_map, Array.toArray_toList] at this
        simp only [execOp, resolve, Sem.run_bind, Sem.run_pure, Result.andThen_ok, invoke, builtin, this]
      | _ => simp [evL] at h
    | _ => simp [evL] at h
  | _ => simp [evL] at h

end Go.Vm
