/- The ground of the virtual machine of values: pure data, abstract values, and how they are represented in a world. -/
import Derived.WalkKit
import Derived.KernelRfl
import Derived.Test.YtggeifnbllfmbaaDoorGl
set_option linter.unusedSimpArgs false
namespace Go.Vm

/-- Pure data: what a value that is never written again holds. -/
inductive D where
  | bool (b : Bool)
  | int (k : IntKind) (n : Int)
  | str (s : List UInt8)
  | sl (e : TypeId) (xs : List D)
  | nilsl | nilptr | nilfn | nilmap | nilif
  | agg (cs : List D)
  | fn (f : FuncId)
  | ifc (t : TypeId) (x : D)
  deriving Inhabited

def D.cells : D → List D
  | .agg cs => cs
  | d => [d]

abbrev Frz := Addr → Option Value

/-- A piece of data is represented by a value, whose memory is frozen. -/
inductive FRep (sz : TypeId → Nat) (F : Frz) : D → Value → Prop
  | bool (b : Bool) : FRep sz F (.bool b) (.bool b)
  | int (k : IntKind) (n : Int) : FRep sz F (.int k n) (.int k n)
  | str (s : List UInt8) : FRep sz F (.str s) (.string ⟨s.toArray⟩)
  | sl (e : TypeId) (xs : List D) (A : Option Addr) (ad : Addr) (cap : Nat) (val : Nat → Nat → Value)
      (hA : xs ≠ [] → A = some ad ∧ ad.spot = none) (hc : xs.length ≤ cap)
      (hl : ∀ (i : Nat) (x : D), xs[i]? = some x → x.cells.length = sz e)
      (hF : ∀ (i : Nat) (x : D) (k : Nat) (c : D), xs[i]? = some x → x.cells[k]? = some c → F ⟨ad.block, ad.off + (i * sz e + k), none⟩ = some (val i k))
      (hr : ∀ (i : Nat) (x : D) (k : Nat) (c : D), xs[i]? = some x → x.cells[k]? = some c → FRep sz F c (val i k))
      (ho : ∀ (i : Nat) (x : D) (k : Nat) (c : D), xs[i]? = some x → x.cells[k]? = some c → (val i k).oneCell' = true) :
      FRep sz F (.sl e xs) (.slice A xs.length cap)
  | nilsl : FRep sz F .nilsl (.slice none 0 0)
  | nilptr : FRep sz F .nilptr (.pointer none)
  | nilfn : FRep sz F .nilfn .nilFunc
  | nilmap : FRep sz F .nilmap (.map none)
  | nilif : FRep sz F .nilif .nilIface
  | agg (cs : List D) (vs : Array Value) (hs : vs.size = cs.length) (val : Nat → Value)
      (hv : ∀ (k : Nat) (c : D), cs[k]? = some c → vs[k]? = some (val k))
      (hr : ∀ (k : Nat) (c : D), cs[k]? = some c → FRep sz F c (val k)) : FRep sz F (.agg cs) (.agg vs)
  | fn (f : FuncId) : FRep sz F (.fn f) (.func (.func f) #[] #[])
  | ifc (t : TypeId) (x : D) (v : Value) (h : FRep sz F x v) : FRep sz F (.ifc t x) (.iface t v)

def Frz.le (F F' : Frz) : Prop := ∀ a v, F a = some v → F' a = some v

theorem Frz.le_refl (F : Frz) : F.le F := fun _ _ h => h
theorem Frz.le_trans {F G H : Frz} (h : F.le G) (h' : G.le H) : F.le H := fun a v e => h' a v (h a v e)

theorem FRep.mono {sz : TypeId → Nat} {F F' : Frz} (hF : F.le F') {x : D} {v : Value} (h : FRep sz F x v) : FRep sz F' x v := by
  induction h with
  | bool b => exact .bool b
  | int k n => exact .int k n
  | str s => exact .str s
  | sl e xs A ad cap val hA hc hl hF' hr ho ih => exact .sl e xs A ad cap val hA hc hl (fun i x k c h1 h2 => hF _ _ (hF' i x k c h1 h2)) ih ho
  | nilsl => exact .nilsl
  | nilptr => exact .nilptr
  | nilfn => exact .nilfn
  | nilmap => exact .nilmap
  | nilif => exact .nilif
  | agg cs vs hs val hv hr ih => exact .agg cs vs hs val hv ih
  | fn f => exact .fn f
  | ifc t x v h ih => exact .ifc t x v ih

/-- Abstract values: data; a builder (a slice that only grows, with what it holds); a view of a mutable block; pointers; what holds such. -/
inductive AV where
  | d (x : D)
  | bl (b : Nat) (e : TypeId) (xs : List D)
  | ref (b : Nat) (e : TypeId) (off len : Nat)
  | z0 (e : TypeId)
  | fp (e : TypeId) (xs : List D) (i off : Nat)
  | ptr (b : Nat) (e : TypeId) (i off : Nat)
  | agg (cs : List AV)
  | tup (vs : List AV)
  | clo (f : FuncId) (cs : List AV)
  | map (b : Nat)
  | iter (b : Nat)
  | gr (b : Nat) (e : TypeId) (k : Nat)
  | pb (p : Bool → Prop)
  | unk
  deriving Inhabited

/-- What the machine of values keeps of a block. -/
inductive Blk where
  | cells (e : TypeId) (xs : List AV)
  | tail (e : TypeId) (hw : Nat)
  | map (es : List (D × AV))
  | gone
  deriving Inhabited

/-- Where a block lies in the world. -/
inductive Loc where
  | mt (B N : Nat)
  | dead
  | bld (v : Value) (hw : Nat)
  | obj (r : Nat)

def Loc.ext : Loc → Loc → Prop
  | .mt B N, l => l = .mt B N ∨ l = .dead
  | .dead, l => l = .dead
  | .obj r, l => l = .obj r
  | .bld v hw, l => ∃ v' hw', l = .bld v' hw' ∧ hw ≤ hw' ∧ (hw = hw' → v = v')

theorem Loc.ext_refl (l : Loc) : l.ext l := by
  cases l with
  | mt B N => exact .inl rfl
  | dead => rfl
  | obj r => rfl
  | bld v hw => exact ⟨v, hw, rfl, Nat.le_refl _, fun _ => rfl⟩

theorem Loc.ext_trans {a b c : Loc} (h : a.ext b) (h' : b.ext c) : a.ext c := by
  cases a with
  | mt B N => rcases h with h | h <;> cases h <;> first | exact h' | exact .inr h'
  | dead => cases h; exact h'
  | obj r => cases h; exact h'
  | bld v hw =>
    obtain ⟨v1, hw1, rfl, hl, he⟩ := h
    obtain ⟨v2, hw2, rfl, hl2, he2⟩ := h'
    refine ⟨v2, hw2, rfl, by omega, fun e => ?_⟩
    rw [he (by omega), he2 (by omega)]

theorem Loc.mt_back {l l' : Loc} {B N : Nat} (h : l.ext l') (h' : l' = .mt B N) : l = .mt B N := by
  cases l with
  | mt B N => rcases h with h | h
              · rw [← h]; exact h'
              · rw [h] at h'; cases h'
  | dead => rw [show l' = .dead from h] at h'; cases h'
  | obj r => rw [show l' = .obj r from h] at h'; cases h'
  | bld v hw => obtain ⟨v', hw', h, _⟩ := h; rw [h] at h'; cases h'

abbrev Env0 := Nat → Loc

/-- What was known of the first m blocks stays known. -/
structure Ext (m : Nat) (F : Frz) (ρ : Env0) (F' : Frz) (ρ' : Env0) : Prop where
  frz : F.le F'
  loc : ∀ b, b < m → (ρ b).ext (ρ' b)

theorem Ext.refl (m : Nat) (F : Frz) (ρ : Env0) : Ext m F ρ F ρ := ⟨Frz.le_refl _, fun _ _ => Loc.ext_refl _⟩
theorem Ext.trans {m : Nat} {F G H : Frz} {ρ σ τ : Env0} (h : Ext m F ρ G σ) (h' : Ext m G σ H τ) : Ext m F ρ H τ :=
  ⟨Frz.le_trans h.frz h'.frz, fun b hb => Loc.ext_trans (h.loc b hb) (h'.loc b hb)⟩
theorem Ext.weak {m n : Nat} {F F' : Frz} {ρ ρ' : Env0} (h : Ext n F ρ F' ρ') (hm : m ≤ n) : Ext m F ρ F' ρ' :=
  ⟨h.frz, fun b hb => h.loc b (by omega)⟩

/-- An abstract value is represented by a value; n: how many blocks there are. -/
inductive VRel (sz : TypeId → Nat) (F : Frz) (ρ : Env0) (n : Nat) : AV → Value → Prop
  | d {x : D} {v : Value} (h : FRep sz F x v) : VRel sz F ρ n (.d x) v
  | bl {b : Nat} {e : TypeId} {xs : List D} {v v0 : Value} {hw : Nat} (hb : b < n) (h : FRep sz F (.sl e xs) v)
      (hl : ρ b = .bld v0 hw) (hw' : xs.length ≤ hw) (hcur : hw = xs.length → v = v0) : VRel sz F ρ n (.bl b e xs) v
  | ref {b : Nat} {e : TypeId} {off len cap : Nat} {A : Option Addr} (hb : b < n) (hA : cap ≠ 0 → ∃ ad, A = some ad) (hl : ∀ B N, ρ b = .mt B N → (cap ≠ 0 → A = some ⟨B, off * sz e, none⟩) ∧ off + cap ≤ N) (hc : len ≤ cap) :
      VRel sz F ρ n (.ref b e off len) (.slice A len cap)
  | z0 {e : TypeId} {A : Option Addr} : VRel sz F ρ n (.z0 e) (.slice A 0 0)
  | fp {e : TypeId} {xs : List D} {i off cap : Nat} {ad : Addr} (h : FRep sz F (.sl e xs) (.slice (some ad) xs.length cap)) (hi : i < xs.length) :
      VRel sz F ρ n (.fp e xs i off) (.pointer (some ⟨ad.block, ad.off + (i * sz e + off), none⟩))
  | ptr {b : Nat} {e : TypeId} {i off : Nat} {ad : Addr} (hb : b < n) (hl : ∀ B N, ρ b = .mt B N → ad = ⟨B, i * sz e + off, none⟩) :
      VRel sz F ρ n (.ptr b e i off) (.pointer (some ad))
  | agg (cs : List AV) (vs : Array Value) (hs : vs.size = cs.length) (val : Nat → Value)
      (hv : ∀ (k : Nat) (c : AV), cs[k]? = some c → vs[k]? = some (val k))
      (hr : ∀ (k : Nat) (c : AV), cs[k]? = some c → VRel sz F ρ n c (val k)) : VRel sz F ρ n (.agg cs) (.agg vs)
  | tup (cs : List AV) (vs : Array Value) (hs : vs.size = cs.length) (val : Nat → Value)
      (hv : ∀ (k : Nat) (c : AV), cs[k]? = some c → vs[k]? = some (val k))
      (hr : ∀ (k : Nat) (c : AV), cs[k]? = some c → VRel sz F ρ n c (val k)) : VRel sz F ρ n (.tup cs) (.tuple vs)
  | clo (f : FuncId) (cs : List AV) (vs : Array Value) (hs : vs.size = cs.length) (val : Nat → Value)
      (hv : ∀ (k : Nat) (c : AV), cs[k]? = some c → vs[k]? = some (val k))
      (hr : ∀ (k : Nat) (c : AV), cs[k]? = some c → VRel sz F ρ n c (val k)) : VRel sz F ρ n (.clo f cs) (.func (.func f) #[] vs)
  | map {b r : Nat} (hb : b < n) (hl : ρ b = .obj r) : VRel sz F ρ n (.map b) (.map (some r))
  | iter {b r : Nat} (hb : b < n) (hl : ρ b = .obj r) : VRel sz F ρ n (.iter b) (.pointer (some ⟨r, 0, none⟩))
  | gr {b k hw cap : Nat} {e : TypeId} {A : Option Addr} {v0 : Value} (hb : b < n) (hl : ρ b = .bld v0 hw) (h0 : hw = 0 → v0 = .slice A 0 cap) (hk : k ≤ cap) : VRel sz F ρ n (.gr b e k) (.slice A k cap)
  | pb {p : Bool → Prop} {b : Bool} (h : p b) : VRel sz F ρ n (.pb p) (.bool b)
  | unk (v : Value) : VRel sz F ρ n .unk v

theorem VRel.mono {sz : TypeId → Nat} {F F' : Frz} {ρ ρ' : Env0} {n n' : Nat} {a : AV} {v : Value}
    (h : VRel sz F ρ n a v) (hx : Ext n F ρ F' ρ') (hn : n ≤ n') : VRel sz F' ρ' n' a v := by
  induction h with
  | d h => exact .d (h.mono hx.frz)
  | @bl b e xs v v0 hw hb h hl hw' hcur =>
    have hh := hx.loc b hb
    rw [hl] at hh
    obtain ⟨v1, hw1, e1, hle, heq⟩ := hh
    refine .bl (by omega) (h.mono hx.frz) e1 (by omega) (fun e => ?_)
    have : hw = xs.length := by omega
    rw [hcur this, heq (by omega)]
  | ref hb hA hl hc => exact .ref (by omega) hA (fun B N h' => hl B N (Loc.mt_back (hx.loc _ hb) h')) hc
  | z0 => exact .z0
  | fp h hi => exact .fp (h.mono hx.frz) hi
  | ptr hb hl => exact .ptr (by omega) (fun B N h' => hl B N (Loc.mt_back (hx.loc _ hb) h'))
  | agg cs vs hs val hv hr ih => exact .agg cs vs hs val hv ih
  | tup cs vs hs val hv hr ih => exact .tup cs vs hs val hv ih
  | clo f cs vs hs val hv hr ih => exact .clo f cs vs hs val hv ih
  | map hb hl => exact .map (by omega) (by have := hx.loc _ hb; rw [hl] at this; exact this)
  | iter hb hl => exact .iter (by omega) (by have := hx.loc _ hb; rw [hl] at this; exact this)
  | @gr b k hw cap e A v0 hb hl h0 hk =>
    have hh := hx.loc b hb
    rw [hl] at hh
    obtain ⟨v1, hw1, e1, hle, heq⟩ := hh
    exact .gr (by omega) e1 (fun e0 => by rw [← heq (by omega)]; exact h0 (by omega)) hk
  | pb h => exact .pb h
  | unk v => exact .unk v

def AV.cells : AV → List AV
  | .d x => x.cells.map AV.d
  | .agg cs => cs
  | a => [a]

/-- The slots' known values. -/
abbrev Slots := List (Nat × AV)
def look : Slots → Nat → Option AV
  | [], _ => none
  | (k, v) :: r, i => if k = i then some v else look r i

structure Env where
  s : Slots
  h : List Blk

def Env.put (env : Env) (d : Option Tmp) (v : AV) : Env :=
  match d with
  | some d => ⟨(d, v) :: env.s, env.h⟩
  | none => env

/-- Which block of the world is a block's own. -/
def Loc.conc : Loc → Option Nat
  | .mt B _ => some B
  | .obj r => some r
  | .dead => none
  | .bld (.slice (some ad) _ cap) _ => if cap = 0 then none else some ad.block
  | .bld _ _ => none

def BlkRel (sz : TypeId → Nat) (base : Nat) (F : Frz) (ρ : Env0) (n : Nat) (w : World) (b : Nat) : Blk → Prop
  | .cells e xs => ∃ B N c e0, ρ b = .mt B N ∧ base ≤ B ∧ w.heap[B]? = some (.cells c e0 (0, 0)) ∧ (∀ a, a.block = B → F a = none) ∧
      (xs.length ≤ N ∧ N * sz e = c.size ∧ e0 = e) ∧
      ∀ (i : Nat) (x : AV), xs[i]? = some x → x.cells.length = sz e ∧ ∀ (k : Nat) (y : AV), x.cells[k]? = some y → ∃ v : Value, c[i * sz e + k]? = some v ∧ VRel sz F ρ n y v ∧ v.oneCell' = true
  | .tail e hw => ∃ A cap, ρ b = .bld (.slice A hw cap) hw ∧ hw ≤ cap ∧
      (cap ≠ 0 → ∃ ad c e0, A = some ad ∧ ad.spot = none ∧ base ≤ ad.block ∧ w.heap[ad.block]? = some (.cells c e0 (0, 0)) ∧
        (ad.off + cap * sz e = c.size ∧ ad.off = 0 ∧ e0 = e) ∧ ∀ a, a.block = ad.block → F a ≠ none → a.off < ad.off + hw * sz e)
  | .map es => ∃ r m, ρ b = .obj r ∧ base ≤ r ∧ w.heap[r]? = some (.map m m.size) ∧ m.size = es.length ∧
      ∀ (i : Nat) (k : D) (x : AV), es[i]? = some (k, x) → ∃ en : MapEntry, m[i]? = some en ∧ en.born = i ∧ FRep sz F k en.key ∧ VRel sz F ρ n x en.val
  | .gone => True

/-- The abstract blocks fit the world. -/
structure St (sz : TypeId → Nat) (base : Nat) (w0 : World) (F : Frz) (ρ : Env0) (h : List Blk) (w : World) : Prop where
  frz : ∀ a v, F a = some v → w.cell? a = some v
  blk : ∀ b x, h[b]? = some x → BlkRel sz base F ρ h.length w b x
  dist : ∀ b b' B, b < h.length → b' < h.length → (ρ b).conc = some B → (ρ b').conc = some B → b = b'
  old : ((w.os = w0.os ∧ w.tape = w0.tape ∧ w.output = w0.output) ∧ GlobOk base w0) ∧ ∀ r, r < base → w.heap[r]? = w0.heap[r]?
  hb : base ≤ w.heap.size
  lt : ∀ b B, b < h.length → (ρ b).conc = some B → B < w.heap.size

structure Rel (sz : TypeId → Nat) (base : Nat) (w0 : World) (m nt : Nat) (F : Frz) (ρ : Env0) (env : Env) (a : Act) (w : World) : Prop where
  st : St sz base w0 F ρ env.h w
  slots : ∀ i v, look env.s i = some v → ∃ cv, a.tmps[i]? = some cv ∧ VRel sz F ρ env.h.length v cv
  size : a.tmps.size = nt
  defers : a.defers = []
  le : m ≤ env.h.length

end Go.Vm
