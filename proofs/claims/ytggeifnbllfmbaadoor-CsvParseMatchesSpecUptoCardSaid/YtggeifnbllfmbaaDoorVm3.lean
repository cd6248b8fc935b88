/- Soundness of operands, of arithmetic, and of reads. -/
import Derived.Test.YtggeifnbllfmbaaDoorVm2
set_option linter.unusedSimpArgs false
namespace Go.Vm
variable {P : Program} {sz : TypeId → Nat} {base : Nat} {w0 : World} {m nt : Nat} {F : Frz} {ρ : Env0} {env : Env} {a : Act} {w : World} {n : Nat}

theorem constAV_sound {v : Value} {x : AV} (h : constAV v = some x) : VRel sz F ρ n x v := by
  cases v with
  | bool b => cases h; exact .d (.bool b)
  | int k i => cases h; exact .d (.int k i)
  | string s => cases h; cases s with | mk d => exact .d (by have := FRep.str (sz := sz) (F := F) d.toList; simpa using this)
  | slice ad l c =>
    cases ad with
    | none => cases l <;> cases c <;> first | (cases h; exact .d .nilsl) | (simp [constAV] at h)
    | some ad => simp [constAV] at h
  | pointer ad => cases ad with
    | none => cases h; exact .d .nilptr
    | some ad => simp [constAV] at h
  | nilFunc => cases h; exact .d .nilfn
  | map r => cases r with
    | none => cases h; exact .d .nilmap
    | some r => simp [constAV] at h
  | nilIface => cases h; exact .d .nilif
  | _ => simp [constAV] at h

theorem ev_sound (hr : Rel sz base w0 m nt F ρ env a w) {x : Operand} {v : AV} (h : ev env x = some v) :
    VRel sz F ρ env.h.length v (a.eval x) := by
  cases x with
  | tmp t =>
    obtain ⟨cv, h1, h2⟩ := hr.slots t v h
    simp [Act.eval, h1, h2]
  | const v => exact constAV_sound h
  | global g => simp [ev] at h
  | func f => cases h; exact .d (.fn f)

theorem VRel.int_inv {k : IntKind} {i : Int} {v : Value} (h : VRel sz F ρ n (.d (.int k i)) v) : v = .int k i := by
  cases h with | d h => cases h; rfl
theorem VRel.bool_inv {b : Bool} {v : Value} (h : VRel sz F ρ n (.d (.bool b)) v) : v = .bool b := by
  cases h with | d h => cases h; rfl
theorem VRel.str_inv {s : List UInt8} {v : Value} (h : VRel sz F ρ n (.d (.str s)) v) : v = .string ⟨s.toArray⟩ := by
  cases h with | d h => cases h; rfl

theorem rint (k : IntKind) (i : Int) : VRel sz F ρ n (.d (.int k i)) (.int k i) := .d (.int k i)
theorem rbool (b : Bool) : VRel sz F ρ n (.d (.bool b)) (.bool b) := .d (.bool b)
theorem rstr (s : List UInt8) : VRel sz F ρ n (.d (.str s)) (.string ⟨s.toArray⟩) := .d (.str s)

/-- A pure answer: the same world, a value that stands for the abstract one. -/
def Gives (P : Program) (sz : TypeId → Nat) (F : Frz) (ρ : Env0) (n : Nat) (w : World) (s : Sem Value) (v : AV) : Prop :=
  ∃ cv, s.run P w = .ok cv w ∧ VRel sz F ρ n v cv

theorem dec_beq {α : Type} [BEq α] [LawfulBEq α] [DecidableEq α] (x y : α) : (x == y) = decide (x = y) := by
  by_cases h : x = y <;> simp [h]

theorem intBin_sound {op : BinOp} {t : TypeId} {k : IntKind} {x y : Int} {ob : Prop} {v : AV} (h : intBin op k x y = some (ob, v)) (hob : ob) :
    Gives P sz F ρ n w (binOp op t (.int k x) (.int k y)) v := by
  cases op <;> simp only [intBin, Option.some.injEq, Prod.mk.injEq, reduceCtorEq] at h <;> obtain ⟨h1, rfl⟩ := h
  case add | sub | mul => exact ⟨_, by simp only [binOp, ne_eq, not_true_eq_false, if_false]; rfl, rint _ _⟩
  case quo | rem => exact ⟨_, by subst h1; simp only [binOp, ne_eq, not_true_eq_false, if_false, Op.intDiv, if_neg hob]; rfl, rint _ _⟩
  case and | or | xor | andNot => exact ⟨_, by simp only [binOp, ne_eq, not_true_eq_false, if_false]; rfl, rint _ _⟩
  case lss | leq | gtr | geq => exact ⟨_, by simp only [binOp, ne_eq, not_true_eq_false, if_false]; rfl, rbool _⟩
  case eql => exact ⟨_, by simp only [binOp, ne_eq, not_true_eq_false, if_false, Op.intCmp, dec_beq]; rfl, rbool _⟩
  case neq => exact ⟨_, by simp only [binOp, ne_eq, not_true_eq_false, if_false, Op.intCmp, dec_beq, bne]; rfl, by simpa using rbool _⟩

theorem toList_mk (s : List UInt8) : (ByteArray.mk s.toArray).toList = s := by
  rw [ByteArray.toList_eq]

theorem strBin_sound {op : BinOp} {t : TypeId} {x y : List UInt8} {ob : Prop} {v : AV} (h : strBin op x y = some (ob, v)) (hob : ob) :
    Gives P sz F ρ n w (binOp op t (.string ⟨x.toArray⟩) (.string ⟨y.toArray⟩)) v := by
  cases op <;> simp only [strBin, Option.some.injEq, Prod.mk.injEq, reduceCtorEq] at h <;> obtain ⟨h1, rfl⟩ := h
  case add =>
    subst h1
    refine ⟨.string ⟨(x ++ y).toArray⟩, ?_, rstr _⟩
    have h2 : ¬ (((ByteArray.mk x.toArray).size + (ByteArray.mk y.toArray).size : Nat) : Int) > IntKind.i64.max := by
      show ¬ (((x.toArray.size + y.toArray.size : Nat) : Int) > 9223372036854775807)
      simp only [List.size_toArray]; omega
    simp only [binOp, Op.stringOp, h2, if_false, Sem.run_pure]
    congr 2
  all_goals exact ⟨_, by simp only [binOp, Op.stringOp, toList_mk, dec_beq, Sem.run_pure]; rfl, by simpa using rbool _⟩

theorem Gives.pure {v : AV} {cv : Value} (h : VRel sz F ρ n v cv) : Gives P sz F ρ n w (Pure.pure cv) v := ⟨cv, rfl, h⟩

theorem Tab.get_good {tab : Tab} (hT : tab.checks P = true) {t : TypeId} {ti : TI} (h : tab.get t = some ti) : ti.Good P t := Tab.good hT h

/-- Is a value of a kind nil? -/
inductive NilV : TK → Value → Bool → Prop
  | ptr (e : TypeId) (a : Option Addr) : NilV (.ptr e) (.pointer a) a.isNone
  | sl (e : TypeId) (a : Option Addr) (l c : Nat) : NilV (.sl e) (.slice a l c) a.isNone
  | fnil : NilV .func .nilFunc true
  | func (f : Fn) (a b : Array Value) : NilV .func (.func f a b) false
  | map (k e : TypeId) (r : Option Nat) : NilV (.map k e) (.map r) r.isNone

theorem nilness_sound {k : TK} {x : AV} {ob : Prop} {b : Bool} {v : Value} (h : nilness k x = some (ob, b)) (hob : ob) (r : VRel sz F ρ n x v) : NilV k v b := by
  cases r with
  | d hd =>
    cases hd <;> cases k <;> simp only [nilness, Option.some.injEq, Prod.mk.injEq, reduceCtorEq] at h <;> obtain ⟨h1, h2⟩ := h <;> subst h2 <;> subst h1
    case nilsl.sl => exact .sl _ none _ _
    case nilptr.ptr => exact .ptr _ none
    case nilfn.func => exact .fnil
    case nilmap.map => exact .map _ _ none
    case fn.func => exact .func _ _ _
  | z0 => cases k <;> simp [nilness] at h
  | fp hf hi =>
    cases k <;> simp only [nilness, Option.some.injEq, Prod.mk.injEq, reduceCtorEq] at h
    obtain ⟨h1, h2⟩ := h; subst h2
    exact .ptr _ (some _)
  | ptr hb hl =>
    cases k <;> simp only [nilness, Option.some.injEq, Prod.mk.injEq, reduceCtorEq] at h
    obtain ⟨h1, h2⟩ := h; subst h2
    exact .ptr _ (some _)
  | clo =>
    cases k <;> simp only [nilness, Option.some.injEq, Prod.mk.injEq, reduceCtorEq] at h
    obtain ⟨h1, h2⟩ := h; subst h2
    exact .func _ _ _
  | map hb hl =>
    cases k <;> simp only [nilness, Option.some.injEq, Prod.mk.injEq, reduceCtorEq] at h
    obtain ⟨h1, h2⟩ := h; subst h2
    exact .map _ _ (some _)
  | _ => cases k <;> simp [nilness] at h

theorem nilMaybe_sound {k : TK} {x : AV} {q : Prop} {v : Value} (h : nilMaybe k x = some q) (r : VRel sz F ρ n x v) : ∃ b, NilV k v b ∧ (b = true → q) := by
  unfold nilMaybe at h
  split at h <;> simp only [Option.some.injEq, reduceCtorEq] at h <;> subst h
  · cases r with | d r => cases r with
    | sl _ _ A ad cap val hA =>
      exact ⟨_, .sl _ _ _ _, fun hb => Classical.byContradiction fun hne => by rw [(hA hne).1] at hb; simp at hb⟩
  · cases r with | bl hb r hl hw hc => cases r with
    | sl _ _ A ad cap val hA =>
      exact ⟨_, .sl _ _ _ _, fun hb => Classical.byContradiction fun hne => by rw [(hA hne).1] at hb; simp at hb⟩
  · cases r with | ref hb hA hl hc =>
    exact ⟨_, .sl _ _ _ _, fun hb => Classical.byContradiction fun hne => by obtain ⟨ad, rfl⟩ := hA (by omega); simp at hb⟩
  · cases r with | z0 => exact ⟨_, .sl _ _ _ _, fun _ => trivial⟩

theorem isNilC_nilness {k : TK} {x : AV} (h : isNilC k x = true) : nilness k x = some (True, true) := by
  cases k <;> cases x <;> (try (simp [isNilC] at h; done)) <;> (rename_i y; cases y <;> first | rfl | (simp [isNilC] at h; done))

theorem NilV.true_inv {k : TK} {u : Value} {b : Bool} (h : NilV k u b) (hb : b = true) :
    (∃ e, k = .ptr e ∧ u = .pointer none) ∨ (∃ e l c, k = .sl e ∧ u = .slice none l c) ∨ (k = .func ∧ u = .nilFunc) ∨ (∃ a b, k = .map a b ∧ u = .map none) := by
  cases h with
  | ptr e a => cases a with
    | none => exact .inl ⟨e, rfl, rfl⟩
    | some a => simp at hb
  | sl e a l c => cases a with
    | none => exact .inr (.inl ⟨e, l, c, rfl, rfl⟩)
    | some a => simp at hb
  | fnil => exact .inr (.inr (.inl ⟨rfl, rfl⟩))
  | func => simp at hb
  | map k e r => cases r with
    | none => exact .inr (.inr (.inr ⟨k, e, rfl, rfl⟩))
    | some a => simp at hb

theorem nil_eq {k : TK} {v u : Value} {b : Bool} {d : TypeDesc} {t : TypeId} (hd : TK.fits d k = true) (hu : P.underlying t = some d) (hv : NilV k v b) (hn : NilV k u true) :
    ((Op.equal t v u).run P w = .ok b w ∧ (Op.equal t u v).run P w = .ok b w) ∧
    (∀ op c e, (eqGuard op t c e v u).run P w = .ok () w ∧ (eqGuard op t c e u v).run P w = .ok () w) ∧
    (binOp .eql t v u = (do Pure.pure (.bool (← Op.equal t v u))) ∧ binOp .neq t v u = (do Pure.pure (.bool (!(← Op.equal t v u))))) ∧
    (binOp .eql t u v = (do Pure.pure (.bool (← Op.equal t u v))) ∧ binOp .neq t u v = (do Pure.pure (.bool (!(← Op.equal t u v))))) := by
  have hun : (underlying t).run P w = .ok d w := by simp [underlying, hu]
  refine ⟨?_, ?_, ?_, ?_⟩
  · suffices hs : ∀ dd : Nat, (Op.equalIn (dd + 1) t v u).run P w = .ok b w ∧ (Op.equalIn (dd + 1) t u v).run P w = .ok b w from hs 9999
    intro dd
    rcases hn.true_inv rfl with ⟨e, rfl, rfl⟩ | ⟨e, l, c, rfl, rfl⟩ | ⟨rfl, rfl⟩ | ⟨e, l, rfl, rfl⟩ <;> cases d <;> simp only [TK.fits, Bool.false_eq_true] at hd
    · cases hv with | ptr _ a => cases a <;> simp only [Op.equalIn, Sem.run_bind, hun, Result.andThen_ok, Sem.run_pure] <;> simp
    · cases hv with | sl _ a => cases a <;> simp only [Op.equalIn, Sem.run_bind, hun, Result.andThen_ok, Sem.run_pure] <;> simp
    · cases hv <;> simp only [Op.equalIn, Sem.run_bind, hun, Result.andThen_ok, Sem.run_pure] <;> simp
    · cases hv with | map _ _ a => cases a <;> simp only [Op.equalIn, Sem.run_bind, hun, Result.andThen_ok, Sem.run_pure] <;> simp
  · intro op c e
    rcases hn.true_inv rfl with ⟨e, rfl, rfl⟩ | ⟨e, l, c, rfl, rfl⟩ | ⟨rfl, rfl⟩ | ⟨e, l, rfl, rfl⟩ <;> cases hv <;> cases op <;> simp [eqGuard]
  · rcases hn.true_inv rfl with ⟨e, rfl, rfl⟩ | ⟨e, l, c, rfl, rfl⟩ | ⟨rfl, rfl⟩ | ⟨e, l, rfl, rfl⟩ <;> cases hv <;> simp [binOp]
  · rcases hn.true_inv rfl with ⟨e, rfl, rfl⟩ | ⟨e, l, c, rfl, rfl⟩ | ⟨rfl, rfl⟩ | ⟨e, l, rfl, rfl⟩ <;> cases hv <;> simp [binOp]

end Go.Vm
