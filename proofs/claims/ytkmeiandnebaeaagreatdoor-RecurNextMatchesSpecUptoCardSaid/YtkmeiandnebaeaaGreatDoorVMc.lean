/- VMc: VmA, VmB. -/
import Derived.Test.YtkmeiandnebaeaaGreatDoorVMb
/- Calls, the stripped code, and what it does: W, and that W is sound. -/
set_option linter.unusedSimpArgs false
namespace Go.Vm

/-- A Go function with a body. -/
def Enters (P : Program) (f : FuncId) : Prop := ∃ fn, P.funcs[f]? = some fn ∧ (fn.name == "runtime.NumGoroutine") = false ∧ fn.body.isNone = false

def ArgsRel (sz : TypeId → Nat) (F : Frz) (ρ : Env0) (n : Nat) (args : List AV) (vs : Array Value) : Prop :=
  args.length = vs.size ∧ ∀ (i : Nat) (x : AV), args[i]? = some x → ∃ v, vs[i]? = some v ∧ VRel sz F ρ n x v

/-- A call in a state of abstract blocks: it returns, with what Q says. -/
def CallW (P : Program) (f : FuncId) (args : List AV) (h : List Blk) (Q : AV → List Blk → Prop) : Prop :=
  Enters P f ∧ ∀ base w0 F ρ w vs, St (psz P) base w0 F ρ h w → ArgsRel (psz P) F ρ h.length args vs →
    Calls P f vs w fun e w' => ∃ v x h' F' ρ', e = .returned v ∧ Ext h.length F ρ F' ρ' ∧ St (psz P) base w0 F' ρ' h' w' ∧ VRel (psz P) F' ρ' h'.length x v ∧ h.length ≤ h'.length ∧ Q x h'

theorem CallW.mono {P : Program} {f : FuncId} {args : List AV} {h : List Blk} {Q Q' : AV → List Blk → Prop} (hc : CallW P f args h Q) (hq : ∀ x h', Q x h' → Q' x h') : CallW P f args h Q' :=
  ⟨hc.1, fun base w0 F ρ w vs hs ha => (hc.2 base w0 F ρ w vs hs ha).mono fun _ _ ⟨v, x, h', F', ρ', h1, h2, h3, h4, h5, h6⟩ => ⟨v, x, h', F', ρ', h1, h2, h3, h4, h5, hq _ _ h6⟩⟩

/-- A step of an iterator over a map: whatever comes, Q holds of it. -/
def NextW (b : Nat) (h : List Blk) (Q : AV → List Blk → Prop) : Prop := match h[b]? with
  | some (.iter mb cnt seen) => match h[mb]? with
    | some (.map es) => es.length = cnt ∧ (∀ i k x, es[i]? = some (k, x) → i ∉ seen → Q (.tup [.d (.bool true), .d k, x]) (h.set b (.iter mb cnt (seen ++ [i])))) ∧ ((∀ i, i < es.length → i ∈ seen) → Q (.tup [.d (.bool false)]) h)
    | _ => False
  | _ => False

theorem NextW.mono {b : Nat} {h : List Blk} {Q Q' : AV → List Blk → Prop} (hn : NextW b h Q) (hq : ∀ x h', Q x h' → Q' x h') : NextW b h Q' := by
  unfold NextW at hn ⊢
  split at hn
  · split at hn
    · exact ⟨hn.1, fun i k x h1 h2 => hq _ _ (hn.2.1 i k x h1 h2), fun h1 => hq _ _ (hn.2.2 h1)⟩
    · exact hn
  · exact hn

structure VOper where
  dst : Option Tmp
  op : Op
  guard : Option (Tmp × Bool)
  fl : Bool
  mu : Bool

/-- Does an operation write memory, and call nothing? -/
def isDet (mu : Bool) : Op → Bool
  | .buildSlice _ _ _ | .move _ | .convert _ _ _ => mu
  | .range _ _ | .entry _ => true
  | .alloc _ | .box _ _ | .store _ _ _ | .makeSlice _ _ _ | .makeMap _ _ | .mapUpdate _ _ _ _ | .insert _ _ _ _ => true
  | .call { callee := .builtin .append, .. } => true
  | _ => false

def isCall : Op → Bool
  | .call { callee := .value _, .. } => true
  | .next _ false => true
  | _ => false

/-- Does an operation change memory (or may it)? -/
def isHeavy (mu : Bool) (op : Op) : Bool := isDet mu op || isCall op

inductive VC where
  | skip
  | reg (ops : List VOper)
  | seq (a b : VC)
  | cond (c : Operand) (x y : VC)
  | block (id : Nat) (b : VC)
  | loop (b : VC)
  | exit (id : Nat)
  | ret
  | bad

def muOf (mu : Tmp → Bool) : Option Tmp → Bool
  | some t => mu t
  | none => false

def dstOk (nt : Nat) (d : Option Tmp) : Bool := match d with | some t => decide (t < nt) | none => true

def stripOp (nt : Nat) (mu : Tmp → Bool) (ops : Array Oper) (fl : Bool) (o : Oper) : Option VOper :=
  if !dstOk nt o.dst then none else match o.guard with
  | none => some ⟨o.dst, o.op, none, fl, muOf mu o.dst⟩
  | some (j, want) => match (ops[j]?).bind (·.dst) with
    | some d => some ⟨o.dst, o.op, some (d, want), fl, muOf mu o.dst⟩
    | none => none

def stripOps (nt : Nat) (mu : Tmp → Bool) (ops : Array Oper) : List Oper → Option (List VOper)
  | [] => some []
  | o :: r => match stripOp nt mu ops false o, stripOps nt mu ops r with
    | some v, some vs => some (v :: vs)
    | _, _ => none

/-! The order in which a region that draws its order is looked at: what leaves memory as it is, as early as may be. -/

def preds (o : Oper) : List Nat := o.after.toList.filterMap fun e => if Region.binds .any e then some e.on else none

def readyNow (ops : Array Oper) (done : List Nat) (i : Nat) : Bool :=
  !done.contains i && match ops[i]? with | some o => (preds o).all done.contains | none => false

def muAt (mu : Tmp → Bool) (o : Oper) : Bool := muOf mu o.dst

def eager (mu : Tmp → Bool) (ops : Array Oper) : Nat → List Nat → List Nat
  | 0, done => done.reverse
  | f + 1, done =>
    match (List.range ops.size).find? fun i => readyNow ops done i && match ops[i]? with | some o => !isHeavy (muAt mu o) o.op | none => false with
    | some i => eager mu ops f (i :: done)
    | none => match (List.range ops.size).find? (readyNow ops done) with
      | some i => eager mu ops f (i :: done)
      | none => done.reverse

/-- Must x come before y? -/
def dep (ops : Array Oper) : Nat → Nat → Nat → Bool
  | 0, _, _ => false
  | f + 1, x, y => match ops[y]? with
    | some o => (preds o).any fun p => p == x || dep ops f x p
    | none => false

def mentions (ops : Array Oper) (o : Oper) : List Tmp :=
  (o.op.operands.toList.filterMap fun | .tmp t => some t | _ => none) ++ o.dst.toList ++
    (match o.guard with | some (j, _) => ((ops[j]?).bind (·.dst)).toList | none => [])

def heavyAt (mu : Tmp → Bool) (ops : Array Oper) (i : Nat) : Bool := match ops[i]? with | some o => isHeavy (muAt mu o) o.op | none => true

def apartAt (ops : Array Oper) (x y : Nat) : Bool := match ops[x]?, ops[y]? with
  | some a, some b => (match a.dst with | some d => !(mentions ops b).contains d | none => true) && (match b.dst with | some d => !(mentions ops a).contains d | none => true)
  | _, _ => false

/-- Does x, which is looked at before y, stand free of it? fl: x's look does not read memory that may change. -/
def pairOk (mu : Tmp → Bool) (ops : Array Oper) (fl : Nat → Bool) (x y : Nat) : Bool :=
  x != y && !dep ops ops.size y x && (dep ops ops.size x y || (!heavyAt mu ops x && apartAt ops x y && (!heavyAt mu ops y || fl x)))

def pairsOk (mu : Tmp → Bool) (ops : Array Oper) (fl : Nat → Bool) : List Nat → Bool
  | [] => true
  | x :: r => !dep ops ops.size x x && r.all (fun y => pairOk mu ops fl x y) && pairsOk mu ops fl r

def floats (mu : Tmp → Bool) (ops : Array Oper) (order : List Nat) (x : Nat) : Bool :=
  !heavyAt mu ops x && (order.drop (order.idxOf x + 1)).any fun y => heavyAt mu ops y && !dep ops ops.size x y

def stripAt (nt : Nat) (mu : Tmp → Bool) (ops : Array Oper) (fl : Nat → Bool) : List Nat → Option (List VOper)
  | [] => some []
  | i :: r => match (ops[i]?).bind (stripOp nt mu ops (fl i)), stripAt nt mu ops fl r with
    | some v, some vs => some (v :: vs)
    | _, _ => none

def isRead : Op → Bool
  | .load _ _ | .lookup _ _ _ _ => true
  | _ => false
def readAt (ops : Array Oper) (x : Nat) : Bool := match ops[x]? with | some o => isRead o.op | none => true

/-- Must y, which changes memory, leave what something that floats may still read? -/
def keeps (mu : Tmp → Bool) (ops : Array Oper) (order : List Nat) (y : Nat) : Bool :=
  heavyAt mu ops y && order.any fun x => floats mu ops order x && readAt ops x && !dep ops ops.size x y

/-- What changes memory and may change what is kept comes behind all that floats. -/
def keepOk (mu : Tmp → Bool) (ops : Array Oper) (fl : Nat → Bool) (order : List Nat) : Bool :=
  order.all fun y => !heavyAt mu ops y || fl y || order.all fun x => heavyAt mu ops x || !fl x || !readAt ops x || dep ops ops.size x y

def drawList (nt : Nat) (mu : Tmp → Bool) (ops : Array Oper) : Option (List VOper) :=
  let order := eager mu ops ops.size []
  let fl := fun x => floats mu ops order x || keeps mu ops order x
  if keepOk mu ops fl order && order.length == ops.size && (List.range ops.size).all order.contains && order.all (· < ops.size) && ops.all (fun o => (preds o).all (· < ops.size)) && pairsOk mu ops fl order then stripAt nt mu ops fl order else none

def strip (nt : Nat) (mu : Tmp → Bool) : Code → VC
  | .skip => .skip
  | .region _ ops draw => match (if draw then drawList nt mu ops else stripOps nt mu ops ops.toList) with | some vs => .reg vs | none => .bad
  | .seq a b => .seq (strip nt mu a) (strip nt mu b)
  | .cond c x y => .cond c (strip nt mu x) (strip nt mu y)
  | .block id b => .block id (strip nt mu b)
  | .loop b => .loop (strip nt mu b)
  | .exit id => .exit id
  | .ret => .ret
  | _ => .bad

/-- What a shift of what is known may do: forget, and name. -/
def Shift (P : Program) (m nt : Nat) (env env' : Env) : Prop :=
  ∀ base w0 F ρ a w, Rel (psz P) base w0 m nt F ρ env a w → ∃ F' ρ', Ext m F ρ F' ρ' ∧ Rel (psz P) base w0 m nt F' ρ' env' a w

/-- The blocks kp are still there, as they were (but for those that are gone in kp). -/
def LeB : List Blk → List Blk → Prop
  | [], _ => True
  | _ :: _, [] => False
  | x :: kp, y :: h => (x = .gone ∨ x = y) ∧ LeB kp h

/-- Does an operation that floats read memory? -/
def flReads (o : VOper) : Bool := o.fl && match o.op with
  | .load _ _ => true
  | .lookup _ _ _ _ => true
  | _ => false

def anyReads : List VOper → Bool
  | [] => false
  | o :: r => flReads o || anyReads r

def wOp (P : Program) (tab : Tab) (kp : List Blk) (o : VOper) (K : Env → Prop) (env : Env) : Prop :=
  match o.op with
  | .call { callee := .value f, args := args, argTypes := _ } => match ev env f, args.toList.mapM (ev env) with
    | some (.d (.fn g)), some vs => CallW P g vs env.h fun v h' => LeB (if o.fl then kp else []) h' ∧ K (Env.put ⟨env.s, h'⟩ o.dst v)
    | some (.clo g cs), some vs => CallW P g (vs ++ cs) env.h fun v h' => LeB (if o.fl then kp else []) h' ∧ K (Env.put ⟨env.s, h'⟩ o.dst v)
    | some (.bnd g bs), some vs => CallW P g (bs ++ vs) env.h fun v h' => LeB (if o.fl then kp else []) h' ∧ K (Env.put ⟨env.s, h'⟩ o.dst v)
    | _, _ => False
  | .next it false => match ev env it with
    | some (.iter b) => NextW b env.h fun v h' => LeB (if o.fl then kp else []) h' ∧ K (Env.put ⟨env.s, h'⟩ o.dst v)
    | _ => False
  | op => if isDet o.mu op then (match evH tab o.mu env op with
      | some (ob, h', v) => ob ∧ LeB (if o.fl then kp else []) h' ∧ K (Env.put ⟨env.s, h'⟩ o.dst v)
      | none => False)
    else (match evX tab (if o.fl then ⟨env.s, kp⟩ else env) op with
      | some (ob, v) => ob ∧ K (env.put o.dst v)
      | none => False)

def wStep (P : Program) (tab : Tab) (kp : List Blk) (o : VOper) (K : Env → Prop) (env : Env) : Prop :=
  match o.guard with
  | none => wOp P tab kp o K env
  | some (t, want) => match look env.s t with
    | some (.d (.bool b)) => (b = want → wOp P tab kp o K (env.put (some t) (.d (.bool want)))) ∧
        (b = !want → K ((env.put (some t) (.d (.bool (!want)))).put o.dst (.tup [])))
    | some (.tup []) => K (env.put o.dst (.tup []))
    | _ => False

def wOps (P : Program) (tab : Tab) (kp : List Blk) : List VOper → (Env → Prop) → Env → Prop
  | [], K, env => K env
  | o :: r, K, env => wStep P tab kp o (wOps P tab kp r K) env

def thenQ (N : Env → Prop) (Q : Exit → Env → Prop) : Exit → Env → Prop
  | .normal, env => N env
  | e, env => Q e env

def blockQ (id : Nat) (Q : Exit → Env → Prop) : Exit → Env → Prop
  | .exit id', env => if id' = id then Q .normal env else Q (.exit id') env
  | e, env => Q e env

def W (P : Program) (tab : Tab) (m nt : Nat) : VC → (Exit → Env → Prop) → Env → Prop
  | .skip, Q, env => Q .normal env
  | .reg ops, Q, env => if anyReads ops then ∃ kp, LeB kp env.h ∧ wOps P tab kp ops (Q .normal) env else wOps P tab [] ops (Q .normal) env
  | .seq a b, Q, env => W P tab m nt a (thenQ (W P tab m nt b Q) Q) env
  | .cond c x y, Q, env => match ev env c with
    | some (.d (.bool b)) => (b = true → W P tab m nt x Q env) ∧ (b = false → W P tab m nt y Q env)
    | some (.pb p) => (p true → W P tab m nt x Q env) ∧ (p false → W P tab m nt y Q env)
    | _ => False
  | .block id b, Q, env => W P tab m nt b (blockQ id Q) env
  | .loop b, Q, env => ∃ (ι : Type) (inv : ι → Env) (μ : ι → Nat) (i : ι), Shift P m nt env (inv i) ∧
      ∀ i, W P tab m nt b (thenQ (fun env' => ∃ i', Shift P m nt env' (inv i') ∧ μ i' < μ i) Q) (inv i)
  | .exit id, Q, env => Q (.exit id) env
  | .ret, Q, env => Q .ret env
  | .bad, _, _ => False

variable {P : Program} {base : Nat} {w0 : World} {m nt : Nat} {F : Frz} {ρ : Env0} {env : Env} {a : Act} {w : World} {n : Nat} {tab : Tab} {sz : TypeId → Nat} {h kp : List Blk}

/-- Q, said of the machine's state. -/
def QC (P : Program) (base : Nat) (w0 : World) (m nt : Nat) (F : Frz) (ρ : Env0) (Q : Exit → Env → Prop) : Exit → Act → World → Prop :=
  fun ex a w => ∃ F' ρ' env, Ext m F ρ F' ρ' ∧ Rel (psz P) base w0 m nt F' ρ' env a w ∧ Q ex env

def KC (P : Program) (base : Nat) (w0 : World) (m nt : Nat) (F : Frz) (ρ : Env0) (K : Env → Prop) : Act → World → Prop :=
  fun a w => ∃ F' ρ' env, Ext m F ρ F' ρ' ∧ Rel (psz P) base w0 m nt F' ρ' env a w ∧ K env

theorem Rel.put (hr : Rel sz base w0 m nt F ρ env a w) {d : Option Tmp} {v : AV} {cv : Value} (hd : ∀ t, d = some t → t < nt) (hv : VRel sz F ρ env.h.length v cv) :
    Rel sz base w0 m nt F ρ (env.put d v) (a.put d cv) w := by
  cases d with
  | none => exact hr
  | some t =>
    have ht := hd t rfl
    refine ⟨hr.st, fun i u hi => ?_, by simpa [Act.put] using hr.size, hr.defers, hr.le⟩
    simp only [Env.put, look] at hi
    by_cases e : t = i
    · subst e
      rw [if_pos rfl] at hi
      cases hi
      exact ⟨cv, by simp [Act.put, hr.size, ht], hv⟩
    · rw [if_neg e] at hi
      obtain ⟨cu, h1, h2⟩ := hr.slots i u hi
      exact ⟨cu, by simp [Act.put, e, h1], h2⟩

theorem Rel.grow (hr : Rel sz base w0 m nt F ρ env a w) {F' : Frz} {ρ' : Env0} {h' : List Blk} {w' : World} (hx : Ext env.h.length F ρ F' ρ') (hst : St sz base w0 F' ρ' h' w')
    (hl : env.h.length ≤ h'.length) : Rel sz base w0 m nt F' ρ' ⟨env.s, h'⟩ a w' :=
  ⟨hst, fun i u hi => by obtain ⟨cu, h1, h2⟩ := hr.slots i u hi; exact ⟨cu, h1, h2.mono hx hl⟩, hr.size, hr.defers, Nat.le_trans hr.le hl⟩

theorem LeB.get : ∀ {kp h : List Blk}, LeB kp h → ∀ {b : Nat} {x : Blk}, kp[b]? = some x → x ≠ .gone → h[b]? = some x
  | [], _, _, b, x, hb, _ => by simp at hb
  | _ :: _, [], h, _, _, _, _ => h.elim
  | x' :: kp, y :: h, hk, b, x, hb, hx => by
    cases b with
    | zero =>
      simp only [List.getElem?_cons_zero, Option.some.injEq] at hb ⊢
      subst hb
      exact (hk.1.resolve_left hx).symm
    | succ b => simpa using LeB.get hk.2 (by simpa using hb) hx
theorem LeB.refl : ∀ (h : List Blk), LeB h h
  | [] => trivial
  | x :: h => ⟨.inr rfl, LeB.refl h⟩
theorem LeB.nil (h : List Blk) : LeB [] h := trivial

theorem evL_nil {op : Op} {r : Prop × AV} {s : Slots} {kp h : List Blk} (hk : LeB kp h) (he : evL tab ⟨s, kp⟩ op = some r) : evL tab ⟨s, h⟩ op = some r := by
  have hev : ∀ x, ev ⟨s, kp⟩ x = ev ⟨s, h⟩ x := fun x => by cases x <;> rfl
  have hevm : ev ⟨s, kp⟩ = ev ⟨s, h⟩ := funext hev
  have hb : ∀ d o, bnd ⟨s, kp⟩ d o = bnd ⟨s, h⟩ d o := fun d o => by cases o <;> simp [bnd, hev]
  unfold evL at he ⊢
  simp only [hevm] at he
  split at he <;> (try exact he)
  case _ t x =>
    split at he
    · rename_i v hv
      unfold loadAV at he ⊢
      split at he
      · exact he
      · rename_i b e i off ti hti
        split at he
        · rename_i te e' xs hte hb
          rw [hte, hk.get hb (by simp)]
          exact he
        · simp at he
      · simp at he
    · simp at he
  case _ t m k ok =>
    split at he
    · unfold lookupAV at he ⊢
      split at he
      · split at he
        · rename_i hko
          simp only [hko, if_true]
          split at he
          · exact he
          · rename_i b
            split at he
            · rename_i es hb
              rw [hk.get hb (by simp)]
              exact he
            · simp at he
          · simp at he
        · simp at he
      · simp at he
    · simp at he
  all_goals
    split at he
    · unfold sliceAV at he ⊢
      simp only [hevm, hb] at he
      exact he
    · simp at he

theorem partsAV_nil {s : Slots} {kp h : List Blk} : ∀ {ps : List (Nat × Operand)}, partsAV ⟨s, kp⟩ ps = partsAV ⟨s, h⟩ ps
  | [] => rfl
  | (i, x) :: ps => by
    simp only [partsAV]
    rw [partsAV_nil (ps := ps) (h := h), show ev ⟨s, kp⟩ x = ev ⟨s, h⟩ x from by cases x <;> rfl]

theorem evC_nil {s : Slots} {kp h : List Blk} {t d : TypeId} {x : Operand} : evC tab ⟨s, kp⟩ t d x = evC tab ⟨s, h⟩ t d x := by
  unfold evC
  rw [show ev ⟨s, kp⟩ x = ev ⟨s, h⟩ x from by cases x <;> rfl]

theorem evX_nil {op : Op} {r : Prop × AV} {s : Slots} {kp h : List Blk} (hk : LeB kp h) (he : evX tab ⟨s, kp⟩ op = some r) : evX tab ⟨s, h⟩ op = some r := by
  unfold evX at he ⊢
  split at he
  · rename_i s' d' x'
    have hn := evL_nil (tab := tab) (op := .convert s' d' x') (r := r) (s := s) hk
    rw [evC_nil (h := h)] at he
    cases hc : evC tab ⟨s, h⟩ s' d' x' with
    | some q => rw [hc] at he; simpa using he
    | none => rw [hc] at he; simpa using hn he
  · unfold evB at he ⊢
    rw [partsAV_nil (h := h)] at he
    exact he
  · unfold evS at he ⊢
    rw [partsAV_nil (h := h)] at he
    exact he
  · exact evL_nil hk he

theorem evL_pure {op : Op} {s : Slots} {kp h : List Blk} (hop : isRead op = false) : evL tab ⟨s, h⟩ op = evL tab ⟨s, kp⟩ op := by
  have hev : ∀ x, ev ⟨s, h⟩ x = ev ⟨s, kp⟩ x := fun x => by cases x <;> rfl
  have hevm : ev ⟨s, h⟩ = ev ⟨s, kp⟩ := funext hev
  have hb : ∀ d o, bnd ⟨s, h⟩ d o = bnd ⟨s, kp⟩ d o := fun d o => by cases o <;> simp [bnd, hev]
  cases op with
  | load t a => simp [isRead] at hop
  | lookup t m k ok => simp [isRead] at hop
  | makeFunc fn first caps => cases fn <;> first | rfl | simp only [evL, hevm]
  | call c =>
    obtain ⟨callee, args, ts⟩ := c
    cases callee with
    | builtin b => cases b <;> first | rfl | simp only [evL, hevm]
    | _ => rfl
  | _ => unfold evL; (try simp only [hevm]) <;> (try rfl) <;> (unfold sliceAV; simp only [hevm, hb])
theorem evX_pure {op : Op} {s : Slots} {kp h : List Blk} (hop : isRead op = false) : evX tab ⟨s, h⟩ op = evX tab ⟨s, kp⟩ op := by
  unfold evX
  split
  · rw [evC_nil (h := h) (kp := kp), evL_pure (kp := kp) (h := h) rfl]
  · unfold evB; rw [partsAV_nil (h := h) (kp := kp)]
  · unfold evS; rw [partsAV_nil (h := h) (kp := kp)]
  · exact evL_pure hop

/-- What a look at v needs of what is kept, and what v leaves of it. -/
def Need (kp : List Blk) (v : VOper) (env : Env) : Prop := isHeavy v.mu v.op = false → v.fl = true → isRead v.op = true → LeB kp env.h
def Aft (kp : List Blk) (v : VOper) (h : List Blk) (e : Env) : Prop := e.h = h ∨ (isHeavy v.mu v.op = true ∧ (v.fl = true → LeB kp e.h))

theorem leb_if {b : Bool} {kp h : List Blk} (hb : LeB (if b then kp else []) h) : b = true → LeB kp h := by
  intro e; rw [e] at hb; exact hb

theorem wOp_sound (hT : tab.checks P = true) (hr : Rel (psz P) base w0 m nt F ρ env a w) {o : Oper} {vo : VOper} {K : Env → Prop} (hop : vo.op = o.op) (hdst : vo.dst = o.dst)
    (hd : dstOk nt o.dst = true) (hk : Need kp vo env) (hW : wOp P tab kp vo K env) {next : Act → World → Prop} {Q : Exit → Act → World → Prop} (hn : ∀ a' w', KC P base w0 m nt F ρ (fun e => Aft kp vo env.h e ∧ K e) a' w' → next a' w') :
    o.wp P a w next Q := by
  have hdt : ∀ t, o.dst = some t → t < nt := by
    intro t ht
    rw [ht] at hd
    simpa [dstOk] using hd
  have hput : ∀ (v : AV), (env.put o.dst v).h = env.h := fun v => by cases o.dst <;> rfl
  have hput' : ∀ (h' : List Blk) (v : AV), (Env.put ⟨env.s, h'⟩ o.dst v).h = h' := fun h' v => by cases o.dst <;> rfl
  have light : ∀ (ob : Prop) (v : AV), evX tab env o.op = some (ob, v) → ob → K (env.put o.dst v) → o.wp P a w next Q := by
    intro ob v h1 h2 h3
    have hlight : evL tab env o.op = some (ob, v) → o.wp P a w next Q := by
      intro h1
      obtain ⟨cv, h4, h5⟩ := evL_sound hT hr h1 h2
      unfold Oper.wp
      rw [h4, Oper.upon_value]
      exact hn _ _ ⟨F, ρ, _, Ext.refl _ _ _, hr.put hdt h5, .inl (hput _), h3⟩
    unfold evX at h1
    split at h1
    · rename_i s' d' x' ho
      split at h1
      · rename_i r' hc
        cases h1
        obtain ⟨nx, cv, w', F', ρ', h4, h5, h6, h7, h8, h9⟩ := evC_sound hT hr hc
        have he : execOp a.eval o = (do Pure.pure (Next.value (← convert s' d' (a.eval x')))) := by simp only [execOp, ho]
        unfold Oper.wp
        rw [he, h4]
        have hfin : next (a.put o.dst cv) w' := hn _ _ ⟨F', ρ', _, h6.weak hr.le, (hr.grow h6 h7 h9).put hdt h8, .inl (hput _), h3⟩
        rcases h5 with rfl | ⟨rfl, rfl⟩
        · rw [Oper.upon_value]; exact hfin
        · rw [Oper.upon_skip]; exact hfin
      · rw [← ho] at h1; exact hlight h1
    · rename_i t len parts ho
      obtain ⟨nx, cv, w', F', ρ', h4, h5, h6, h7, h8, h9⟩ := evB_sound hT hr h1 h2
      have he : execOp a.eval o = (do Pure.pure (Next.value (← Instr.buildSlice t len (parts.map fun (i, x) => (i, a.eval x))))) := by simp only [execOp, ho]
      unfold Oper.wp
      rw [he, h4]
      have hfin : next (a.put o.dst cv) w' := hn _ _ ⟨F', ρ', _, h6.weak hr.le, (hr.grow h6 h7 h9).put hdt h8, .inl (hput _), h3⟩
      rcases h5 with rfl | ⟨rfl, rfl⟩
      · rw [Oper.upon_value]; exact hfin
      · rw [Oper.upon_skip]; exact hfin
    · rename_i t parts ho
      obtain ⟨cv, h4, h5⟩ := evS_sound hT hr h1 h2
      have he : (execOp a.eval o).run P w = .ok (.value cv) w := by simp only [execOp, ho, Sem.run_bind, h4, Result.andThen_ok, Sem.run_pure]
      unfold Oper.wp
      rw [he, Oper.upon_value]
      exact hn _ _ ⟨F, ρ, _, Ext.refl _ _ _, hr.put hdt h5, .inl (hput _), h3⟩
    obtain ⟨cv, h4, h5⟩ := evL_sound hT hr h1 h2
    unfold Oper.wp
    rw [h4, Oper.upon_value]
    exact hn _ _ ⟨F, ρ, _, Ext.refl _ _ _, hr.put hdt h5, .inl (hput _), h3⟩
  have call : isHeavy vo.mu vo.op = true → ∀ (g : FuncId) (vs : List AV) (cvs : Array Value), (execOp a.eval o).run P w = (callFunc g cvs).run P w → ArgsRel (psz P) F ρ env.h.length vs cvs →
      CallW P g vs env.h (fun v h' => LeB (if vo.fl then kp else []) h' ∧ K (Env.put ⟨env.s, h'⟩ o.dst v)) → o.wp P a w next Q := by
    intro hheavy g vs cvs h1 h2 h3
    obtain ⟨⟨fn, hf, hname, hbody⟩, h4⟩ := h3
    unfold Oper.wp
    have : (callFunc g cvs).run P w = .ok (.enter g cvs) w := by
      simp only [callFunc, Sem.run_bind, run_program, Result.andThen_ok, hf, hname, hbody, Bool.false_eq_true, if_false, Sem.run_pure]
    rw [h1, this, Oper.upon_enter]
    refine (h4 base w0 F ρ w cvs hr.st h2).mono ?_
    rintro e w' ⟨v, x, h', F', ρ', rfl, hx, hst, hv, hl, hK⟩
    exact hn _ _ ⟨F', ρ', _, hx.weak hr.le, (hr.grow hx hst hl).put hdt hv, .inr ⟨hheavy, by rw [hput']; exact leb_if hK.1⟩, hK.2⟩
  unfold wOp at hW
  rw [hop, hdst] at hW
  split at hW
  · rename_i f args ts ho
    have hargs : ∀ vs, args.toList.mapM (ev env) = some vs → ArgsRel (psz P) F ρ env.h.length vs (args.map a.eval) := by
      intro vs hvs
      obtain ⟨hl, hv⟩ := mapM_ev hr hvs
      refine ⟨by simpa using hl.symm, fun i x hx => ?_⟩
      obtain ⟨y, hy, hr'⟩ := hv i x hx
      have : args[i]? = some y := by simpa using hy
      exact ⟨a.eval y, by simp [this], hr'⟩
    split at hW
    · rename_i g vs hf hvs
      have hfr := ev_sound hr hf
      generalize hcv : a.eval f = cv at hfr
      cases hfr with | d hfr => cases hfr with
      | fn _ =>
        exact call (by rw [hop, ho]; rfl) g vs (args.map a.eval) (by simp only [execOp, ho, resolve, hcv, Deferred.ofValue, Sem.run_bind, Sem.run_pure, Result.andThen_ok, invoke]; simp) (hargs vs hvs) hW
    · rename_i g cs vs hf hvs
      have hfr := ev_sound hr hf
      generalize hcv : a.eval f = cv at hfr
      cases hfr with
      | clo _ _ cvs hs val hv hrr =>
        obtain ⟨h1, h2⟩ := hargs vs hvs
        refine call (by rw [hop, ho]; rfl) g (vs ++ cs) (args.map a.eval ++ cvs) (by simp only [execOp, ho, resolve, hcv, Deferred.ofValue, Sem.run_bind, Sem.run_pure, Result.andThen_ok, invoke]; simp) ⟨by simp only [List.length_append, Array.size_append]; rw [h1, hs], fun i x hx => ?_⟩ hW
        by_cases hi : i < vs.length
        · rw [List.getElem?_append_left hi] at hx
          obtain ⟨u, hu, hr'⟩ := h2 i x hx
          exact ⟨u, by rw [Array.getElem?_append_left (by rw [← h1]; exact hi)]; exact hu, hr'⟩
        · rw [List.getElem?_append_right (by omega)] at hx
          exact ⟨_, by rw [Array.getElem?_append_right (by rw [← h1]; omega), ← h1]; exact hv _ _ hx, hrr _ _ hx⟩
    · rename_i g cs vs hf hvs
      have hfr := ev_sound hr hf
      generalize hcv : a.eval f = cv at hfr
      cases hfr with
      | bnd _ _ cvs hs val hv hrr =>
        obtain ⟨h1, h2⟩ := hargs vs hvs
        refine call (by rw [hop, ho]; rfl) g (cs ++ vs) (cvs ++ args.map a.eval) (by simp only [execOp, ho, resolve, hcv, Deferred.ofValue, Sem.run_bind, Sem.run_pure, Result.andThen_ok, invoke]; simp) ⟨by simp only [List.length_append, Array.size_append]; rw [h1, hs], fun i x hx => ?_⟩ hW
        by_cases hi : i < cs.length
        · rw [List.getElem?_append_left hi] at hx
          exact ⟨_, by rw [Array.getElem?_append_left (by rw [hs]; exact hi)]; exact hv _ _ hx, hrr _ _ hx⟩
        · rw [List.getElem?_append_right (by omega)] at hx
          obtain ⟨u, hu, hr'⟩ := h2 _ x hx
          exact ⟨u, by rw [Array.getElem?_append_right (by rw [hs]; omega), hs]; exact hu, hr'⟩
    · exact hW.elim
  · rename_i it ho
    split at hW
    · rename_i b hit
      unfold NextW at hW
      split at hW
      · rename_i mb cnt seen hb
        split at hW
        · rename_i es hm
          obtain ⟨hlen, hn1, hn2⟩ := hW
          obtain ⟨v, h', cv, w', hrun, hst, hv, hl, hor⟩ := next_sound hr.st o.type (ev_sound hr hit) hb hm hlen
          have he : (execOp a.eval o).run P w = .ok (.value cv) w' := by simp only [execOp, ho, Sem.run_bind, hrun, Result.andThen_ok, Sem.run_pure]
          have hK : LeB (if vo.fl then kp else []) h' ∧ K (Env.put ⟨env.s, h'⟩ o.dst v) := by
            rcases hor with ⟨i, k, x, q1, q2, rfl, rfl⟩ | ⟨q1, rfl, rfl⟩
            · exact hn1 i k x q1 q2
            · exact hn2 q1
          unfold Oper.wp
          rw [he, Oper.upon_value]
          exact hn _ _ ⟨F, ρ, _, Ext.refl _ _ _, (hr.grow (Ext.refl _ _ _) hst (by omega)).put hdt (by show VRel _ F ρ h'.length v cv; rw [hl]; exact hv), .inr ⟨by rw [hop, ho]; rfl, by rw [hput']; exact leb_if hK.1⟩, hK.2⟩
        · exact hW.elim
      · exact hW.elim
    · exact hW.elim
  · rename_i hnc hnn
    split at hW
    · rename_i hdet
      have hheavy : isHeavy vo.mu vo.op = true := by rw [hop]; simp [isHeavy, hdet]
      split at hW
      · rename_i ob h' v h1
        obtain ⟨nx, cv, w', F', ρ', h2, h3, h4, h5, h6, h7⟩ := evH_sound hT hr h1 hW.1
        unfold Oper.wp
        rw [h2]
        have hfin : next (a.put o.dst cv) w' := hn _ _ ⟨F', ρ', _, h4.weak hr.le, (hr.grow h4 h5 h7).put hdt h6, .inr ⟨hheavy, by rw [hput']; exact leb_if hW.2.1⟩, hW.2.2⟩
        rcases h3 with rfl | ⟨rfl, rfl⟩
        · rw [Oper.upon_value]; exact hfin
        · rw [Oper.upon_skip]; exact hfin
      · exact hW.elim
    · rename_i hdet
      have hlight : isHeavy vo.mu vo.op = false := by
        rw [hop]
        simp only [isHeavy, Bool.or_eq_false_iff]
        refine ⟨by simpa using hdet, ?_⟩
        cases hcc : isCall o.op with
        | false => rfl
        | true =>
          exfalso
          unfold isCall at hcc
          split at hcc
          · rename_i f args ts ho; exact hnc f args ts ho
          · rename_i it ho; exact hnn it ho
          · simp at hcc
      split at hW
      · rename_i ob v h1
        refine light ob v ?_ hW.1 hW.2
        cases hfl : vo.fl with
        | false => rw [hfl] at h1; simpa using h1
        | true =>
          rw [hfl] at h1
          have h1' : evX tab ⟨env.s, kp⟩ o.op = some (ob, v) := by simpa using h1
          cases hrd : isRead vo.op with
          | true => exact evX_nil (hk hlight hfl hrd) h1'
          | false => rw [hop] at hrd; rw [← h1']; exact evX_pure hrd
      · exact hW.elim

theorem stripOp_some {nt : Nat} {mu : Tmp → Bool} {ops : Array Oper} {fl : Bool} {o : Oper} {v : VOper} (h : stripOp nt mu ops fl o = some v) :
    dstOk nt o.dst = true ∧ v.op = o.op ∧ v.dst = o.dst ∧ ((o.guard = none ∧ v.guard = none) ∨ ∃ j want d, o.guard = some (j, want) ∧ v.guard = some (d, want) ∧ (ops[j]?).bind (·.dst) = some d) := by
  unfold stripOp at h
  split at h
  · simp at h
  rename_i hd
  have hd' : dstOk nt o.dst = true := by simpa using hd
  split at h
  · rename_i hg
    cases h
    exact ⟨hd', rfl, rfl, .inl ⟨hg, rfl⟩⟩
  · rename_i j want hg
    split at h
    · rename_i d hj
      cases h
      exact ⟨hd', rfl, rfl, .inr ⟨j, want, d, hg, rfl, hj⟩⟩
    · simp at h

theorem stripOp_fl {nt : Nat} {mu : Tmp → Bool} {ops : Array Oper} {fl : Bool} {o : Oper} {v : VOper} (h : stripOp nt mu ops fl o = some v) : v.fl = fl := by
  unfold stripOp at h
  split at h
  · simp at h
  · split at h
    · cases h; rfl
    · split at h
      · cases h; rfl
      · simp at h

theorem Rel.name (hr : Rel sz base w0 m nt F ρ env a w) {t : Tmp} {b c : Bool} (hb : look env.s t = some (.d (.bool b))) (hc : b = c) : Rel sz base w0 m nt F ρ (env.put (some t) (.d (.bool c))) a w := by
  subst hc
  refine ⟨hr.st, fun i u hi => ?_, hr.size, hr.defers, hr.le⟩
  simp only [Env.put, look] at hi
  by_cases e : t = i
  · subst e; rw [if_pos rfl] at hi; cases hi; exact hr.slots t _ hb
  · rw [if_neg e] at hi; exact hr.slots i u hi

theorem wStep_sound (hT : tab.checks P = true) (hr : Rel (psz P) base w0 m nt F ρ env a w) {ops : Array Oper} {o : Oper} {mu : Tmp → Bool} {fl : Bool} {v : VOper} (h1 : stripOp nt mu ops fl o = some v) {K : Env → Prop} (hk : Need kp v env)
    (hW : wStep P tab kp v K env) {next : Act → World → Prop} {Q : Exit → Act → World → Prop} (hn : ∀ a' w', KC P base w0 m nt F ρ (fun e => Aft kp v env.h e ∧ K e) a' w' → next a' w') :
    if Region.wanted o (yielded ops a.tmps) then o.wp P a w next Q else next (a.put o.dst undef) w := by
  obtain ⟨hd, hop, hdst, hg⟩ := stripOp_some h1
  have hdt : ∀ t, o.dst = some t → t < nt := by intro t ht; rw [ht] at hd; simpa [dstOk] using hd
  have exec : ∀ {e : Env}, e.h = env.h → Rel (psz P) base w0 m nt F ρ e a w → wOp P tab kp v K e → o.wp P a w next Q := fun {e} he hr hw =>
    wOp_sound hT hr hop hdst hd (fun a b c => by rw [he]; exact hk a b c) hw (by rw [he]; exact hn)
  have skip : ∀ {e : Env}, e.h = env.h → Rel (psz P) base w0 m nt F ρ e a w → K (e.put o.dst (.tup [])) → next (a.put o.dst undef) w := fun he hr hw =>
    hn _ _ ⟨F, ρ, _, Ext.refl _ _ _, hr.put hdt undef_rel, .inl (by (cases o.dst <;> exact he)), hw⟩
  unfold wStep at hW
  rcases hg with ⟨hg1, hg2⟩ | ⟨j, want, d, hg1, hg2, hj⟩
  · rw [hg2] at hW
    rw [if_pos (by simp [Region.wanted, hg1])]
    exact exec rfl hr hW
  · rw [hg2] at hW
    have hy : yielded ops a.tmps j = match a.tmps[d]? with | some (.bool b) => some b | _ => none := by
      simp only [yielded, hj, Option.bind_some]
      cases a.tmps[d]? with
      | none => rfl
      | some v => cases v <;> rfl
    simp only at hW
    split at hW
    · rename_i b hb
      obtain ⟨cv, h3, h4⟩ := hr.slots d _ hb
      have := h4.bool_inv; subst this
      rw [h3] at hy
      by_cases e : b = want
      · rw [if_pos (by simp [Region.wanted, hg1, hy, e])]
        exact exec (e := env.put (some d) (.d (.bool want))) rfl (hr.name hb e) (hW.1 e)
      · rw [if_neg (by simp [Region.wanted, hg1, hy, e])]
        rw [hdst] at hW
        have e' : b = !want := by cases b <;> cases want <;> simp_all
        exact skip (e := env.put (some d) (.d (.bool (!want)))) rfl (hr.name hb e') (hW.2 e')
    · rename_i hb
      obtain ⟨cv, h3, h4⟩ := hr.slots d _ hb
      have : cv = .tuple #[] := by
        cases h4 with
        | tup _ vs hs val hv hr => rw [Array.eq_empty_of_size_eq_zero hs]
      subst this
      rw [h3] at hy
      rw [if_neg (by simp [Region.wanted, hg1, hy])]
      rw [hdst] at hW
      exact skip rfl hr hW
    · exact hW.elim

theorem wOps_sound (hT : tab.checks P = true) {mu : Tmp → Bool} {ops : Array Oper} {K : Env → Prop} {Q : Exit → Act → World → Prop} : ∀ {l : List Oper} {vl : List VOper} {F : Frz} {ρ : Env0} {env : Env} {a : Act} {w : World},
    stripOps nt mu ops l = some vl → Rel (psz P) base w0 m nt F ρ env a w → wOps P tab kp vl K env → (∀ a' w', KC P base w0 m nt F ρ K a' w' → Q .normal a' w') → wpList P ops Q l a w
  | [], vl, F, ρ, env, a, w, hs, hr, hW, hn => by
    cases hs
    exact hn _ _ ⟨F, ρ, env, Ext.refl _ _ _, hr, hW⟩
  | o :: l, vl, F, ρ, env, a, w, hs, hr, hW, hn => by
    unfold stripOps at hs
    split at hs
    · rename_i v vs h1 h2
      cases hs
      have := wStep_sound (Q := Q) hT hr h1 (fun _ hfl _ => by rw [stripOp_fl h1] at hfl; cases hfl) hW (next := wpList P ops Q l) (fun a' w' ⟨F', ρ', env', hx, hr', hk', hK⟩ =>
        wOps_sound hT h2 hr' hK (fun a'' w'' ⟨F'', ρ'', env'', hx', hr'', hK'⟩ => hn _ _ ⟨F'', ρ'', env'', hx.trans hx', hr'', hK'⟩))
      unfold wpList
      split at this
      · rename_i hc; rw [if_pos hc]; exact .inl this
      · rename_i hc; rw [if_neg hc]; exact this
    · simp at hs

/-- The order that Go leaves open makes no difference in a region that passes the look. -/
def OrderOk (P : Program) (tab : Tab) (nt : Nat) (mu : Tmp → Bool) : Prop :=
  ∀ (id : Nat) (ops : Array Oper) (vl : List VOper) (base : Nat) (w0 : World) (m : Nat) (F : Frz) (ρ : Env0) (env : Env) (a : Act) (w : World) (K : Env → Prop) (Q : Exit → Act → World → Prop) (kp : List Blk),
    drawList nt mu ops = some vl → Rel (psz P) base w0 m nt F ρ env a w → LeB kp env.h → wOps P tab kp vl K env → (∀ a' w', KC P base w0 m nt F ρ K a' w' → Q .normal a' w') →
    (Code.region id ops true).wp P Q a w

theorem least_of {p : Nat → Prop} (h : ∃ k, p k) : ∃ k, p k ∧ ∀ j, p j → k ≤ j := by
  obtain ⟨k, hk⟩ := h
  induction k using Nat.strongRecOn with
  | _ k ih =>
    by_cases hx : ∃ j, j < k ∧ p j
    · obtain ⟨j, hj, hp⟩ := hx
      exact ih j hj hp
    · refine ⟨k, hk, fun j hj => ?_⟩
      rcases Nat.lt_or_ge j k with h | h
      · exact absurd ⟨j, h, hj⟩ hx
      · exact h

theorem W_sound (hT : tab.checks P = true) {mu : Tmp → Bool} (hok : OrderOk P tab nt mu) : ∀ (c : Code) {Q : Exit → Env → Prop} {F : Frz} {ρ : Env0} {env : Env} {a : Act} {w : World} {R : Exit → Act → World → Prop},
    W P tab m nt (strip nt mu c) Q env → Rel (psz P) base w0 m nt F ρ env a w → (∀ ex a' w', QC P base w0 m nt F ρ Q ex a' w' → R ex a' w') → c.wp P R a w := by
  intro c
  induction c with
  | skip => exact fun hW hr hn => wp_skip (hn _ _ _ ⟨_, _, _, Ext.refl _ _ _, hr, hW⟩)
  | region id ops draw =>
    intro Q F ρ env a w R hW hr hn
    simp only [strip] at hW
    split at hW
    · rename_i vs hs
      obtain ⟨kp, hkp, hW⟩ : ∃ kp, LeB kp env.h ∧ wOps P tab kp vs (Q .normal) env := by
        simp only [W] at hW
        split at hW
        · exact hW
        · exact ⟨[], LeB.nil _, hW⟩
      cases draw with
      | false => exact wp_region_list (wOps_sound hT (by simpa using hs) hr hW (fun a' w' ⟨F', ρ', env', hx, hr', hK⟩ => hn _ _ _ ⟨F', ρ', env', hx, hr', hK⟩))
      | true => exact hok id ops vs base w0 m F ρ env a w _ _ _ (by simpa using hs) hr hkp hW (fun a' w' ⟨F', ρ', env', hx, hr', hK⟩ => hn _ _ _ ⟨F', ρ', env', hx, hr', hK⟩)
    · exact hW.elim
  | seq x y ihx ihy =>
    intro Q F ρ env a w R hW hr hn
    refine wp_seq (ihx hW hr ?_)
    rintro ex a' w' ⟨F', ρ', env', hx, hr', hq⟩
    cases ex with
    | normal => exact ihy hq hr' (fun ex a'' w'' ⟨F'', ρ'', env'', hx', hr'', hq'⟩ => hn _ _ _ ⟨F'', ρ'', env'', hx.trans hx', hr'', hq'⟩)
    | _ => exact hn _ _ _ ⟨F', ρ', env', hx, hr', hq⟩
  | cond cnd x y ihx ihy =>
    intro Q F ρ env a w R hW hr hn
    simp only [strip, W] at hW
    split at hW
    · rename_i b hb
      have hb' := (ev_sound hr hb).bool_inv
      cases b with
      | true => exact wp_cond_true hb' (ihx (hW.1 rfl) hr hn)
      | false => exact wp_cond_false hb' (ihy (hW.2 rfl) hr hn)
    · rename_i p hb
      have hv := ev_sound hr hb
      generalize he : a.eval cnd = cv at hv
      cases hv with
      | @pb _ b hp =>
        cases b with
        | true => exact wp_cond_true he (ihx (hW.1 hp) hr hn)
        | false => exact wp_cond_false he (ihy (hW.2 hp) hr hn)
    · exact hW.elim
  | block id b ih =>
    intro Q F ρ env a w R hW hr hn
    refine wp_block (ih hW hr ?_)
    rintro ex a' w' ⟨F', ρ', env', hx, hr', hq⟩
    cases ex with
    | exit id' =>
      simp only [blockQ] at hq
      simp only [Exit.inBlock]
      split
      · rename_i e; rw [if_pos e] at hq; exact hn _ _ _ ⟨F', ρ', env', hx, hr', hq⟩
      · rename_i e; rw [if_neg e] at hq; exact hn _ _ _ ⟨F', ρ', env', hx, hr', hq⟩
    | _ => exact hn _ _ _ ⟨F', ρ', env', hx, hr', hq⟩
  | loop b ih =>
    intro Q F ρ env a w R hW hr hn
    simp only [strip, W] at hW
    obtain ⟨ι, inv, μ, i0, hs, hround⟩ := hW
    let I : Nat → Act → World → Prop := fun k a' w' => ∃ i F' ρ', μ i = k ∧ Ext m F ρ F' ρ' ∧ Rel (psz P) base w0 m nt F' ρ' (inv i) a' w'
    let μ' : Act → World → Nat := fun a' w' => open Classical in if h : ∃ k, I k a' w' then (least_of h).choose else 0
    have hμ : ∀ k a' w', I k a' w' → I (μ' a' w') a' w' ∧ μ' a' w' ≤ k := by
      intro k a' w' hI
      have hex : ∃ k, I k a' w' := ⟨k, hI⟩
      have e : μ' a' w' = (least_of hex).choose := by
        simp only [μ']
        rw [dif_pos hex]
      rw [e]
      exact ⟨(least_of hex).choose_spec.1, (least_of hex).choose_spec.2 k hI⟩
    refine wp_loop (fun a' w' => ∃ k, I k a' w') μ' ?_ ?_
    · obtain ⟨F', ρ', hx, hr'⟩ := hs base w0 F ρ a w hr
      exact ⟨_, i0, F', ρ', rfl, hx, hr'⟩
    · rintro a' w' ⟨k, hI⟩
      obtain ⟨⟨i, F', ρ', hk, hx, hr'⟩, _⟩ := hμ k a' w' hI
      refine ih (hround i) hr' ?_
      rintro ex a'' w'' ⟨F'', ρ'', env'', hx', hr'', hq⟩
      cases ex with
      | normal =>
        obtain ⟨i', hsh, hlt⟩ := hq
        obtain ⟨F3, ρ3, hx3, hr3⟩ := hsh base w0 F'' ρ'' a'' w'' hr''
        have hI' : I (μ i') a'' w'' := ⟨i', F3, ρ3, rfl, (hx.trans hx').trans hx3, hr3⟩
        have := (hμ _ a'' w'' hI').2
        exact ⟨⟨_, hI'⟩, by omega⟩
      | _ => exact hn _ _ _ ⟨F'', ρ'', env'', hx.trans hx', hr'', hq⟩
  | exit id => exact fun hW hr hn => wp_exit (hn _ _ _ ⟨_, _, _, Ext.refl _ _ _, hr, hW⟩)
  | ret => exact fun hW hr hn => wp_ret (hn _ _ _ ⟨_, _, _, Ext.refl _ _ _, hr, hW⟩)
  | _ => intro Q F ρ env a w R hW; exact hW.elim

end Go.Vm

/- Shifts (what is known is forgotten or named), and a function's contract out of its body. -/
set_option linter.unusedSimpArgs false
namespace Go.Vm

variable {P : Program} {base : Nat} {w0 : World} {m nt : Nat} {F : Frz} {ρ : Env0} {env env' : Env} {a : Act} {w : World} {n : Nat} {tab : Tab} {sz : TypeId → Nat} {h : List Blk}

/-- What may be said in place of a value. -/
inductive Sub : AV → AV → Prop
  | refl (x : AV) : Sub x x
  | unk (x : AV) : Sub x .unk
  | nil (e : TypeId) : Sub (.d .nilsl) (.d (.sl e []))
  | bl (b : Nat) (e : TypeId) (xs : List D) : Sub (.bl b e xs) (.d (.sl e xs))
  | z0 (e : TypeId) : Sub (.z0 e) (.d (.sl e []))
  | nilz (e : TypeId) : Sub (.d .nilsl) (.z0 e)

theorem sl_empty (e : TypeId) (A : Option Addr) (c : Nat) : FRep sz F (.sl e []) (.slice A 0 c) :=
  .sl e [] A ⟨0, 0, none⟩ c (fun _ _ => .nilIface) (by simp) (by simp) (by simp) (by simp) (by simp) (by simp)

theorem Sub.rel {x y : AV} {v : Value} (hs : Sub x y) (hv : VRel sz F ρ n x v) : VRel sz F ρ n y v := by
  cases hs with
  | refl => exact hv
  | unk => exact .unk v
  | nil e => cases hv with | d hv => cases hv with | nilsl => exact .d (sl_empty e none 0)
  | bl b e xs => cases hv with | bl hb h hl hw hc => exact .d h
  | z0 e => cases hv with | @z0 _ A => exact .d (sl_empty e A 0)
  | nilz e => cases hv with | d hv => cases hv with | nilsl => exact .z0

theorem look_mem {s : Slots} {i : Nat} {v : AV} (h : look s i = some v) : (i, v) ∈ s := by
  induction s with
  | nil => simp [look] at h
  | cons kv r ih =>
    obtain ⟨k, u⟩ := kv
    simp only [look] at h
    by_cases e : k = i
    · rw [if_pos e] at h; cases h; subst e; simp
    · rw [if_neg e] at h; exact List.mem_cons_of_mem _ (ih h)

theorem Shift.refl : Shift P m nt env env := fun _ _ F ρ _ _ h => ⟨F, ρ, Ext.refl _ _ _, h⟩
theorem Shift.trans {e1 e2 e3 : Env} (h1 : Shift P m nt e1 e2) (h2 : Shift P m nt e2 e3) : Shift P m nt e1 e3 := by
  intro base w0 F ρ a w hr
  obtain ⟨F1, ρ1, hx1, hr1⟩ := h1 base w0 F ρ a w hr
  obtain ⟨F2, ρ2, hx2, hr2⟩ := h2 base w0 F1 ρ1 a w hr1
  exact ⟨F2, ρ2, hx1.trans hx2, hr2⟩

/-- Forgetting slots and the last blocks. -/
theorem Shift.weak {s s' : Slots} {h g : List Blk} (hs : ∀ kv ∈ s', ∃ v, look s kv.1 = some v ∧ Sub v kv.2 ∧ Bel h.length kv.2) (hok : HOk h) (hm : m ≤ h.length) :
    Shift P m nt ⟨s, h ++ g⟩ ⟨s', h⟩ := by
  intro base w0 F ρ a w hr
  refine ⟨F, ρ, Ext.refl _ _ _, hr.st.cut hok, fun i v hi => ?_, hr.size, hr.defers, hm⟩
  obtain ⟨u, h1, h2, h3⟩ := hs _ (look_mem hi)
  obtain ⟨cv, h4, h5⟩ := hr.slots i u h1
  exact ⟨cv, h4, (h2.rel h5).cut h3⟩

/-- A nil slice is the begin of a builder. -/
theorem Shift.nilbl {s : Slots} {h : List Blk} {i : Nat} (e : TypeId) (hi : look s i = some (.d .nilsl)) :
    Shift P m nt ⟨s, h⟩ ⟨(i, .bl h.length e []) :: s, h ++ [.tail e 0]⟩ := by
  intro base w0 F ρ a w hr
  have hx : Ext h.length F ρ F (upd ρ h.length (.bld (.slice none 0 0) 0)) := Ext.upd _ _ _ _
  have hst : St (psz P) base w0 F (upd ρ h.length (.bld (.slice none 0 0) 0)) (h ++ [.tail e 0]) w := by
    refine ⟨hr.st.frz, fun b x hb => ?_, fun b b' B h1 h2 c1 c2 => ?_, hr.st.old, hr.st.hb, fun b B h1 c1 => ?_⟩
    · rw [List.length_append, List.length_singleton]
      rcases Nat.lt_trichotomy b h.length with h1 | h1 | h1
      · rw [List.getElem?_append_left h1] at hb
        exact (hr.st.blk b x hb).mono hx (upd_ne (by omega)) (Nat.le_succ _) (fun r o _ hr => hr) (fun _ _ _ _ => rfl)
      · subst h1
        simp only [List.getElem?_append_right (Nat.le_refl _), Nat.sub_self, List.getElem?_cons_zero, Option.some.injEq] at hb
        subst hb
        exact ⟨none, 0, upd_same _ _ _, by omega, fun h => absurd rfl h⟩
      · rw [List.getElem?_eq_none (by simp; omega)] at hb
        cases hb
    · simp only [List.length_append, List.length_singleton] at h1 h2
      by_cases e1 : b = h.length
      · subst e1; rw [upd_same] at c1; simp [Loc.conc] at c1
      · by_cases e2 : b' = h.length
        · subst e2; rw [upd_same] at c2; simp [Loc.conc] at c2
        · rw [upd_ne e1] at c1; rw [upd_ne e2] at c2
          exact hr.st.dist b b' B (show b < h.length by omega) (show b' < h.length by omega) c1 c2
    · simp only [List.length_append, List.length_singleton] at h1
      by_cases e1 : b = h.length
      · subst e1; rw [upd_same] at c1; simp [Loc.conc] at c1
      · rw [upd_ne e1] at c1
        exact hr.st.lt b B (show b < h.length by omega) c1
  refine ⟨F, _, hx.weak hr.le, hst, fun j v hj => ?_, hr.size, hr.defers, by have := hr.le; simp; exact Nat.le_trans this (Nat.le_succ _)⟩
  simp only [look] at hj
  by_cases ej : i = j
  · rw [if_pos ej] at hj
    cases hj
    subst ej
    obtain ⟨cv, h4, h5⟩ := hr.slots i _ hi
    refine ⟨cv, h4, ?_⟩
    cases h5 with | d h5 => cases h5 with
    | nilsl => exact .bl (by simp) (sl_empty e none 0) (upd_same _ _ _) (by simp) (fun _ => rfl)
  · rw [if_neg ej] at hj
    obtain ⟨cv, h4, h5⟩ := hr.slots j v hj
    exact ⟨cv, h4, h5.mono hx (by simp)⟩

/-- What a function's results are. -/
def resAV (tab : Tab) (env : Env) : List ResultVar → Option (Prop × List AV)
  | [] => some (True, [])
  | .tmp t :: r => match look env.s t, resAV tab env r with
    | some v, some (o, vs) => some (o, v :: vs)
    | _, _ => none
  | .cell x t :: r => match look env.s x, resAV tab env r with
    | some p, some (o, vs) => match loadAV tab env.h t p with
      | some (o', v) => some (o' ∧ o, v :: vs)
      | none => none
    | _, _ => none

def oneOf (vs : List AV) : AV := match vs with | [v] => v | vs => .tup vs

/-- A shift of a result. -/
def RShift (P : Program) (m : Nat) (v : AV) (h : List Blk) (x : AV) (h' : List Blk) : Prop :=
  ∀ base w0 F ρ w cv, St (psz P) base w0 F ρ h w → VRel (psz P) F ρ h.length v cv →
    ∃ F' ρ', Ext m F ρ F' ρ' ∧ St (psz P) base w0 F' ρ' h' w ∧ VRel (psz P) F' ρ' h'.length x cv ∧ m ≤ h'.length

theorem RShift.drop {v x : AV} {h g : List Blk} (hs : Sub v x) (hb : Bel h.length x) (hok : HOk h) (hm : m ≤ h.length) : RShift P m v (h ++ g) x h :=
  fun _ _ F ρ _ _ hst hv => ⟨F, ρ, Ext.refl _ _ _, hst.cut hok, (hs.rel hv).cut hb, hm⟩

def retW (P : Program) (tab : Tab) (m : Nat) (rs : List ResultVar) (Q : AV → List Blk → Prop) (ex : Exit) (env : Env) : Prop :=
  match ex with
  | .normal | .ret => match resAV tab env rs with
    | some (o, vs) => o ∧ ∃ x h', RShift P m (oneOf vs) env.h x h' ∧ Q x h'
    | none => False
  | _ => False

def argSlots (k : Nat) : List AV → Slots
  | [] => []
  | x :: r => (k, x) :: argSlots (k + 1) r

theorem look_args {args : List AV} {k i : Nat} {v : AV} (h : look (argSlots k args) i = some v) : k ≤ i ∧ args[i - k]? = some v := by
  induction args generalizing k with
  | nil => simp [argSlots, look] at h
  | cons x r ih =>
    simp only [argSlots, look] at h
    by_cases e : k = i
    · rw [if_pos e] at h; cases h; subst e; simp
    · rw [if_neg e] at h
      obtain ⟨h1, h2⟩ := ih h
      exact ⟨by omega, by rw [show i - k = (i - (k + 1)) + 1 from by omega]; simpa using h2⟩

def resStep (tmps : Array Value) : ResultVar → Sem Value
  | .tmp t => Pure.pure (tmps.getD t undef)
  | .cell x t => do loadVar t (← asAddr (tmps.getD x undef))

theorem results_eq (fn : Func) (tmps : Array Value) : results fn tmps = (do
    let vs ← fn.results.mapM (resStep tmps)
    Pure.pure (if h : vs.size = 1 then vs[0] else .tuple vs)) := by
  unfold results
  congr 1

theorem resAV_sound (hT : tab.checks P = true) (hr : Rel (psz P) base w0 m nt F ρ env a w) : ∀ {rs : List ResultVar} {o : Prop} {vs : List AV}, resAV tab env rs = some (o, vs) → o →
    ∃ cvs : List Value, (rs.mapM (resStep a.tmps)).run P w = .ok cvs w ∧
      cvs.length = vs.length ∧ ∀ (k : Nat) (v : AV), vs[k]? = some v → ∃ cv, cvs[k]? = some cv ∧ VRel (psz P) F ρ env.h.length v cv
  | [], o, vs, h, ho => by
    simp only [resAV, Option.some.injEq, Prod.mk.injEq] at h
    obtain ⟨_, rfl⟩ := h
    exact ⟨[], rfl, rfl, by simp⟩
  | .tmp t :: r, o, vs, h, ho => by
    simp only [resAV] at h
    split at h
    · rename_i v o' vs' h1 h2
      simp only [Option.some.injEq, Prod.mk.injEq] at h
      obtain ⟨rfl, rfl⟩ := h
      obtain ⟨cvs, h3, h4, h5⟩ := resAV_sound hT hr h2 ho
      obtain ⟨cv, h6, h7⟩ := hr.slots t v h1
      refine ⟨cv :: cvs, ?_, by simp [h4], fun k u hk => ?_⟩
      · have hp' : a.tmps.getD t undef = cv := by simp [Array.getD_eq_getD_getElem?, h6]
        rw [List.mapM_cons]
        simp only [resStep, Sem.run_bind, Sem.run_pure, Result.andThen_ok, h3, hp']
      · cases k with
        | zero => simp at hk; subst hk; exact ⟨cv, rfl, h7⟩
        | succ k => simpa using h5 k u (by simpa using hk)
    · simp at h
  | .cell x t :: r, o, vs, h, ho => by
    simp only [resAV] at h
    split at h
    · rename_i p o' vs' h1 h2
      split at h
      · rename_i o2 v h8
        simp only [Option.some.injEq, Prod.mk.injEq] at h
        obtain ⟨rfl, rfl⟩ := h
        obtain ⟨cvs, h3, h4, h5⟩ := resAV_sound hT hr h2 ho.2
        obtain ⟨cp, h6, h7⟩ := hr.slots x p h1
        obtain ⟨cv, h9, h10⟩ := load_sound hT hr.st h8 ho.1 h7
        have hp : ∃ ad, cp = .pointer (some ad) := by
          unfold loadAV at h8
          split at h8
          · cases h7; exact ⟨_, rfl⟩
          · cases h7; exact ⟨_, rfl⟩
          · simp at h8
        obtain ⟨ad, rfl⟩ := hp
        refine ⟨cv :: cvs, ?_, by simp [h4], fun k u hk => ?_⟩
        · have hp' : a.tmps.getD x undef = .pointer (some ad) := by simp [Array.getD_eq_getD_getElem?, h6]
          have ha : (asAddr (a.tmps.getD x undef)).run P w = .ok ad w := by rw [hp']; rfl
          simp only [Instr.loadAt, Instr.sureAddr, pure_bind] at h9
          rw [List.mapM_cons]
          simp only [resStep, Sem.run_bind, ha, Result.andThen_ok, h9, h3, Sem.run_pure]
        · cases k with
          | zero => simp at hk; subst hk; exact ⟨cv, rfl, h10⟩
          | succ k => simpa using h5 k u (by simpa using hk)
      · simp at h
    · simp at h

theorem callW_of_body (hT : tab.checks P = true) {mu : Tmp → Bool} (hok : OrderOk P tab nt mu) {f : FuncId} {fn : Func} {c : Code} (hf : P.funcs[f]? = some fn) (hb : fn.body = some c)
    (hname : (fn.name == "runtime.NumGoroutine") = false) (hnt : fn.ntmps = nt) {vc : VC} (hvc : strip nt mu c = vc) {args : List AV} {h : List Blk} {Q : AV → List Blk → Prop} (hlen : args.length ≤ nt)
    (hW : HOk h → W P tab h.length nt vc (retW P tab h.length fn.results.toList Q) ⟨argSlots 0 args, h⟩) : CallW P f args h Q := by
  refine ⟨⟨fn, hf, hname, by rw [hb]; rfl⟩, fun base w0 F ρ w vs hst ⟨hsz, hargs⟩ => ?_⟩
  refine calls_of_wp hf hb ?_
  have hW' := hW hst.hok
  rw [← hvc] at hW'
  have hr : Rel (psz P) base w0 h.length nt F ρ ⟨argSlots 0 args, h⟩ { tmps := vs ++ Array.replicate (fn.ntmps - vs.size) undef, defers := [] } w := by
    refine ⟨hst, fun i v hi => ?_, by simp [hnt]; omega, rfl, Nat.le_refl _⟩
    obtain ⟨_, h1⟩ := look_args hi
    simp only [Nat.sub_zero] at h1
    obtain ⟨cv, h2, h3⟩ := hargs i v h1
    refine ⟨cv, ?_, h3⟩
    have hlt : i < vs.size := by
      rcases Nat.lt_or_ge i vs.size with h | h
      · exact h
      · simp [Array.getElem?_eq_none h] at h2
    show (vs ++ _)[i]? = some cv
    rw [Array.getElem?_append_left hlt]; exact h2
  refine W_sound hT hok c hW' hr ?_
  rintro ex a' w' ⟨F', ρ', env', hx, hr', hq⟩
  have fin : ∀ o vs', resAV tab env' fn.results.toList = some (o, vs') → o → (∃ x h', RShift P h.length (oneOf vs') env'.h x h' ∧ Q x h') →
      a'.defers = [] ∧ ∃ v, (results fn a'.tmps).run P w' = .ok v w' ∧ ∃ v' x h' F' ρ', Ending.returned v = .returned v' ∧ Ext h.length F ρ F' ρ' ∧ St (psz P) base w0 F' ρ' h' w' ∧ VRel (psz P) F' ρ' h'.length x v' ∧ h.length ≤ h'.length ∧ Q x h' := by
    rintro o vs' h1 h2 ⟨x, h', h3, h4⟩
    obtain ⟨cvs, h5, h6, h7⟩ := resAV_sound hT hr' h1 h2
    have hres : (results fn a'.tmps).run P w' = .ok (if h : cvs.toArray.size = 1 then cvs.toArray[0] else .tuple cvs.toArray) w' := by
      rw [results_eq, Sem.run_bind, Array.mapM_eq_mapM_toList, Sem.run_map, h5]
      rfl
    have hone : VRel (psz P) F' ρ' env'.h.length (oneOf vs') (if h : cvs.toArray.size = 1 then cvs.toArray[0] else .tuple cvs.toArray) := by
      by_cases hc1 : cvs.length = 1
      · rw [dif_pos (by simpa using hc1)]
        match cvs, vs', h6, hc1, h7 with
        | [c], [v], _, _, h7 =>
          obtain ⟨c', h8, h9⟩ := h7 0 v rfl
          cases h8
          exact h9
      · rw [dif_neg (by simpa using hc1)]
        have : oneOf vs' = .tup vs' := by
          unfold oneOf
          split
          · exact absurd h6 hc1
          · rfl
        rw [this]
        refine .tup vs' _ (by simpa using h6) (fun k => cvs.getD k .nilIface) (fun k c hk => ?_) (fun k c hk => ?_)
        · obtain ⟨cv, h8, _⟩ := h7 k c hk
          simp [h8]
        · obtain ⟨cv, h8, h9⟩ := h7 k c hk
          rw [List.getD, h8]
          exact h9
    obtain ⟨F'', ρ'', hx', hst', hv', hl'⟩ := h3 base w0 F' ρ' w' _ hr'.st hone
    exact ⟨hr'.defers, _, hres, _, x, h', F'', ρ'', rfl, hx.trans hx', hst', hv', hl', h4⟩
  unfold retW at hq
  cases ex with
  | normal | ret =>
    simp only at hq
    split at hq
    · rename_i o vs' h1
      exact fin o vs' h1 hq.1 hq.2
    · exact hq.elim
  | _ => exact hq.elim

end Go.Vm
