/- Calls, the stripped code, and what it does: W, and that W is sound. -/
import Derived.Test.YtggeifnbllfmbaaDoorVmJ
set_option linter.unusedSimpArgs false
namespace Go.Vm

/-- A Go function with a body. -/
def Enters (P : Program) (f : FuncId) : Prop := ∃ fn, P.funcs[f]? = some fn ∧ (fn.name == "runtime.NumGoroutine") = false ∧ fn.body.isNone = false

def ArgsRel (sz : TypeId → Nat) (F : Frz) (ρ : Env0) (n : Nat) (args : List AV) (vs : Array Value) : Prop :=
  args.length = vs.size ∧ ∀ (i : Nat) (x : AV), args[i]? = some x → ∃ v, vs[i]? = some v ∧ VRel sz F ρ n x v

/-- A call in a state of abstract blocks: it returns, with what Q says. -/
def CallW (P : Program) (f : FuncId) (args : List AV) (h : List Blk) (Q : AV → List Blk → Prop) : Prop :=
  Enters P f ∧ ∀ base w0 F ρ w vs, St (psz P) base w0 F ρ h w → ArgsRel (psz P) F ρ h.length args vs →
    Calls P f vs w fun e w' => ∃ v x h' F' ρ', e = .returned v ∧ Ext h.length F ρ F' ρ' ∧ St (psz P) base w0 F' ρ' h' w' ∧ VRel (psz P) F' ρ' h'.length x v ∧ h.length ≤ h'.length ∧ Q x h'

theorem CallW.mono {P : Program} {f : FuncId} {args : List AV} {h : List Blk} {Q Q' : AV → List Blk → Prop} (hc : CallW P f args h Q) (hq : ∀ x h', Q x h' → Q' x h') : CallW P f args h Q' :=
  ⟨hc.1, fun base w0 F ρ w vs hs ha => (hc.2 base w0 F ρ w vs hs ha).mono fun _ _ ⟨v, x, h', F', ρ', h1, h2, h3, h4, h5, h6⟩ => ⟨v, x, h', F', ρ', h1, h2, h3, h4, h5, hq _ _ h6⟩⟩

structure VOper where
  dst : Option Tmp
  op : Op
  guard : Option (Tmp × Bool)
  fl : Bool
  mu : Bool

/-- Does an operation write memory, and call nothing? -/
def isDet (mu : Bool) : Op → Bool
  | .buildSlice _ _ _ | .move _ | .convert _ _ _ => mu
  | .alloc _ | .box _ _ | .store _ _ _ | .makeSlice _ _ _ | .makeMap _ _ | .mapUpdate _ _ _ _ | .insert _ _ _ _ => true
  | .call { callee := .builtin .append, .. } => true
  | _ => false

def isCall : Op → Bool
  | .call { callee := .value _, .. } => true
  | _ => false

/-- Does an operation change memory (or may it)? -/
def isHeavy (mu : Bool) (op : Op) : Bool := isDet mu op || isCall op

inductive VC where
  | skip
  | reg (ops : List VOper)
  | seq (a b : VC)
  | cond (c : Operand) (x y : VC)
  | block (id : Nat) (b : VC)
  | loop (b : VC)
  | exit (id : Nat)
  | ret
  | bad

def muOf (mu : Tmp → Bool) : Option Tmp → Bool
  | some t => mu t
  | none => false

def dstOk (nt : Nat) (d : Option Tmp) : Bool := match d with | some t => decide (t < nt) | none => true

def stripOp (nt : Nat) (mu : Tmp → Bool) (ops : Array Oper) (fl : Bool) (o : Oper) : Option VOper :=
  if !dstOk nt o.dst then none else match o.guard with
  | none => some ⟨o.dst, o.op, none, fl, muOf mu o.dst⟩
  | some (j, want) => match (ops[j]?).bind (·.dst) with
    | some d => some ⟨o.dst, o.op, some (d, want), fl, muOf mu o.dst⟩
    | none => none

def stripOps (nt : Nat) (mu : Tmp → Bool) (ops : Array Oper) : List Oper → Option (List VOper)
  | [] => some []
  | o :: r => match stripOp nt mu ops false o, stripOps nt mu ops r with
    | some v, some vs => some (v :: vs)
    | _, _ => none

/-! The order in which a region that draws its order is looked at: what leaves memory as it is, as early as may be. -/

def preds (o : Oper) : List Nat := o.after.toList.filterMap fun e => if Region.binds .any e then some e.on else none

def readyNow (ops : Array Oper) (done : List Nat) (i : Nat) : Bool :=
  !done.contains i && match ops[i]? with | some o => (preds o).all done.contains | none => false

def muAt (mu : Tmp → Bool) (o : Oper) : Bool := muOf mu o.dst

def eager (mu : Tmp → Bool) (ops : Array Oper) : Nat → List Nat → List Nat
  | 0, done => done.reverse
  | f + 1, done =>
    match (List.range ops.size).find? fun i => readyNow ops done i && match ops[i]? with | some o => !isHeavy (muAt mu o) o.op | none => false with
    | some i => eager mu ops f (i :: done)
    | none => match (List.range ops.size).find? (readyNow ops done) with
      | some i => eager mu ops f (i :: done)
      | none => done.reverse

/-- Must x come before y? -/
def dep (ops : Array Oper) : Nat → Nat → Nat → Bool
  | 0, _, _ => false
  | f + 1, x, y => match ops[y]? with
    | some o => (preds o).any fun p => p == x || dep ops f x p
    | none => false

def mentions (ops : Array Oper) (o : Oper) : List Tmp :=
  (o.op.operands.toList.filterMap fun | .tmp t => some t | _ => none) ++ o.dst.toList ++
    (match o.guard with | some (j, _) => ((ops[j]?).bind (·.dst)).toList | none => [])

def heavyAt (mu : Tmp → Bool) (ops : Array Oper) (i : Nat) : Bool := match ops[i]? with | some o => isHeavy (muAt mu o) o.op | none => true

def apartAt (ops : Array Oper) (x y : Nat) : Bool := match ops[x]?, ops[y]? with
  | some a, some b => (match a.dst with | some d => !(mentions ops b).contains d | none => true) && (match b.dst with | some d => !(mentions ops a).contains d | none => true)
  | _, _ => false

/-- Does x, which is looked at before y, stand free of it? fl: x's look does not read memory that may change. -/
def pairOk (mu : Tmp → Bool) (ops : Array Oper) (fl : Nat → Bool) (x y : Nat) : Bool :=
  x != y && !dep ops ops.size y x && (dep ops ops.size x y || (!heavyAt mu ops x && apartAt ops x y && (!heavyAt mu ops y || fl x)))

def pairsOk (mu : Tmp → Bool) (ops : Array Oper) (fl : Nat → Bool) : List Nat → Bool
  | [] => true
  | x :: r => !dep ops ops.size x x && r.all (fun y => pairOk mu ops fl x y) && pairsOk mu ops fl r

def floats (mu : Tmp → Bool) (ops : Array Oper) (order : List Nat) (x : Nat) : Bool :=
  !heavyAt mu ops x && (order.drop (order.idxOf x + 1)).any fun y => heavyAt mu ops y && !dep ops ops.size x y

def stripAt (nt : Nat) (mu : Tmp → Bool) (ops : Array Oper) (fl : Nat → Bool) : List Nat → Option (List VOper)
  | [] => some []
  | i :: r => match (ops[i]?).bind (stripOp nt mu ops (fl i)), stripAt nt mu ops fl r with
    | some v, some vs => some (v :: vs)
    | _, _ => none

def drawList (nt : Nat) (mu : Tmp → Bool) (ops : Array Oper) : Option (List VOper) :=
  let order := eager mu ops ops.size []
  let fl := floats mu ops order
  if order.length == ops.size && (List.range ops.size).all order.contains && order.all (· < ops.size) && ops.all (fun o => (preds o).all (· < ops.size)) && pairsOk mu ops fl order then stripAt nt mu ops fl order else none

def strip (nt : Nat) (mu : Tmp → Bool) : Code → VC
  | .skip => .skip
  | .region _ ops draw => match (if draw then drawList nt mu ops else stripOps nt mu ops ops.toList) with | some vs => .reg vs | none => .bad
  | .seq a b => .seq (strip nt mu a) (strip nt mu b)
  | .cond c x y => .cond c (strip nt mu x) (strip nt mu y)
  | .block id b => .block id (strip nt mu b)
  | .loop b => .loop (strip nt mu b)
  | .exit id => .exit id
  | .ret => .ret
  | _ => .bad

/-- What a shift of what is known may do: forget, and name. -/
def Shift (P : Program) (m nt : Nat) (env env' : Env) : Prop :=
  ∀ base w0 F ρ a w, Rel (psz P) base w0 m nt F ρ env a w → ∃ F' ρ', Ext m F ρ F' ρ' ∧ Rel (psz P) base w0 m nt F' ρ' env' a w

/-- The blocks kp are still there, as they were (but for those that are gone in kp). -/
def LeB : List Blk → List Blk → Prop
  | [], _ => True
  | _ :: _, [] => False
  | x :: kp, y :: h => (x = .gone ∨ x = y) ∧ LeB kp h

/-- Does an operation that floats read memory? -/
def flReads (o : VOper) : Bool := o.fl && match o.op with
  | .load _ _ => true
  | .lookup _ _ _ _ => true
  | _ => false

def anyReads : List VOper → Bool
  | [] => false
  | o :: r => flReads o || anyReads r

def wOp (P : Program) (tab : Tab) (kp : List Blk) (o : VOper) (K : Env → Prop) (env : Env) : Prop :=
  match o.op with
  | .call { callee := .value f, args := args, argTypes := _ } => match ev env f, args.toList.mapM (ev env) with
    | some (.d (.fn g)), some vs => CallW P g vs env.h fun v h' => LeB kp h' ∧ K (Env.put ⟨env.s, h'⟩ o.dst v)
    | some (.clo g cs), some vs => CallW P g (vs ++ cs) env.h fun v h' => LeB kp h' ∧ K (Env.put ⟨env.s, h'⟩ o.dst v)
    | _, _ => False
  | op => if isDet o.mu op then (match evH tab o.mu env op with
      | some (ob, h', v) => ob ∧ LeB kp h' ∧ K (Env.put ⟨env.s, h'⟩ o.dst v)
      | none => False)
    else (match evX tab (if o.fl then ⟨env.s, kp⟩ else env) op with
      | some (ob, v) => ob ∧ K (env.put o.dst v)
      | none => False)

def wStep (P : Program) (tab : Tab) (kp : List Blk) (o : VOper) (K : Env → Prop) (env : Env) : Prop :=
  match o.guard with
  | none => wOp P tab kp o K env
  | some (t, want) => match look env.s t with
    | some (.d (.bool b)) => (b = want → wOp P tab kp o K (env.put (some t) (.d (.bool want)))) ∧
        (b = !want → K ((env.put (some t) (.d (.bool (!want)))).put o.dst (.tup [])))
    | some (.tup []) => K (env.put o.dst (.tup []))
    | _ => False

def wOps (P : Program) (tab : Tab) (kp : List Blk) : List VOper → (Env → Prop) → Env → Prop
  | [], K, env => K env
  | o :: r, K, env => wStep P tab kp o (wOps P tab kp r K) env

def thenQ (N : Env → Prop) (Q : Exit → Env → Prop) : Exit → Env → Prop
  | .normal, env => N env
  | e, env => Q e env

def blockQ (id : Nat) (Q : Exit → Env → Prop) : Exit → Env → Prop
  | .exit id', env => if id' = id then Q .normal env else Q (.exit id') env
  | e, env => Q e env

def W (P : Program) (tab : Tab) (m nt : Nat) : VC → (Exit → Env → Prop) → Env → Prop
  | .skip, Q, env => Q .normal env
  | .reg ops, Q, env => if anyReads ops then ∃ kp, LeB kp env.h ∧ wOps P tab kp ops (Q .normal) env else wOps P tab [] ops (Q .normal) env
  | .seq a b, Q, env => W P tab m nt a (thenQ (W P tab m nt b Q) Q) env
  | .cond c x y, Q, env => match ev env c with
    | some (.d (.bool b)) => (b = true → W P tab m nt x Q env) ∧ (b = false → W P tab m nt y Q env)
    | some (.pb p) => (p true → W P tab m nt x Q env) ∧ (p false → W P tab m nt y Q env)
    | _ => False
  | .block id b, Q, env => W P tab m nt b (blockQ id Q) env
  | .loop b, Q, env => ∃ (ι : Type) (inv : ι → Env) (μ : ι → Nat) (i : ι), Shift P m nt env (inv i) ∧
      ∀ i, W P tab m nt b (thenQ (fun env' => ∃ i', Shift P m nt env' (inv i') ∧ μ i' < μ i) Q) (inv i)
  | .exit id, Q, env => Q (.exit id) env
  | .ret, Q, env => Q .ret env
  | .bad, _, _ => False

variable {P : Program} {base : Nat} {w0 : World} {m nt : Nat} {F : Frz} {ρ : Env0} {env : Env} {a : Act} {w : World} {n : Nat} {tab : Tab} {sz : TypeId → Nat} {h kp : List Blk}

/-- Q, said of the machine's state. -/
def QC (P : Program) (base : Nat) (w0 : World) (m nt : Nat) (F : Frz) (ρ : Env0) (Q : Exit → Env → Prop) : Exit → Act → World → Prop :=
  fun ex a w => ∃ F' ρ' env, Ext m F ρ F' ρ' ∧ Rel (psz P) base w0 m nt F' ρ' env a w ∧ Q ex env

def KC (P : Program) (base : Nat) (w0 : World) (m nt : Nat) (F : Frz) (ρ : Env0) (K : Env → Prop) : Act → World → Prop :=
  fun a w => ∃ F' ρ' env, Ext m F ρ F' ρ' ∧ Rel (psz P) base w0 m nt F' ρ' env a w ∧ K env

theorem Rel.put (hr : Rel sz base w0 m nt F ρ env a w) {d : Option Tmp} {v : AV} {cv : Value} (hd : ∀ t, d = some t → t < nt) (hv : VRel sz F ρ env.h.length v cv) :
    Rel sz base w0 m nt F ρ (env.put d v) (a.put d cv) w := by
  cases d with
  | none => exact hr
  | some t =>
    have ht := hd t rfl
    refine ⟨hr.st, fun i u hi => ?_, by simpa [Act.put] using hr.size, hr.defers, hr.le⟩
    simp only [Env.put, look] at hi
    by_cases e : t = i
    · subst e
      rw [if_pos rfl] at hi
      cases hi
      exact ⟨cv, by simp [Act.put, hr.size, ht], hv⟩
    · rw [if_neg e] at hi
      obtain ⟨cu, h1, h2⟩ := hr.slots i u hi
      exact ⟨cu, by simp [Act.put, e, h1], h2⟩

theorem Rel.grow (hr : Rel sz base w0 m nt F ρ env a w) {F' : Frz} {ρ' : Env0} {h' : List Blk} {w' : World} (hx : Ext env.h.length F ρ F' ρ') (hst : St sz base w0 F' ρ' h' w')
    (hl : env.h.length ≤ h'.length) : Rel sz base w0 m nt F' ρ' ⟨env.s, h'⟩ a w' :=
  ⟨hst, fun i u hi => by obtain ⟨cu, h1, h2⟩ := hr.slots i u hi; exact ⟨cu, h1, h2.mono hx hl⟩, hr.size, hr.defers, Nat.le_trans hr.le hl⟩

theorem LeB.get : ∀ {kp h : List Blk}, LeB kp h → ∀ {b : Nat} {x : Blk}, kp[b]? = some x → x ≠ .gone → h[b]? = some x
  | [], _, _, b, x, hb, _ => by simp at hb
  | _ :: _, [], h, _, _, _, _ => h.elim
  | x' :: kp, y :: h, hk, b, x, hb, hx => by
    cases b with
    | zero =>
      simp only [List.getElem?_cons_zero, Option.some.injEq] at hb ⊢
      subst hb
      exact (hk.1.resolve_left hx).symm
    | succ b => simpa using LeB.get hk.2 (by simpa using hb) hx
theorem LeB.refl : ∀ (h : List Blk), LeB h h
  | [] => trivial
  | x :: h => ⟨.inr rfl, LeB.refl h⟩
theorem LeB.nil (h : List Blk) : LeB [] h := trivial

theorem evL_nil {op : Op} {r : Prop × AV} {s : Slots} {kp h : List Blk} (hk : LeB kp h) (he : evL tab ⟨s, kp⟩ op = some r) : evL tab ⟨s, h⟩ op = some r := by
  have hev : ∀ x, ev ⟨s, kp⟩ x = ev ⟨s, h⟩ x := fun x => by cases x <;> rfl
  have hevm : ev ⟨s, kp⟩ = ev ⟨s, h⟩ := funext hev
  have hb : ∀ d o, bnd ⟨s, kp⟩ d o = bnd ⟨s, h⟩ d o := fun d o => by cases o <;> simp [bnd, hev]
  unfold evL at he ⊢
  simp only [hevm] at he
  split at he <;> (try exact he)
  case _ t x =>
    split at he
    · rename_i v hv
      unfold loadAV at he ⊢
      split at he
      · exact he
      · rename_i b e i off ti hti
        split at he
        · rename_i te e' xs hte hb
          rw [hte, hk.get hb (by simp)]
          exact he
        · simp at he
      · simp at he
    · simp at he
  case _ t m k ok =>
    split at he
    · unfold lookupAV at he ⊢
      split at he
      · split at he
        · rename_i hko
          simp only [hko, if_true]
          split at he
          · exact he
          · rename_i b
            split at he
            · rename_i es hb
              rw [hk.get hb (by simp)]
              exact he
            · simp at he
          · simp at he
        · simp at he
      · simp at he
    · simp at he
  all_goals
    split at he
    · unfold sliceAV at he ⊢
      simp only [hevm, hb] at he
      exact he
    · simp at he

theorem partsAV_nil {s : Slots} {kp h : List Blk} : ∀ {ps : List (Nat × Operand)}, partsAV ⟨s, kp⟩ ps = partsAV ⟨s, h⟩ ps
  | [] => rfl
  | (i, x) :: ps => by
    simp only [partsAV]
    rw [partsAV_nil (ps := ps) (h := h), show ev ⟨s, kp⟩ x = ev ⟨s, h⟩ x from by cases x <;> rfl]

theorem evC_nil {s : Slots} {kp h : List Blk} {t d : TypeId} {x : Operand} : evC tab ⟨s, kp⟩ t d x = evC tab ⟨s, h⟩ t d x := by
  unfold evC
  rw [show ev ⟨s, kp⟩ x = ev ⟨s, h⟩ x from by cases x <;> rfl]

theorem evX_nil {op : Op} {r : Prop × AV} {s : Slots} {kp h : List Blk} (hk : LeB kp h) (he : evX tab ⟨s, kp⟩ op = some r) : evX tab ⟨s, h⟩ op = some r := by
  unfold evX at he ⊢
  split at he
  · rename_i s' d' x'
    have hn := evL_nil (tab := tab) (op := .convert s' d' x') (r := r) (s := s) hk
    rw [evC_nil (h := h)] at he
    cases hc : evC tab ⟨s, h⟩ s' d' x' with
    | some q => rw [hc] at he; simpa using he
    | none => rw [hc] at he; simpa using hn he
  · unfold evB at he ⊢
    rw [partsAV_nil (h := h)] at he
    exact he
  · unfold evS at he ⊢
    rw [partsAV_nil (h := h)] at he
    exact he
  · exact evL_nil hk he

theorem wOp_sound (hT : tab.checks P = true) (hr : Rel (psz P) base w0 m nt F ρ env a w) {o : Oper} {vo : VOper} {K : Env → Prop} (hop : vo.op = o.op) (hdst : vo.dst = o.dst)
    (hd : dstOk nt o.dst = true) (hk : LeB kp env.h) (hW : wOp P tab kp vo K env) {next : Act → World → Prop} {Q : Exit → Act → World → Prop} (hn : ∀ a' w', KC P base w0 m nt F ρ (fun e => LeB kp e.h ∧ K e) a' w' → next a' w') :
    o.wp P a w next Q := by
  have hdt : ∀ t, o.dst = some t → t < nt := by
    intro t ht
    rw [ht] at hd
    simpa [dstOk] using hd
  have hput : ∀ (v : AV), (env.put o.dst v).h = env.h := fun v => by cases o.dst <;> rfl
  have hput' : ∀ (h' : List Blk) (v : AV), (Env.put ⟨env.s, h'⟩ o.dst v).h = h' := fun h' v => by cases o.dst <;> rfl
  have light : ∀ (ob : Prop) (v : AV), evX tab env o.op = some (ob, v) → ob → K (env.put o.dst v) → o.wp P a w next Q := by
    intro ob v h1 h2 h3
    have hlight : evL tab env o.op = some (ob, v) → o.wp P a w next Q := by
      intro h1
      obtain ⟨cv, h4, h5⟩ := evL_sound hT hr h1 h2
      unfold Oper.wp
      rw [h4, Oper.upon_value]
      exact hn _ _ ⟨F, ρ, _, Ext.refl _ _ _, hr.put hdt h5, by rw [hput]; exact hk, h3⟩
    unfold evX at h1
    split at h1
    · rename_i s' d' x' ho
      split at h1
      · rename_i r' hc
        cases h1
        obtain ⟨nx, cv, w', F', ρ', h4, h5, h6, h7, h8, h9⟩ := evC_sound hT hr hc
        have he : execOp a.eval o = (do Pure.pure (Next.value (← convert s' d' (a.eval x')))) := by simp only [execOp, ho]
        unfold Oper.wp
        rw [he, h4]
        have hfin : next (a.put o.dst cv) w' := hn _ _ ⟨F', ρ', _, h6.weak hr.le, (hr.grow h6 h7 h9).put hdt h8, by rw [hput]; exact hk, h3⟩
        rcases h5 with rfl | ⟨rfl, rfl⟩
        · rw [Oper.upon_value]; exact hfin
        · rw [Oper.upon_skip]; exact hfin
      · rw [← ho] at h1; exact hlight h1
    · rename_i t len parts ho
      obtain ⟨nx, cv, w', F', ρ', h4, h5, h6, h7, h8, h9⟩ := evB_sound hT hr h1 h2
      have he : execOp a.eval o = (do Pure.pure (Next.value (← Instr.buildSlice t len (parts.map fun (i, x) => (i, a.eval x))))) := by simp only [execOp, ho]
      unfold Oper.wp
      rw [he, h4]
      have hfin : next (a.put o.dst cv) w' := hn _ _ ⟨F', ρ', _, h6.weak hr.le, (hr.grow h6 h7 h9).put hdt h8, by rw [hput]; exact hk, h3⟩
      rcases h5 with rfl | ⟨rfl, rfl⟩
      · rw [Oper.upon_value]; exact hfin
      · rw [Oper.upon_skip]; exact hfin
    · rename_i t parts ho
      obtain ⟨cv, h4, h5⟩ := evS_sound hT hr h1 h2
      have he : (execOp a.eval o).run P w = .ok (.value cv) w := by simp only [execOp, ho, Sem.run_bind, h4, Result.andThen_ok, Sem.run_pure]
      unfold Oper.wp
      rw [he, Oper.upon_value]
      exact hn _ _ ⟨F, ρ, _, Ext.refl _ _ _, hr.put hdt h5, by rw [hput]; exact hk, h3⟩
    obtain ⟨cv, h4, h5⟩ := evL_sound hT hr h1 h2
    unfold Oper.wp
    rw [h4, Oper.upon_value]
    exact hn _ _ ⟨F, ρ, _, Ext.refl _ _ _, hr.put hdt h5, by rw [hput]; exact hk, h3⟩
  have call : ∀ (g : FuncId) (vs : List AV) (cvs : Array Value), (execOp a.eval o).run P w = (callFunc g cvs).run P w → ArgsRel (psz P) F ρ env.h.length vs cvs →
      CallW P g vs env.h (fun v h' => LeB kp h' ∧ K (Env.put ⟨env.s, h'⟩ o.dst v)) → o.wp P a w next Q := by
    intro g vs cvs h1 h2 h3
    obtain ⟨⟨fn, hf, hname, hbody⟩, h4⟩ := h3
    unfold Oper.wp
    have : (callFunc g cvs).run P w = .ok (.enter g cvs) w := by
      simp only [callFunc, Sem.run_bind, run_program, Result.andThen_ok, hf, hname, hbody, Bool.false_eq_true, if_false, Sem.run_pure]
    rw [h1, this, Oper.upon_enter]
    refine (h4 base w0 F ρ w cvs hr.st h2).mono ?_
    rintro e w' ⟨v, x, h', F', ρ', rfl, hx, hst, hv, hl, hK⟩
    exact hn _ _ ⟨F', ρ', _, hx.weak hr.le, (hr.grow hx hst hl).put hdt hv, by rw [hput']; exact hK.1, hK.2⟩
  unfold wOp at hW
  rw [hop, hdst] at hW
  split at hW
  · rename_i f args ts ho
    have hargs : ∀ vs, args.toList.mapM (ev env) = some vs → ArgsRel (psz P) F ρ env.h.length vs (args.map a.eval) := by
      intro vs hvs
      obtain ⟨hl, hv⟩ := mapM_ev hr hvs
      refine ⟨by simpa using hl.symm, fun i x hx => ?_⟩
      obtain ⟨y, hy, hr'⟩ := hv i x hx
      have : args[i]? = some y := by simpa using hy
      exact ⟨a.eval y, by simp [this], hr'⟩
    split at hW
    · rename_i g vs hf hvs
      have hfr := ev_sound hr hf
      generalize hcv : a.eval f = cv at hfr
      cases hfr with | d hfr => cases hfr with
      | fn _ =>
        exact call g vs (args.map a.eval) (by simp only [execOp, ho, resolve, hcv, Deferred.ofValue, Sem.run_bind, Sem.run_pure, Result.andThen_ok, invoke]; simp) (hargs vs hvs) hW
    · rename_i g cs vs hf hvs
      have hfr := ev_sound hr hf
      generalize hcv : a.eval f = cv at hfr
      cases hfr with
      | clo _ _ cvs hs val hv hrr =>
        obtain ⟨h1, h2⟩ := hargs vs hvs
        refine call g (vs ++ cs) (args.map a.eval ++ cvs) (by simp only [execOp, ho, resolve, hcv, Deferred.ofValue, Sem.run_bind, Sem.run_pure, Result.andThen_ok, invoke]; simp) ⟨by simp only [List.length_append, Array.size_append]; rw [h1, hs], fun i x hx => ?_⟩ hW
        by_cases hi : i < vs.length
        · rw [List.getElem?_append_left hi] at hx
          obtain ⟨u, hu, hr'⟩ := h2 i x hx
          exact ⟨u, by rw [Array.getElem?_append_left (by rw [← h1]; exact hi)]; exact hu, hr'⟩
        · rw [List.getElem?_append_right (by omega)] at hx
          exact ⟨_, by rw [Array.getElem?_append_right (by rw [← h1]; omega), ← h1]; exact hv _ _ hx, hrr _ _ hx⟩
    · exact hW.elim
  · split at hW
    · split at hW
      · rename_i ob h' v h1
        obtain ⟨nx, cv, w', F', ρ', h2, h3, h4, h5, h6, h7⟩ := evH_sound hT hr h1 hW.1
        unfold Oper.wp
        rw [h2]
        have hfin : next (a.put o.dst cv) w' := hn _ _ ⟨F', ρ', _, h4.weak hr.le, (hr.grow h4 h5 h7).put hdt h6, by rw [hput']; exact hW.2.1, hW.2.2⟩
        rcases h3 with rfl | ⟨rfl, rfl⟩
        · rw [Oper.upon_value]; exact hfin
        · rw [Oper.upon_skip]; exact hfin
      · exact hW.elim
    · split at hW
      · rename_i ob v h1
        refine light ob v ?_ hW.1 hW.2
        cases hfl : vo.fl with
        | false => rw [hfl] at h1; simpa using h1
        | true => rw [hfl] at h1; exact evX_nil hk (by simpa using h1)
      · exact hW.elim

theorem stripOp_some {nt : Nat} {mu : Tmp → Bool} {ops : Array Oper} {fl : Bool} {o : Oper} {v : VOper} (h : stripOp nt mu ops fl o = some v) :
    dstOk nt o.dst = true ∧ v.op = o.op ∧ v.dst = o.dst ∧ ((o.guard = none ∧ v.guard = none) ∨ ∃ j want d, o.guard = some (j, want) ∧ v.guard = some (d, want) ∧ (ops[j]?).bind (·.dst) = some d) := by
  unfold stripOp at h
  split at h
  · simp at h
  rename_i hd
  have hd' : dstOk nt o.dst = true := by simpa using hd
  split at h
  · rename_i hg
    cases h
    exact ⟨hd', rfl, rfl, .inl ⟨hg, rfl⟩⟩
  · rename_i j want hg
    split at h
    · rename_i d hj
      cases h
      exact ⟨hd', rfl, rfl, .inr ⟨j, want, d, hg, rfl, hj⟩⟩
    · simp at h

theorem Rel.name (hr : Rel sz base w0 m nt F ρ env a w) {t : Tmp} {b c : Bool} (hb : look env.s t = some (.d (.bool b))) (hc : b = c) : Rel sz base w0 m nt F ρ (env.put (some t) (.d (.bool c))) a w := by
  subst hc
  refine ⟨hr.st, fun i u hi => ?_, hr.size, hr.defers, hr.le⟩
  simp only [Env.put, look] at hi
  by_cases e : t = i
  · subst e; rw [if_pos rfl] at hi; cases hi; exact hr.slots t _ hb
  · rw [if_neg e] at hi; exact hr.slots i u hi

theorem wStep_sound (hT : tab.checks P = true) (hr : Rel (psz P) base w0 m nt F ρ env a w) {ops : Array Oper} {o : Oper} {mu : Tmp → Bool} {fl : Bool} {v : VOper} (h1 : stripOp nt mu ops fl o = some v) {K : Env → Prop} (hk : LeB kp env.h)
    (hW : wStep P tab kp v K env) {next : Act → World → Prop} {Q : Exit → Act → World → Prop} (hn : ∀ a' w', KC P base w0 m nt F ρ (fun e => LeB kp e.h ∧ K e) a' w' → next a' w') :
    if Region.wanted o (yielded ops a.tmps) then o.wp P a w next Q else next (a.put o.dst undef) w := by
  obtain ⟨hd, hop, hdst, hg⟩ := stripOp_some h1
  have hdt : ∀ t, o.dst = some t → t < nt := by intro t ht; rw [ht] at hd; simpa [dstOk] using hd
  have exec : ∀ {env : Env}, LeB kp env.h → Rel (psz P) base w0 m nt F ρ env a w → wOp P tab kp v K env → o.wp P a w next Q := fun hk hr hw => wOp_sound hT hr hop hdst hd hk hw hn
  have skip : ∀ {env : Env}, LeB kp env.h → Rel (psz P) base w0 m nt F ρ env a w → K (env.put o.dst (.tup [])) → next (a.put o.dst undef) w := fun hk hr hw =>
    hn _ _ ⟨F, ρ, _, Ext.refl _ _ _, hr.put hdt undef_rel, by (cases o.dst <;> exact hk), hw⟩
  unfold wStep at hW
  rcases hg with ⟨hg1, hg2⟩ | ⟨j, want, d, hg1, hg2, hj⟩
  · rw [hg2] at hW
    rw [if_pos (by simp [Region.wanted, hg1])]
    exact exec hk hr hW
  · rw [hg2] at hW
    have hy : yielded ops a.tmps j = match a.tmps[d]? with | some (.bool b) => some b | _ => none := by
      simp only [yielded, hj, Option.bind_some]
      cases a.tmps[d]? with
      | none => rfl
      | some v => cases v <;> rfl
    simp only at hW
    split at hW
    · rename_i b hb
      obtain ⟨cv, h3, h4⟩ := hr.slots d _ hb
      have := h4.bool_inv; subst this
      rw [h3] at hy
      by_cases e : b = want
      · rw [if_pos (by simp [Region.wanted, hg1, hy, e])]
        exact exec (env := env.put (some d) (.d (.bool want))) hk (hr.name hb e) (hW.1 e)
      · rw [if_neg (by simp [Region.wanted, hg1, hy, e])]
        rw [hdst] at hW
        have e' : b = !want := by cases b <;> cases want <;> simp_all
        exact skip (env := env.put (some d) (.d (.bool (!want)))) hk (hr.name hb e') (hW.2 e')
    · rename_i hb
      obtain ⟨cv, h3, h4⟩ := hr.slots d _ hb
      have : cv = .tuple #[] := by
        cases h4 with
        | tup _ vs hs val hv hr => rw [Array.eq_empty_of_size_eq_zero hs]
      subst this
      rw [h3] at hy
      rw [if_neg (by simp [Region.wanted, hg1, hy])]
      rw [hdst] at hW
      exact skip hk hr hW
    · exact hW.elim

theorem wOps_sound (hT : tab.checks P = true) {mu : Tmp → Bool} {ops : Array Oper} {K : Env → Prop} {Q : Exit → Act → World → Prop} : ∀ {l : List Oper} {vl : List VOper} {F : Frz} {ρ : Env0} {env : Env} {a : Act} {w : World},
    stripOps nt mu ops l = some vl → Rel (psz P) base w0 m nt F ρ env a w → LeB kp env.h → wOps P tab kp vl K env → (∀ a' w', KC P base w0 m nt F ρ K a' w' → Q .normal a' w') → wpList P ops Q l a w
  | [], vl, F, ρ, env, a, w, hs, hr, hk, hW, hn => by
    cases hs
    exact hn _ _ ⟨F, ρ, env, Ext.refl _ _ _, hr, hW⟩
  | o :: l, vl, F, ρ, env, a, w, hs, hr, hk, hW, hn => by
    unfold stripOps at hs
    split at hs
    · rename_i v vs h1 h2
      cases hs
      have := wStep_sound (Q := Q) hT hr h1 hk hW (next := wpList P ops Q l) (fun a' w' ⟨F', ρ', env', hx, hr', hk', hK⟩ =>
        wOps_sound hT h2 hr' hk' hK (fun a'' w'' ⟨F'', ρ'', env'', hx', hr'', hK'⟩ => hn _ _ ⟨F'', ρ'', env'', hx.trans hx', hr'', hK'⟩))
      unfold wpList
      split at this
      · rename_i hc; rw [if_pos hc]; exact .inl this
      · rename_i hc; rw [if_neg hc]; exact this
    · simp at hs

/-- The order that Go leaves open makes no difference in a region that passes the look. -/
def OrderOk (P : Program) (tab : Tab) (nt : Nat) (mu : Tmp → Bool) : Prop :=
  ∀ (id : Nat) (ops : Array Oper) (vl : List VOper) (base : Nat) (w0 : World) (m : Nat) (F : Frz) (ρ : Env0) (env : Env) (a : Act) (w : World) (K : Env → Prop) (Q : Exit → Act → World → Prop) (kp : List Blk),
    drawList nt mu ops = some vl → Rel (psz P) base w0 m nt F ρ env a w → LeB kp env.h → wOps P tab kp vl K env → (∀ a' w', KC P base w0 m nt F ρ K a' w' → Q .normal a' w') →
    (Code.region id ops true).wp P Q a w

theorem least_of {p : Nat → Prop} (h : ∃ k, p k) : ∃ k, p k ∧ ∀ j, p j → k ≤ j := by
  obtain ⟨k, hk⟩ := h
  induction k using Nat.strongRecOn with
  | _ k ih =>
    by_cases hx : ∃ j, j < k ∧ p j
    · obtain ⟨j, hj, hp⟩ := hx
      exact ih j hj hp
    · refine ⟨k, hk, fun j hj => ?_⟩
      rcases Nat.lt_or_ge j k with h | h
      · exact absurd ⟨j, h, hj⟩ hx
      · exact h

theorem W_sound (hT : tab.checks P = true) {mu : Tmp → Bool} (hok : OrderOk P tab nt mu) : ∀ (c : Code) {Q : Exit → Env → Prop} {F : Frz} {ρ : Env0} {env : Env} {a : Act} {w : World} {R : Exit → Act → World → Prop},
    W P tab m nt (strip nt mu c) Q env → Rel (psz P) base w0 m nt F ρ env a w → (∀ ex a' w', QC P base w0 m nt F ρ Q ex a' w' → R ex a' w') → c.wp P R a w := by
  intro c
  induction c with
  | skip => exact fun hW hr hn => wp_skip (hn _ _ _ ⟨_, _, _, Ext.refl _ _ _, hr, hW⟩)
  | region id ops draw =>
    intro Q F ρ env a w R hW hr hn
    simp only [strip] at hW
    split at hW
    · rename_i vs hs
      obtain ⟨kp, hkp, hW⟩ : ∃ kp, LeB kp env.h ∧ wOps P tab kp vs (Q .normal) env := by
        simp only [W] at hW
        split at hW
        · exact hW
        · exact ⟨[], LeB.nil _, hW⟩
      cases draw with
      | false => exact wp_region_list (wOps_sound hT (by simpa using hs) hr hkp hW (fun a' w' ⟨F', ρ', env', hx, hr', hK⟩ => hn _ _ _ ⟨F', ρ', env', hx, hr', hK⟩))
      | true => exact hok id ops vs base w0 m F ρ env a w _ _ _ (by simpa using hs) hr hkp hW (fun a' w' ⟨F', ρ', env', hx, hr', hK⟩ => hn _ _ _ ⟨F', ρ', env', hx, hr', hK⟩)
    · exact hW.elim
  | seq x y ihx ihy =>
    intro Q F ρ env a w R hW hr hn
    refine wp_seq (ihx hW hr ?_)
    rintro ex a' w' ⟨F', ρ', env', hx, hr', hq⟩
    cases ex with
    | normal => exact ihy hq hr' (fun ex a'' w'' ⟨F'', ρ'', env'', hx', hr'', hq'⟩ => hn _ _ _ ⟨F'', ρ'', env'', hx.trans hx', hr'', hq'⟩)
    | _ => exact hn _ _ _ ⟨F', ρ', env', hx, hr', hq⟩
  | cond cnd x y ihx ihy =>
    intro Q F ρ env a w R hW hr hn
    simp only [strip, W] at hW
    split at hW
    · rename_i b hb
      have hb' := (ev_sound hr hb).bool_inv
      cases b with
      | true => exact wp_cond_true hb' (ihx (hW.1 rfl) hr hn)
      | false => exact wp_cond_false hb' (ihy (hW.2 rfl) hr hn)
    · rename_i p hb
      have hv := ev_sound hr hb
      generalize he : a.eval cnd = cv at hv
      cases hv with
      | @pb _ b hp =>
        cases b with
        | true => exact wp_cond_true he (ihx (hW.1 hp) hr hn)
        | false => exact wp_cond_false he (ihy (hW.2 hp) hr hn)
    · exact hW.elim
  | block id b ih =>
    intro Q F ρ env a w R hW hr hn
    refine wp_block (ih hW hr ?_)
    rintro ex a' w' ⟨F', ρ', env', hx, hr', hq⟩
    cases ex with
    | exit id' =>
      simp only [blockQ] at hq
      simp only [Exit.inBlock]
      split
      · rename_i e; rw [if_pos e] at hq; exact hn _ _ _ ⟨F', ρ', env', hx, hr', hq⟩
      · rename_i e; rw [if_neg e] at hq; exact hn _ _ _ ⟨F', ρ', env', hx, hr', hq⟩
    | _ => exact hn _ _ _ ⟨F', ρ', env', hx, hr', hq⟩
  | loop b ih =>
    intro Q F ρ env a w R hW hr hn
    simp only [strip, W] at hW
    obtain ⟨ι, inv, μ, i0, hs, hround⟩ := hW
    let I : Nat → Act → World → Prop := fun k a' w' => ∃ i F' ρ', μ i = k ∧ Ext m F ρ F' ρ' ∧ Rel (psz P) base w0 m nt F' ρ' (inv i) a' w'
    let μ' : Act → World → Nat := fun a' w' => open Classical in if h : ∃ k, I k a' w' then (least_of h).choose else 0
    have hμ : ∀ k a' w', I k a' w' → I (μ' a' w') a' w' ∧ μ' a' w' ≤ k := by
      intro k a' w' hI
      have hex : ∃ k, I k a' w' := ⟨k, hI⟩
      have e : μ' a' w' = (least_of hex).choose := by
        simp only [μ']
        rw [dif_pos hex]
      rw [e]
      exact ⟨(least_of hex).choose_spec.1, (least_of hex).choose_spec.2 k hI⟩
    refine wp_loop (fun a' w' => ∃ k, I k a' w') μ' ?_ ?_
    · obtain ⟨F', ρ', hx, hr'⟩ := hs base w0 F ρ a w hr
      exact ⟨_, i0, F', ρ', rfl, hx, hr'⟩
    · rintro a' w' ⟨k, hI⟩
      obtain ⟨⟨i, F', ρ', hk, hx, hr'⟩, _⟩ := hμ k a' w' hI
      refine ih (hround i) hr' ?_
      rintro ex a'' w'' ⟨F'', ρ'', env'', hx', hr'', hq⟩
      cases ex with
      | normal =>
        obtain ⟨i', hsh, hlt⟩ := hq
        obtain ⟨F3, ρ3, hx3, hr3⟩ := hsh base w0 F'' ρ'' a'' w'' hr''
        have hI' : I (μ i') a'' w'' := ⟨i', F3, ρ3, rfl, (hx.trans hx').trans hx3, hr3⟩
        have := (hμ _ a'' w'' hI').2
        exact ⟨⟨_, hI'⟩, by omega⟩
      | _ => exact hn _ _ _ ⟨F'', ρ'', env'', hx.trans hx', hr'', hq⟩
  | exit id => exact fun hW hr hn => wp_exit (hn _ _ _ ⟨_, _, _, Ext.refl _ _ _, hr, hW⟩)
  | ret => exact fun hW hr hn => wp_ret (hn _ _ _ ⟨_, _, _, Ext.refl _ _ _, hr, hW⟩)
  | _ => intro Q F ρ env a w R hW; exact hW.elim

end Go.Vm
