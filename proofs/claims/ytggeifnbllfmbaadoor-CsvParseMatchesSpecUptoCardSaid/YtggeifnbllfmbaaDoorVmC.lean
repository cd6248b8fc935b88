/- A function's facts under one name, and the words for the proofs over W. -/
import Derived.Test.YtggeifnbllfmbaaDoorVmO
set_option linter.unusedSimpArgs false
namespace Go.Vm

/-- What the proofs need of a function of the program. -/
def FnIs (P : Program) (f : FuncId) (nt : Nat) (mu : Tmp → Bool) (rs : List ResultVar) (vc : VC) : Prop :=
  ∃ fn, P.funcs[f]? = some fn ∧ (fn.name == "runtime.NumGoroutine") = false ∧ fn.ntmps = nt ∧ fn.results.toList = rs ∧ fn.body.map (strip nt mu) = some vc

/-- A program whose types the table tells. -/
structure Pok (P : Program) (tab : Tab) : Prop where
  types : tab.checks P = true
  mixed : P.follows .mixedOrders = true

variable {P : Program} {tab : Tab}

theorem callW (hP : Pok P tab) {f : FuncId} {nt : Nat} {mu : Tmp → Bool} {rs : List ResultVar} {vc : VC} (hf : FnIs P f nt mu rs vc) {args : List AV} {h : List Blk} {Q : AV → List Blk → Prop} (hlen : args.length ≤ nt)
    (hW : HOk h → W P tab h.length nt vc (retW P tab h.length rs Q) ⟨argSlots 0 args, h⟩) : CallW P f args h Q := by
  obtain ⟨fn, h1, h2, h3, h4, h5⟩ := hf
  cases hb : fn.body with
  | none => rw [hb] at h5; cases h5
  | some c =>
    rw [hb] at h5
    simp only [Option.map_some, Option.some.injEq] at h5
    exact callW_of_body hP.types (order_ok hP.types hP.mixed) h1 hb h2 h3 h5 hlen (by rw [h4]; exact hW)

/-! Ways that part, and calls: words that simp does not look behind. -/

def condV (P : Program) (tab : Tab) (m nt : Nat) (b : Bool) (x y : VC) (Q : Exit → Env → Prop) (env : Env) : Prop := (b = true → W P tab m nt x Q env) ∧ (b = false → W P tab m nt y Q env)
def pbV (P : Program) (tab : Tab) (m nt : Nat) (p : Bool → Prop) (x y : VC) (Q : Exit → Env → Prop) (env : Env) : Prop := (p true → W P tab m nt x Q env) ∧ (p false → W P tab m nt y Q env)
def guardV (P : Program) (tab : Tab) (kp : List Blk) (b want : Bool) (t : Tmp) (o : VOper) (K : Env → Prop) (env : Env) : Prop :=
  (b = want → wOp P tab kp o K (env.put (some t) (.d (.bool want)))) ∧ (b = !want → K ((env.put (some t) (.d (.bool (!want)))).put o.dst (.tup [])))
/-- A region in which something that floats reads memory: what it may read is to be named. -/
def regV (P : Program) (tab : Tab) (ops : List VOper) (K : Env → Prop) (env : Env) : Prop := ∃ kp, LeB kp env.h ∧ wOps P tab kp ops K env
theorem regV_all {P : Program} {tab : Tab} {ops : List VOper} {K : Env → Prop} {env : Env} (h : wOps P tab env.h ops K env) : regV P tab ops K env := ⟨_, LeB.refl _, h⟩
theorem regV_at {P : Program} {tab : Tab} {ops : List VOper} {K : Env → Prop} {env : Env} (kp : List Blk) (hk : LeB kp env.h) (h : wOps P tab kp ops K env) : regV P tab ops K env := ⟨_, hk, h⟩
theorem regV_nil {P : Program} {tab : Tab} {ops : List VOper} {K : Env → Prop} {env : Env} (h : wOps P tab [] ops K env) : regV P tab ops K env := ⟨_, LeB.nil _, h⟩
def callV (P : Program) (g : FuncId) (vs : List AV) (kp : List Blk) (d : Option Tmp) (K : Env → Prop) (env : Env) : Prop :=
  CallW P g vs env.h fun v h' => LeB kp h' ∧ K (Env.put ⟨env.s, h'⟩ d v)

section
variable {m nt : Nat} {Q : Exit → Env → Prop} {env : Env} {x y : VC} {K : Env → Prop} {o : VOper} {kp : List Blk} {b want : Bool} {t : Tmp}
@[simp] theorem condV_true (h : b = true) : condV P tab m nt b x y Q env = W P tab m nt x Q env := by subst h; simp [condV]
@[simp] theorem condV_false (h : b = false) : condV P tab m nt b x y Q env = W P tab m nt y Q env := by subst h; simp [condV]
@[simp] theorem guardV_yes (h : b = want) : guardV P tab kp b want t o K env = wOp P tab kp o K (env.put (some t) (.d (.bool want))) := by subst h; cases b <;> simp [guardV]
@[simp] theorem guardV_no (h : b = !want) : guardV P tab kp b want t o K env = K ((env.put (some t) (.d (.bool (!want)))).put o.dst (.tup [])) := by subst h; cases want <;> simp [guardV]
theorem condV_of {p : Prop} [Decidable p] (h1 : p → W P tab m nt x Q env) (h2 : ¬ p → W P tab m nt y Q env) : condV P tab m nt (decide p) x y Q env := ⟨fun h => h1 (of_decide_eq_true h), fun h => h2 (of_decide_eq_false h)⟩
theorem condV_not {p : Prop} [Decidable p] (h1 : ¬ p → W P tab m nt x Q env) (h2 : p → W P tab m nt y Q env) : condV P tab m nt (!decide p) x y Q env := ⟨fun h => h1 (by simpa using h), fun h => h2 (by simpa using h)⟩
theorem condV_b (h1 : b = true → W P tab m nt x Q env) (h2 : b = false → W P tab m nt y Q env) : condV P tab m nt b x y Q env := ⟨h1, h2⟩
theorem pbV_of {p : Bool → Prop} (h1 : p true → W P tab m nt x Q env) (h2 : p false → W P tab m nt y Q env) : pbV P tab m nt p x y Q env := ⟨h1, h2⟩

theorem wStep_eq : wStep P tab kp o K env = (match o.guard with
    | none => wOp P tab kp o K env
    | some (t, want) => match look env.s t with
      | some (.d (.bool b)) => guardV P tab kp b want t o K env
      | some (.tup []) => K (env.put o.dst (.tup []))
      | _ => False) := rfl

@[simp] theorem wOps_nil : wOps P tab kp [] K env = K env := rfl
@[simp] theorem wOps_cons {r : List VOper} : wOps P tab kp (o :: r) K env = (match o.guard with
    | none => wOp P tab kp o (wOps P tab kp r K) env
    | some (t, want) => match look env.s t with
      | some (.d (.bool b)) => guardV P tab kp b want t o (wOps P tab kp r K) env
      | some (.tup []) => wOps P tab kp r K (env.put o.dst (.tup []))
      | _ => False) := rfl

@[simp] theorem wOp_eq : wOp P tab kp o K env = (match o.op with
  | .call { callee := .value f, args := args, argTypes := _ } => match ev env f, args.toList.mapM (ev env) with
    | some (.d (.fn g)), some vs => callV P g vs kp o.dst K env
    | some (.clo g cs), some vs => callV P g (vs ++ cs) kp o.dst K env
    | _, _ => False
  | op => if isDet o.mu op then (match evH tab o.mu env op with
      | some (ob, h', v) => ob ∧ LeB kp h' ∧ K (Env.put ⟨env.s, h'⟩ o.dst v)
      | none => False)
    else (match evX tab (if o.fl then ⟨env.s, kp⟩ else env) op with
      | some (ob, v) => ob ∧ K (env.put o.dst v)
      | none => False)) := rfl
end

section
variable {m nt : Nat} {Q : Exit → Env → Prop} {env : Env}
@[simp] theorem W_skip : W P tab m nt .skip Q env = Q .normal env := rfl
@[simp] theorem W_reg {ops : List VOper} : W P tab m nt (.reg ops) Q env = if anyReads ops then regV P tab ops (Q .normal) env else wOps P tab [] ops (Q .normal) env := rfl
@[simp] theorem W_seq {a b : VC} : W P tab m nt (.seq a b) Q env = W P tab m nt a (thenQ (W P tab m nt b Q) Q) env := rfl
@[simp] theorem W_block {id : Nat} {b : VC} : W P tab m nt (.block id b) Q env = W P tab m nt b (blockQ id Q) env := rfl
@[simp] theorem W_exit {id : Nat} : W P tab m nt (.exit id) Q env = Q (.exit id) env := rfl
@[simp] theorem W_ret : W P tab m nt .ret Q env = Q .ret env := rfl
@[simp] theorem W_cond {c : Operand} {x y : VC} : W P tab m nt (.cond c x y) Q env = (match ev env c with
    | some (.d (.bool b)) => condV P tab m nt b x y Q env
    | some (.pb p) => pbV P tab m nt p x y Q env
    | _ => False) := rfl
@[simp] theorem thenQ_n {N : Env → Prop} : thenQ N Q .normal env = N env := rfl
@[simp] theorem thenQ_r {N : Env → Prop} : thenQ N Q .ret env = Q .ret env := rfl
@[simp] theorem thenQ_e {N : Env → Prop} {i : Nat} : thenQ N Q (.exit i) env = Q (.exit i) env := rfl
@[simp] theorem blockQ_n {i : Nat} : blockQ i Q .normal env = Q .normal env := rfl
@[simp] theorem blockQ_r {i : Nat} : blockQ i Q .ret env = Q .ret env := rfl
@[simp] theorem blockQ_e {i j : Nat} : blockQ i Q (.exit j) env = if j = i then Q .normal env else Q (.exit j) env := rfl

theorem W_loop {ι : Type} (I : ι → Prop) (inv : ι → Env) (μ : ι → Nat) (i : ι) {b : VC} (hi : I i) (h1 : Shift P m nt env (inv i))
    (h2 : ∀ i, I i → W P tab m nt b (thenQ (fun env' => ∃ i', I i' ∧ Shift P m nt env' (inv i') ∧ μ i' < μ i) Q) (inv i)) : W P tab m nt (.loop b) Q env :=
  ⟨{ i // I i }, fun i => inv i.1, fun i => μ i.1, ⟨i, hi⟩, h1, fun i => by
    have := h2 i.1 i.2
    have e : (fun env' => ∃ i', I i' ∧ Shift P m nt env' (inv i') ∧ μ i' < μ i.1) = fun env' => ∃ i' : { i // I i }, Shift P m nt env' (inv i'.1) ∧ μ i'.1 < μ i.1 := by
      funext env'
      apply propext
      constructor
      · rintro ⟨i', a, b, c⟩; exact ⟨⟨i', a⟩, b, c⟩
      · rintro ⟨⟨i', a⟩, b, c⟩; exact ⟨i', a, b, c⟩
    rw [e] at this
    exact this⟩

theorem Shift.slots {s s' : Slots} {h : List Blk} (hs : ∀ kv ∈ s', ∃ v, look s kv.1 = some v ∧ Sub v kv.2) : Shift P m nt ⟨s, h⟩ ⟨s', h⟩ := by
  intro base w0 F ρ a w hr
  refine ⟨F, ρ, Ext.refl _ _ _, hr.st, fun i v hi => ?_, hr.size, hr.defers, hr.le⟩
  obtain ⟨u, h1, h2⟩ := hs _ (look_mem hi)
  obtain ⟨cv, h4, h5⟩ := hr.slots i u h1
  exact ⟨cv, h4, h2.rel h5⟩
end

@[simp] theorem sub_refl (x : AV) : Sub x x := .refl x
@[simp] theorem sub_unk (x : AV) : Sub x .unk := .unk x
@[simp] theorem sub_nil (e : TypeId) : Sub (.d .nilsl) (.d (.sl e [])) := .nil e
@[simp] theorem sub_bl (b : Nat) (e : TypeId) (xs : List D) : Sub (.bl b e xs) (.d (.sl e xs)) := .bl b e xs

theorem rshift_d {x : D} {h g : List Blk} (hok : HOk h) : RShift P h.length (.d x) (h ++ g) (.d x) h := RShift.drop (.refl _) (.d _) hok (Nat.le_refl _)
@[simp] theorem rshift_same {x : AV} {h : List Blk} : RShift P h.length x h x h := fun _ _ F ρ _ _ hst hv => ⟨F, ρ, Ext.refl _ _ _, hst, hv, Nat.le_refl _⟩

@[congr] theorem CallW_congr {f : FuncId} {args args' : List AV} {h h' : List Blk} {Q : AV → List Blk → Prop} (h1 : args = args') (h2 : h = h') : CallW P f args h Q = CallW P f args' h' Q := by rw [h1, h2]

/-- A call that leaves the blocks as they are. -/
def CallP (P : Program) (f : FuncId) (args : List AV) (h : List Blk) (r : AV) : Prop := CallW P f args h fun x h' => x = r ∧ h' = h

theorem CallP.use {f : FuncId} {args : List AV} {h : List Blk} {r : AV} {Q : AV → List Blk → Prop} (hc : CallP P f args h r) (hq : Q r h) : CallW P f args h Q :=
  CallW.mono hc (by rintro _ _ ⟨rfl, rfl⟩; exact hq)

@[simp] theorem leb_nil (h : List Blk) : LeB [] h ↔ True := Iff.rfl
@[simp] theorem leb_refl (h : List Blk) : LeB h h ↔ True := ⟨fun _ => trivial, fun _ => LeB.refl h⟩
@[simp] theorem leb_app : ∀ (h g : List Blk), LeB h (h ++ g) ↔ True
  | [], _ => Iff.rfl
  | x :: h, g => ⟨fun _ => trivial, fun _ => ⟨.inr rfl, (leb_app h g).mpr trivial⟩⟩
@[simp] theorem leb_app2 : ∀ (h g g' : List Blk), LeB (h ++ g) (h ++ g') ↔ LeB g g'
  | [], _, _ => Iff.rfl
  | x :: h, g, g' => ⟨fun hh => (leb_app2 h g g').mp hh.2, fun hh => ⟨.inr rfl, (leb_app2 h g g').mpr hh⟩⟩
@[simp] theorem leb_app0 (h g : List Blk) : LeB (h ++ g) h ↔ g = [] := by
  have := leb_app2 h g []
  rw [List.append_nil] at this
  rw [this]
  cases g <;> simp [LeB]
@[simp] theorem leb_cons (x y : Blk) (g g' : List Blk) : LeB (x :: g) (y :: g') ↔ (x = .gone ∨ x = y) ∧ LeB g g' := Iff.rfl

@[simp] theorem dcells_agg (cs : List D) : D.cells (.agg cs) = cs := rfl
@[simp] theorem dcells_bool (b : Bool) : D.cells (.bool b) = [.bool b] := rfl
@[simp] theorem dcells_int (k : IntKind) (n : Int) : D.cells (.int k n) = [.int k n] := rfl
@[simp] theorem dcells_str (s : List UInt8) : D.cells (.str s) = [.str s] := rfl
@[simp] theorem dcells_sl (e : TypeId) (xs : List D) : D.cells (.sl e xs) = [.sl e xs] := rfl
@[simp] theorem dcells_nilsl : D.cells .nilsl = [.nilsl] := rfl
@[simp] theorem dcells_nilptr : D.cells .nilptr = [.nilptr] := rfl
@[simp] theorem dcells_nilfn : D.cells .nilfn = [.nilfn] := rfl
@[simp] theorem dcells_nilmap : D.cells .nilmap = [.nilmap] := rfl
@[simp] theorem dcells_nilif : D.cells .nilif = [.nilif] := rfl
@[simp] theorem dcells_fn (f : FuncId) : D.cells (.fn f) = [.fn f] := rfl
@[simp] theorem dcells_ifc (t : TypeId) (x : D) : D.cells (.ifc t x) = [.ifc t x] := rfl

theorem CallP.useV {f : FuncId} {args : List AV} {kp : List Blk} {d : Option Tmp} {K : Env → Prop} {env : Env} {r : AV} (hc : CallP P f args env.h r) (hq : LeB kp env.h ∧ K (Env.put ⟨env.s, env.h⟩ d r)) : callV P f args kp d K env :=
  CallW.mono hc (by rintro _ _ ⟨rfl, rfl⟩; exact hq)
theorem callV_of {f : FuncId} {args : List AV} {kp : List Blk} {d : Option Tmp} {K : Env → Prop} {env : Env} {Q : AV → List Blk → Prop} (hc : CallW P f args env.h Q) (hq : ∀ v h', Q v h' → LeB kp h' ∧ K (Env.put ⟨env.s, h'⟩ d v)) : callV P f args kp d K env := CallW.mono hc hq

@[simp low] theorem binAV_eq {tab : Tab} {t : TypeId} {op : BinOp} {x y : AV} : binAV tab t op x y = (match x, y with
  | .d (.int k a), .d (.int k' b) =>
    match op with
    | .shl => some (0 ≤ b, .d (.int k (k.wrap (a * 2 ^ (min b.toNat k.bits)))))
    | .shr => some (0 ≤ b, .d (.int k (a.fdiv (2 ^ (min b.toNat k.bits)))))
    | _ => if k = k' then intBin op k a b else none
  | .d (.str a), .d (.str b) => strBin op a b
  | x, y => match op with
    | .eql => eqBin tab t false x y
    | .neq => eqBin tab t true x y
    | _ => none) := rfl

@[simp low] theorem fieldAV_eq {tab : Tab} {t : TypeId} {a : AV} {f : Nat} : fieldAV tab t a f = (match fieldOf tab t f, a with
  | some (o, ti), .d (.agg cs) => some (o + ti.size ≤ cs.length, .d (subD ti.agg ti.size o (.agg cs)))
  | some (o, ti), .agg cs => some (o + ti.size ≤ cs.length, subAV ti.agg ti.size o (.agg cs))
  | _, _ => none) := rfl

attribute [simp] anyReads flReads isDet evX evC bytesAV nilStr bytesOk isU8 byteOf evB evS plOf sizesOf arrPl setParts evH srcOf appAV freshRow partsAV fillAV isSrc evL ev look argSlots Env.put constAV intBin strBin unAV retW resAV oneOf loadAV fieldAddrAV fieldOf indexAddrAV indexAV asI slOf arrOf isStr
  bnd sliceAV AV.asData lenAV setCells minmax lookupAV mapFind mapPut keyOk mapOf keyEq subD subAV AV.pack AV.allD AV.cells okParts AV.leaf D.leaf okCells putAV zeroAV Tab.get TI.agg eqBin isNilC nilness nilMaybe

end Go.Vm
