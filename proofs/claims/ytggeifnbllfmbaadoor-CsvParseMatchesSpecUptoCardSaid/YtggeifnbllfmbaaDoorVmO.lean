/- Regions that draw their order: every order comes to what the order that is looked at comes to. -/
import Derived.Test.YtggeifnbllfmbaaDoorVmB
import Derived.Orders
set_option linter.unusedSimpArgs false
namespace Go.Vm
variable {mu : Tmp → Bool} {P : Program} {base : Nat} {w0 : World} {m nt : Nat} {F : Frz} {ρ : Env0} {env : Env} {a : Act} {w : World} {n : Nat} {tab : Tab} {K K' : Env → Prop} {kp : List Blk}

def putD (d : Option (Tmp × AV)) (e : Env) : Env := match d with | some (t, u) => ⟨(t, u) :: e.s, e.h⟩ | none => e

/-- e1 is e2 with one slot more (or none), as far as look tells. -/
def Rd (d : Option (Tmp × AV)) (e1 e2 : Env) : Prop := e1.h = e2.h ∧ ∀ t, look e1.s t = look (putD d e2).s t

def VOper.ment (o : VOper) : List Tmp :=
  (o.op.operands.toList.filterMap fun | .tmp t => some t | _ => none) ++ o.dst.toList ++ (match o.guard with | some (t, _) => [t] | none => [])

def Free (d : Option (Tmp × AV)) (o : VOper) : Prop := ∀ t u, d = some (t, u) → t ∉ o.ment

theorem Rd.look {d : Option (Tmp × AV)} {e1 e2 : Env} (h : Rd d e1 e2) {o : VOper} (hf : Free d o) {t : Tmp} (ht : t ∈ o.ment) : look e1.s t = look e2.s t := by
  rw [h.2 t]
  cases d with
  | none => rfl
  | some tu =>
    obtain ⟨t', u⟩ := tu
    simp only [putD, Vm.look]
    rw [if_neg]
    intro e
    subst e
    exact hf _ _ rfl ht

theorem ment_op {o : VOper} {t : Tmp} (h : Operand.tmp t ∈ o.op.operands) : t ∈ o.ment := by
  unfold VOper.ment
  refine List.mem_append_left _ (List.mem_append_left _ (List.mem_filterMap.mpr ⟨.tmp t, by simpa using h, rfl⟩))
theorem ment_dst {o : VOper} {t : Tmp} (h : o.dst = some t) : t ∈ o.ment := by
  unfold VOper.ment
  rw [h]; simp
theorem ment_guard {o : VOper} {t : Tmp} {b : Bool} (h : o.guard = some (t, b)) : t ∈ o.ment := by
  unfold VOper.ment
  rw [h]; simp

theorem ev_congr {e1 e2 : Env} {x : Operand} (h : ∀ t, x = .tmp t → look e1.s t = look e2.s t) : ev e1 x = ev e2 x := by
  cases x with
  | tmp t => exact h t rfl
  | _ => rfl

theorem Rd.ev {d : Option (Tmp × AV)} {e1 e2 : Env} (h : Rd d e1 e2) {o : VOper} (hf : Free d o) {x : Operand} (hx : x ∈ o.op.operands) : ev e1 x = ev e2 x :=
  ev_congr fun t e => h.look hf (ment_op (by rw [← e]; exact hx))

theorem mapM_congr {e1 e2 : Env} : ∀ {xs : List Operand}, (∀ x ∈ xs, ev e1 x = ev e2 x) → xs.mapM (ev e1) = xs.mapM (ev e2)
  | [], _ => rfl
  | x :: xs, h => by
    simp only [List.mapM_cons]
    rw [h x (by simp), mapM_congr (fun y hy => h y (by simp [hy]))]

theorem bnd_congr {e1 e2 : Env} {d : Int} {o : Option Operand} (h : ∀ x, o = some x → ev e1 x = ev e2 x) : bnd e1 d o = bnd e2 d o := by
  cases o with
  | none => rfl
  | some x => simp only [bnd, h x rfl]

theorem evL_congr {e1 e2 : Env} {op : Op} (h : ∀ x ∈ op.operands, ev e1 x = ev e2 x) (hh : e1.h = e2.h) : evL tab e1 op = evL tab e2 op := by
  cases op with
  | move x | assign x => simp only [evL]; rw [h x (by simp [Op.operands])]
  | pick c x y => simp only [evL]; rw [h c (by simp [Op.operands]), h x (by simp [Op.operands]), h y (by simp [Op.operands])]
  | binOp op t x y yt => simp only [evL]; rw [h x (by simp [Op.operands]), h y (by simp [Op.operands])]
  | unOp op t x => simp only [evL]; rw [h x (by simp [Op.operands])]
  | convert s d x => simp only [evL]; rw [h x (by simp [Op.operands])]
  | load t x => simp only [evL]; rw [h x (by simp [Op.operands]), hh]
  | fieldAddr t x f => simp only [evL]; rw [h x (by simp [Op.operands])]
  | field t x f => simp only [evL]; rw [h x (by simp [Op.operands])]
  | indexAddr t x i => simp only [evL]; rw [h x (by simp [Op.operands]), h i (by simp [Op.operands])]
  | index t x i => simp only [evL]; rw [h x (by simp [Op.operands]), h i (by simp [Op.operands])]
  | extract x i => simp only [evL]; rw [h x (by simp [Op.operands])]
  | lookup t m k ok => simp only [evL]; rw [h m (by simp [Op.operands]), h k (by simp [Op.operands]), hh]
  | nilCheck x => simp only [evL]; rw [h x (by simp [Op.operands])]
  | slice t x lo hi mx =>
    have hlo : ∀ d, bnd e1 d lo = bnd e2 d lo := fun d => bnd_congr fun y e => h y (by subst e; simp [Op.operands])
    have hhi : ∀ d, bnd e1 d hi = bnd e2 d hi := fun d => bnd_congr fun y e => h y (by subst e; simp [Op.operands])
    have hhi' : (hi.bind fun y => (ev e1 y).bind asI) = hi.bind fun y => (ev e2 y).bind asI := by
      cases hi with
      | none => rfl
      | some y => simp only [Option.bind_some]; rw [h y (by simp [Op.operands])]
    simp only [evL]
    rw [h x (by simp [Op.operands])]
    cases ev e2 x with
    | none => rfl
    | some v =>
      simp only [sliceAV, hlo, hhi, hhi']
      cases mx with
      | none => rfl
      | some mo => simp only []; rw [h mo (by simp [Op.operands])]
  | makeFunc fn first caps =>
    cases fn with
    | func f =>
      simp only [evL]
      rw [mapM_congr (xs := caps.toList) (fun x hx => h x (by simp [Op.operands]; exact .inr (by simpa using hx)))]
    | _ => rfl
  | call c =>
    obtain ⟨callee, args, ts⟩ := c
    have ha : ∀ x ∈ args.toList, ev e1 x = ev e2 x := fun x hx => h x (by simp [Op.operands, Call.operands]; exact .inr (by simpa using hx))
    cases callee with
    | builtin b =>
      cases b with
      | len =>
        simp only [evL]
        split
        · rename_i x t hx ht
          rw [ha x (by rw [hx]; simp)]
        · rfl
      | cap =>
        simp only [evL]
        split
        · rename_i x t hx ht
          rw [ha x (by rw [hx]; simp)]
        · rfl
      | min => simp only [evL]; rw [mapM_congr ha]
      | max => simp only [evL]; rw [mapM_congr ha]
      | _ => rfl
    | _ => rfl
  | _ => rfl

theorem partsAV_congr {e1 e2 : Env} : ∀ {ps : List (Nat × Operand)}, (∀ p ∈ ps, ev e1 p.2 = ev e2 p.2) → partsAV e1 ps = partsAV e2 ps
  | [], _ => rfl
  | (i, x) :: ps, h => by
    simp only [partsAV]
    rw [h (i, x) (by simp), partsAV_congr (fun p hp => h p (by simp [hp]))]

theorem evX_congr {e1 e2 : Env} {op : Op} (h : ∀ x ∈ op.operands, ev e1 x = ev e2 x) (hh : e1.h = e2.h) : evX tab e1 op = evX tab e2 op := by
  unfold evX
  split
  · rename_i s' d' x'
    have hc : evC tab e1 s' d' x' = evC tab e2 s' d' x' := by
      unfold evC
      rw [h x' (by simp [Op.operands])]
    rw [hc, evL_congr h hh]
  · rename_i t len parts
    unfold evB
    rw [partsAV_congr (ps := parts.toList) (fun p hp => h p.2 (by
      simp only [Op.operands, List.mem_toArray, List.mem_map]
      exact ⟨p, hp, rfl⟩))]
  · rename_i t parts
    unfold evS
    rw [partsAV_congr (ps := parts.toList) (fun p hp => h p.2 (by
      simp only [Op.operands, List.mem_toArray, List.mem_map]
      exact ⟨p, hp, rfl⟩))]
  · exact evL_congr h hh

def VOper.envOf (kp : List Blk) (o : VOper) (env : Env) : Env := if o.fl then ⟨env.s, kp⟩ else env

theorem heavy_cases {b : Bool} {op : Op} (h : isHeavy b op = false) : isDet b op = false ∧ isCall op = false := by
  simpa [isHeavy] using h

theorem wOp_light {o : VOper} (hl : isHeavy o.mu o.op = false) : wOp P tab kp o K env = (match evX tab (o.envOf kp env) o.op with | some (ob, v) => ob ∧ K (env.put o.dst v) | none => False) := by
  obtain ⟨h1, h2⟩ := heavy_cases hl
  unfold wOp
  split
  · rename_i he; rw [he] at h2; simp [isCall] at h2
  · rw [if_neg (by rw [h1]; simp)]
    rfl

theorem wOp_det {o : VOper} (hd : isDet o.mu o.op = true) : wOp P tab kp o K env = (match evH tab o.mu env o.op with | some (ob, h', v) => ob ∧ LeB kp h' ∧ K (Env.put ⟨env.s, h'⟩ o.dst v) | none => False) := by
  unfold wOp
  split
  · rename_i he; rw [he] at hd; simp [isDet] at hd
  · rw [if_pos hd]
    rfl

theorem evH_congr {e1 e2 : Env} {b : Bool} {op : Op} (h : ∀ x ∈ op.operands, ev e1 x = ev e2 x) (hh : e1.h = e2.h) : evH tab b e1 op = evH tab b e2 op := by
  cases op with
  | alloc t => simp only [evH]; rw [hh]
  | box t x => simp only [evH]; rw [h x (by simp [Op.operands]), hh]
  | store t p x => simp only [evH]; rw [h p (by simp [Op.operands]), h x (by simp [Op.operands]), hh]
  | buildSlice t len parts =>
    simp only [evH]
    rw [partsAV_congr (ps := parts.toList) (fun p hp => h p.2 (by
      simp only [Op.operands, List.mem_toArray, List.mem_map]
      exact ⟨p, hp, rfl⟩)), hh]
  | makeSlice t l c => simp only [evH]; rw [h l (by simp [Op.operands]), h c (by simp [Op.operands]), hh]
  | makeMap t r => cases r with
    | none => simp only [evH]; rw [hh]
    | some x => rfl
  | mapUpdate t m k x => simp only [evH]; rw [h m (by simp [Op.operands]), h k (by simp [Op.operands]), h x (by simp [Op.operands]), hh]
  | insert t m k x => simp only [evH]; rw [h m (by simp [Op.operands]), h k (by simp [Op.operands]), h x (by simp [Op.operands]), hh]
  | call c =>
    obtain ⟨callee, args, ts⟩ := c
    have ha : ∀ x ∈ args.toList, ev e1 x = ev e2 x := fun x hx => h x (by simp [Op.operands, Call.operands]; exact .inr (by simpa using hx))
    cases callee with
    | builtin b =>
      cases b with
      | append =>
        simp only [evH]
        split
        · rename_i s x t t2 hx ht
          rw [ha s (by rw [hx]; simp), ha x (by rw [hx]; simp), hh]
        · rfl
      | _ => rfl
    | _ => rfl
  | move x => simp only [evH]; rw [h x (by simp [Op.operands]), hh]
  | convert s d x => simp only [evH]; rw [h x (by simp [Op.operands]), hh]
  | _ => rfl

theorem Rd.put {d : Option (Tmp × AV)} {e1 e2 : Env} (h : Rd d e1 e2) {h' : List Blk} {t : Option Tmp} {v : AV} (hd : ∀ t' u, d = some (t', u) → t ≠ some t') :
    Rd d (Env.put ⟨e1.s, h'⟩ t v) (Env.put ⟨e2.s, h'⟩ t v) := by
  refine ⟨by cases t <;> rfl, fun i => ?_⟩
  cases t with
  | none => simpa [Env.put] using (by have := h.2 i; cases d <;> simpa [putD] using this)
  | some t =>
    have := h.2 i
    cases d with
    | none => simp only [putD, Env.put, Vm.look] at this ⊢; rw [this]
    | some tu =>
      obtain ⟨t', u⟩ := tu
      have hne := hd t' u rfl
      simp only [putD, Env.put, Vm.look] at this ⊢
      rw [this]
      by_cases e1 : t = i
      · subst e1
        rw [if_pos rfl, if_neg (fun e => hne (by rw [e])), if_pos rfl]
      · rw [if_neg e1, if_neg e1]

theorem Rd.put' {d : Option (Tmp × AV)} {e1 e2 : Env} (h : Rd d e1 e2) {t : Option Tmp} {v : AV} (hd : ∀ t' u, d = some (t', u) → t ≠ some t') :
    Rd d (e1.put t v) (e2.put t v) := by
  have := h.put (h' := e1.h) (t := t) (v := v) hd
  rw [show (⟨e2.s, e1.h⟩ : Env) = e2 from by rw [h.1]] at this
  exact this

theorem free_dst {d : Option (Tmp × AV)} {o : VOper} (hf : Free d o) : ∀ t' u, d = some (t', u) → o.dst ≠ some t' := fun t' u e e' => hf t' u e (ment_dst e')

theorem wOp_frame {d : Option (Tmp × AV)} {e1 e2 : Env} (h : Rd d e1 e2) {o : VOper} (hf : Free d o) (hK : ∀ f1 f2, Rd d f1 f2 → K f1 → K' f2) (hW : wOp P tab kp o K e1) : wOp P tab kp o K' e2 := by
  have hput : ∀ (h' : List Blk) (v : AV), K (Env.put ⟨e1.s, h'⟩ o.dst v) → K' (Env.put ⟨e2.s, h'⟩ o.dst v) := fun h' v => hK _ _ (h.put (free_dst hf))
  have hev : ∀ x ∈ o.op.operands, ev e1 x = ev e2 x := fun x hx => h.ev hf hx
  by_cases hl : isHeavy o.mu o.op = false
  · rw [wOp_light hl] at hW ⊢
    have : evX tab (o.envOf kp e1) o.op = evX tab (o.envOf kp e2) o.op := by
      refine evX_congr (fun x hx => ?_) ?_
      · have := hev x hx
        unfold VOper.envOf
        cases o.fl
        · exact this
        · cases x <;> exact this
      · unfold VOper.envOf
        cases o.fl
        · exact h.1
        · rfl
    rw [this] at hW
    split at hW
    · exact ⟨hW.1, hK _ _ (h.put' (free_dst hf)) hW.2⟩
    · exact hW.elim
  · by_cases hd : isDet o.mu o.op = true
    · rw [wOp_det hd] at hW ⊢
      rw [← evH_congr hev h.1]
      split at hW
      · exact ⟨hW.1, hW.2.1, hput _ _ hW.2.2⟩
      · exact hW.elim
    · have hc : isCall o.op = true := by
        simp only [isHeavy] at hl
        cases hcc : isCall o.op with
        | true => rfl
        | false => rw [hcc] at hl; simp at hl; exact absurd hl hd
      obtain ⟨dst, op, g, fl, mu⟩ := o
      simp only at hev hput hc
      have hh := h.1
      cases op with
      | call c =>
        obtain ⟨callee, args, ts⟩ := c
        cases callee with
        | value f =>
          unfold wOp at hW ⊢
          simp only at hW ⊢
          have ha : ∀ x ∈ args.toList, ev e1 x = ev e2 x := fun x hx => hev x (by simp [Op.operands, Call.operands]; exact .inr (by simpa using hx))
          rw [← hev f (by simp [Op.operands, Call.operands]), ← mapM_congr ha, ← hh]
          split at hW
          · exact hW.mono fun v h' hq => ⟨hq.1, hput h' v hq.2⟩
          · exact hW.mono fun v h' hq => ⟨hq.1, hput h' v hq.2⟩
          · exact hW
        | _ => simp [isCall] at hc
      | _ => simp [isCall] at hc

theorem wStep_frame {d : Option (Tmp × AV)} {e1 e2 : Env} (h : Rd d e1 e2) {o : VOper} (hf : Free d o) (hK : ∀ f1 f2, Rd d f1 f2 → K f1 → K' f2) (hW : wStep P tab kp o K e1) : wStep P tab kp o K' e2 := by
  unfold wStep at hW ⊢
  cases hg : o.guard with
  | none => rw [hg] at hW; exact wOp_frame h hf hK hW
  | some tw =>
    obtain ⟨t, want⟩ := tw
    rw [hg] at hW
    simp only at hW ⊢
    have ht := h.look hf (ment_guard hg)
    rw [← ht]
    have hnm : ∀ t' u, d = some (t', u) → some t ≠ some t' := fun t' u e e' => hf t' u e (by cases e'; exact ment_guard hg)
    split at hW
    · exact ⟨fun e => wOp_frame (h.put' hnm) hf hK (hW.1 e), fun e => hK _ _ ((h.put' hnm).put' (free_dst hf)) (hW.2 e)⟩
    · exact hK _ _ (h.put' (free_dst hf)) hW
    · exact hW

theorem free_none (o : VOper) : Free none o := fun _ _ e => by cases e
theorem Rd.refl (e : Env) : Rd none e e := ⟨rfl, fun _ => rfl⟩
theorem Rd.symm {e1 e2 : Env} (h : Rd none e1 e2) : Rd none e2 e1 := ⟨h.1.symm, fun t => (h.2 t).symm⟩
theorem Rd.trans {e1 e2 e3 : Env} (h : Rd none e1 e2) (h' : Rd none e2 e3) : Rd none e1 e3 := ⟨h.1.trans h'.1, fun t => (h.2 t).trans (h'.2 t)⟩

/-- K, up to how the slots are written down. -/
def Kq (K : Env → Prop) (e : Env) : Prop := ∃ e', Rd none e' e ∧ K e'
theorem Kq.of {e : Env} (h : K e) : Kq K e := ⟨e, Rd.refl e, h⟩
theorem Kq.closed {e1 e2 : Env} (h : Rd none e1 e2) (hk : Kq K e1) : Kq K e2 := by obtain ⟨e', h1, h2⟩ := hk; exact ⟨e', h1.trans h, h2⟩
theorem Kq.flat {e : Env} (h : Kq (Kq K) e) : Kq K e := by obtain ⟨e', h1, h2⟩ := h; exact h2.closed h1

theorem wStep_mono {o : VOper} (hK : ∀ e, K e → K' e) (hW : wStep P tab kp o K env) : wStep P tab kp o K' env := by
  have key : ∀ {env : Env}, wOp P tab kp o K env → wOp P tab kp o K' env := by
    intro env hW
    unfold wOp at hW ⊢
    split at hW
    · split at hW
      · exact hW.mono fun v h' hq => ⟨hq.1, hK _ hq.2⟩
      · exact hW.mono fun v h' hq => ⟨hq.1, hK _ hq.2⟩
      · exact hW
    · split at hW
      · rename_i hdd
        rw [if_pos hdd]
        split at hW
        · exact ⟨hW.1, hW.2.1, hK _ hW.2.2⟩
        · exact hW
      · rename_i hdd
        rw [if_neg hdd]
        split at hW
        · exact ⟨hW.1, hK _ hW.2⟩
        · exact hW
  unfold wStep at hW ⊢
  split at hW
  · exact key hW
  · split at hW
    · exact ⟨fun e => key (hW.1 e), fun e => hK _ (hW.2 e)⟩
    · exact hK _ hW
    · exact hW

theorem wOps_frame : ∀ {vl : List VOper} {e1 e2 : Env}, Rd none e1 e2 → wOps P tab kp vl K e1 → wOps P tab kp vl (Kq K) e2
  | [], _, _, h, hW => ⟨_, h, hW⟩
  | _ :: _, _, _, h, hW => wStep_frame h (free_none _) (fun _ _ h' => wOps_frame h') hW

theorem wOps_mono : ∀ {vl : List VOper} {env : Env}, (∀ e, K e → K' e) → wOps P tab kp vl K env → wOps P tab kp vl K' env
  | [], _, h, hW => h _ hW
  | _ :: _, _, h, hW => wStep_mono (fun _ => wOps_mono h) hW

theorem wOps_Kq {vl : List VOper} {e : Env} (h : Kq (wOps P tab kp vl (Kq K)) e) : wOps P tab kp vl (Kq K) e := by
  obtain ⟨e', h1, h2⟩ := h
  exact wOps_mono (fun _ => Kq.flat) (wOps_frame h1 h2)

/-- What a look at an operation that leaves memory as it is gives, its guard included. -/
def lval (tab : Tab) (kp : List Blk) (o : VOper) (env : Env) : Option (Prop × AV) :=
  match o.guard with
  | none => evX tab (o.envOf kp env) o.op
  | some (t, want) => match look env.s t with
    | some (.d (.bool b)) => if b = want then evX tab (o.envOf kp env) o.op else some (True, .tup [])
    | some (.tup []) => some (True, .tup [])
    | _ => none

theorem envOf_ev {o : VOper} {e1 e2 : Env} {x : Operand} (h : ev e1 x = ev e2 x) : ev (o.envOf kp e1) x = ev (o.envOf kp e2) x := by
  unfold VOper.envOf
  cases o.fl
  · exact h
  · cases x <;> exact h

theorem lval_congr {o : VOper} {e1 e2 : Env} (h : ∀ t ∈ o.ment, look e1.s t = look e2.s t) (hh : o.fl = true ∨ e1.h = e2.h) : lval tab kp o e1 = lval tab kp o e2 := by
  have he : evX tab (o.envOf kp e1) o.op = evX tab (o.envOf kp e2) o.op := by
    refine evX_congr (fun x hx => envOf_ev (ev_congr fun t e => h t (ment_op (by rw [← e]; exact hx)))) ?_
    unfold VOper.envOf
    rcases hh with hh | hh
    · rw [hh]; rfl
    · cases o.fl
      · exact hh
      · rfl
  unfold lval
  rw [he]
  cases hg : o.guard with
  | none => rfl
  | some tw =>
    obtain ⟨t, want⟩ := tw
    simp only
    rw [h t (ment_guard hg)]

theorem named {env : Env} {t : Tmp} {b c : Bool} (hb : look env.s t = some (.d (.bool b))) (hc : b = c) : Rd none (env.put (some t) (.d (.bool c))) env := by
  subst hc
  refine ⟨rfl, fun i => ?_⟩
  simp only [Env.put, look, putD]
  by_cases e : t = i
  · subst e; rw [if_pos rfl, hb]
  · rw [if_neg e]

theorem lval_rd {o : VOper} {e1 e2 : Env} (h : Rd none e1 e2) : lval tab kp o e1 = lval tab kp o e2 := lval_congr (fun t _ => h.2 t) (.inr h.1)

theorem light_out {o : VOper} (hl : isHeavy o.mu o.op = false) (hW : wStep P tab kp o K env) : ∃ ob u, lval tab kp o env = some (ob, u) ∧ ob ∧ Kq K (env.put o.dst u) := by
  have key : ∀ {e : Env}, Rd none e env → wOp P tab kp o K e → ∃ ob u, evX tab (o.envOf kp env) o.op = some (ob, u) ∧ ob ∧ Kq K (env.put o.dst u) := by
    intro e he hw
    rw [wOp_light hl] at hw
    split at hw
    · rename_i ob v h1
      refine ⟨ob, v, ?_, hw.1, _, he.put' (by intro _ _ e; cases e), hw.2⟩
      rw [← h1]
      refine evX_congr (fun x _ => envOf_ev (ev_congr fun t _ => (he.2 t).symm)) ?_
      unfold VOper.envOf
      cases o.fl
      · exact he.1.symm
      · rfl
    · exact hw.elim
  unfold wStep at hW
  unfold lval
  cases hg : o.guard with
  | none => rw [hg] at hW; exact key (Rd.refl _) hW
  | some tw =>
    obtain ⟨t, want⟩ := tw
    rw [hg] at hW
    simp only at hW ⊢
    split at hW
    · rename_i b hb
      rw [hb]
      simp only
      by_cases e : b = want
      · rw [if_pos e]
        exact key (named hb e) (hW.1 e)
      · rw [if_neg e]
        have e' : b = !want := by cases b <;> cases want <;> simp_all
        exact ⟨True, .tup [], rfl, trivial, _, (named hb e').put' (by intro _ _ e; cases e), hW.2 e'⟩
    · rename_i hb
      rw [hb]
      exact ⟨True, .tup [], rfl, trivial, Kq.of hW⟩
    · exact hW.elim

theorem light_in {o : VOper} (hl : isHeavy o.mu o.op = false) {ob : Prop} {u : AV} (hv : lval tab kp o env = some (ob, u)) (ho : ob) (hK : Kq K (env.put o.dst u)) : wStep P tab kp o (Kq K) env := by
  have key : ∀ {e : Env}, Rd none e env → evX tab (o.envOf kp env) o.op = some (ob, u) → wOp P tab kp o (Kq K) e := by
    intro e he h1
    rw [wOp_light hl]
    have : evX tab (o.envOf kp e) o.op = evX tab (o.envOf kp env) o.op := by
      refine evX_congr (fun x _ => envOf_ev (ev_congr fun t _ => he.2 t)) ?_
      unfold VOper.envOf
      cases o.fl
      · exact he.1
      · rfl
    rw [this, h1]
    exact ⟨ho, Kq.closed (he.symm.put' (by intro _ _ e; cases e)) hK⟩
  unfold wStep
  unfold lval at hv
  cases hg : o.guard with
  | none => rw [hg] at hv; exact key (Rd.refl _) hv
  | some tw =>
    obtain ⟨t, want⟩ := tw
    rw [hg] at hv
    simp only at hv ⊢
    split at hv
    · rename_i b hb
      rw [hb]
      by_cases e : b = want
      · rw [if_pos e] at hv
        refine ⟨fun _ => key (named hb e) hv, fun e' => ?_⟩
        subst e; cases b <;> simp at e'
      · rw [if_neg e] at hv
        cases hv
        refine ⟨fun e' => absurd e' e, fun e' => Kq.closed ((named hb e').symm.put' (by intro _ _ e; cases e)) hK⟩
    · rename_i hb
      rw [hb]
      cases hv; exact hK
    · simp at hv

/-- What an operation leaves as it was. -/
def Kept (o : VOper) (env e : Env) : Prop := (∀ t, o.dst ≠ some t → look e.s t = look env.s t) ∧ (isHeavy o.mu o.op = false → e.h = env.h)

theorem look_put {e : Env} {h' : List Blk} {d : Option Tmp} {v : AV} {t : Tmp} (hd : d ≠ some t) : look (Env.put ⟨e.s, h'⟩ d v).s t = look e.s t := by
  cases d with
  | none => rfl
  | some d => simp only [Env.put, look]; rw [if_neg (fun e => hd (by rw [e]))]

theorem wOp_track {o : VOper} {e0 : Env} (h0 : Rd none e0 env) (hW : wOp P tab kp o K e0) : wOp P tab kp o (fun e => K e ∧ Kept o env e) e0 := by
  have hk : ∀ (h' : List Blk) (v : AV), (isHeavy o.mu o.op = false → h' = env.h) → Kept o env (Env.put ⟨e0.s, h'⟩ o.dst v) := fun h' v hh => ⟨fun t ht => by rw [look_put ht]; exact h0.2 t, fun hl => by
    rw [← hh hl]; cases o.dst <;> rfl⟩
  by_cases hl : isHeavy o.mu o.op = false
  · rw [wOp_light hl] at hW ⊢
    split at hW
    · exact ⟨hW.1, hW.2, hk e0.h _ (fun _ => h0.1)⟩
    · exact hW
  · have hk' : ∀ (h' : List Blk) (v : AV), Kept o env (Env.put ⟨e0.s, h'⟩ o.dst v) := fun h' v => hk h' v (fun e => absurd e hl)
    unfold wOp at hW ⊢
    split at hW
    · split at hW
      · exact hW.mono fun v h' hq => ⟨hq.1, hq.2, hk' _ _⟩
      · exact hW.mono fun v h' hq => ⟨hq.1, hq.2, hk' _ _⟩
      · exact hW
    · split at hW
      · rename_i hdd
        rw [if_pos hdd]
        split at hW
        · exact ⟨hW.1, hW.2.1, hW.2.2, hk' _ _⟩
        · exact hW
      · rename_i hnc hnd
        exfalso
        apply hl
        simp only [isHeavy, Bool.or_eq_false_iff]
        refine ⟨by simpa using hnd, ?_⟩
        cases hcc : isCall o.op with
        | false => rfl
        | true =>
          exfalso
          cases ho : o.op with
          | call c =>
            obtain ⟨callee, args, ts⟩ := c
            cases callee with
            | value f => exact hnc f args ts ho
            | _ => rw [ho] at hcc; simp [isCall] at hcc
          | _ => rw [ho] at hcc; simp [isCall] at hcc

theorem wStep_track {o : VOper} (hW : wStep P tab kp o K env) : wStep P tab kp o (fun e => K e ∧ Kept o env e) env := by
  unfold wStep at hW ⊢
  split at hW
  · exact wOp_track (Rd.refl _) hW
  · split at hW
    · rename_i b hb
      refine ⟨fun e => wOp_track (named hb e) (hW.1 e), fun e => ⟨hW.2 e, ?_⟩⟩
      have := named hb e
      exact ⟨fun t ht => by rw [show (env.put _ (AV.d (D.bool _))) = ⟨(env.put _ (AV.d (D.bool _))).s, (env.put _ (AV.d (D.bool _))).h⟩ from rfl, look_put ht]; exact this.2 t, fun _ => by cases o.dst <;> rfl⟩
    · exact ⟨hW, fun t ht => by rw [show env = ⟨env.s, env.h⟩ from rfl, look_put ht], fun _ => by cases o.dst <;> rfl⟩
    · exact hW

/-- May x, which is looked at before y, be looked at behind y? -/
structure Swap (x y : VOper) : Prop where
  light : isHeavy x.mu x.op = false
  xy : ∀ t, x.dst = some t → t ∉ y.ment
  yx : ∀ t, y.dst = some t → t ∉ x.ment
  fl : isHeavy y.mu y.op = true → x.fl = true

theorem wStep_swap {x y : VOper} (hs : Swap x y) (hW : wStep P tab kp x (wStep P tab kp y K) env) : wStep P tab kp y (wStep P tab kp x (Kq K)) env := by
  obtain ⟨ob, u, h1, h2, e', h3, h4⟩ := light_out hs.light hW
  have h5 : wStep P tab kp y (Kq K) (env.put x.dst u) := wStep_frame h3 (free_none _) (fun f1 f2 h hk => ⟨f1, h, hk⟩) h4
  have hd : Rd (x.dst.map fun t => (t, u)) (env.put x.dst u) env := by
    cases hx : x.dst with
    | none => exact Rd.refl _
    | some t => exact ⟨rfl, fun i => rfl⟩
  have hf : Free (x.dst.map fun t => (t, u)) y := by
    intro t v e
    cases hx : x.dst with
    | none => rw [hx] at e; cases e
    | some t' => rw [hx] at e; cases e; exact hs.xy t hx
  have h6 : wStep P tab kp y (fun e => Kq K (e.put x.dst u)) env := wStep_frame hd hf (fun f1 f2 h hk => by
    refine Kq.closed ⟨?_, fun t => ?_⟩ hk
    · rw [h.1]; cases x.dst <;> rfl
    · rw [h.2 t]; cases x.dst <;> rfl) h5
  refine wStep_mono ?_ (wStep_track h6)
  rintro e ⟨hk, hkept⟩
  refine light_in hs.light ?_ h2 hk
  rw [← h1]
  refine lval_congr (fun t ht => hkept.1 t (fun e => hs.yx t e ht)) ?_
  cases hh : isHeavy y.mu y.op with
  | true => exact .inl (hs.fl hh)
  | false => exact .inr (hkept.2 hh)

theorem bubble {i : VOper} {post : List VOper} : ∀ {pre : List VOper} {env : Env}, (∀ x ∈ pre, Swap x i) → wOps P tab kp (pre ++ i :: post) K env → wOps P tab kp (i :: (pre ++ post)) (Kq K) env
  | [], env, _, hW => wOps_mono (vl := i :: post) (fun _ => Kq.of) hW
  | x :: pre, env, hs, hW => by
    have h1 : wStep P tab kp x (wOps P tab kp (pre ++ i :: post) K) env := hW
    have h2 : wStep P tab kp x (wStep P tab kp i (wOps P tab kp (pre ++ post) (Kq K))) env := wStep_mono (fun e he => bubble (fun y hy => hs y (by simp [hy])) he) h1
    have h3 := wStep_swap (hs x (by simp)) h2
    show wStep P tab kp i (wStep P tab kp x (wOps P tab kp (pre ++ post) (Kq K))) env
    exact wStep_mono (fun e he => wStep_mono (fun e' he' => wOps_Kq he') he) h3

/-! ### The list of what is still to be done -/

structure Left (ops : Array Oper) (listed : Array Bool) (L : List Nat) : Prop where
  size : listed.size = ops.size
  mem : ∀ i, i < ops.size → listed[i]? = some (decide (i ∉ L))
  lt : ∀ i ∈ L, i < ops.size
  nd : L.Nodup
  down : ∀ i o, ops[i]? = some o → i ∉ L → ∀ p ∈ preds o, p < ops.size ∧ p ∉ L

theorem mem_preds {o : Oper} {p : Nat} : p ∈ preds o ↔ ∃ e ∈ o.after, Region.binds .any e = true ∧ e.on = p := by
  unfold preds
  simp only [List.mem_filterMap, Array.mem_toList_iff]
  constructor
  · rintro ⟨e, he, h⟩
    split at h
    · rename_i hb; cases h; exact ⟨e, he, hb, rfl⟩
    · simp at h
  · rintro ⟨e, he, hb, rfl⟩
    exact ⟨e, he, by rw [if_pos hb]⟩

theorem Left.ready {ops : Array Oper} {listed : Array Bool} {L : List Nat} (h : Left ops listed L) {i : Nat} (hi : i ∈ Region.ready .any ops listed) :
    i ∈ L ∧ ∃ o, ops[i]? = some o ∧ ∀ p ∈ preds o, p < ops.size ∧ p ∉ L := by
  unfold Region.ready at hi
  simp only [List.mem_filter, List.mem_range, Bool.and_eq_true, Bool.not_eq_true'] at hi
  obtain ⟨hlt, h1, h2⟩ := hi
  have hm := h.mem i hlt
  have hin : i ∈ L := by
    rw [Array.getD_eq_getD_getElem?, hm] at h1
    simpa using h1
  refine ⟨hin, ?_⟩
  cases ho : ops[i]? with
  | none => rw [ho] at h2; simp at h2
  | some o =>
    refine ⟨o, rfl, fun p hp => ?_⟩
    obtain ⟨e, he, hb, rfl⟩ := mem_preds.mp hp
    rw [ho] at h2
    simp only [Option.map_some, Option.getD_some, Array.all_eq_true'] at h2
    have := h2 e he
    rw [hb] at this
    simp only [Bool.not_true, Bool.false_or] at this
    have hpl : e.on < ops.size := by
      rcases Nat.lt_or_ge e.on ops.size with h' | h'
      · exact h'
      · rw [Array.getD_eq_getD_getElem?, Array.getElem?_eq_none (by rw [h.size]; exact h')] at this
        simp at this
    refine ⟨hpl, ?_⟩
    rw [Array.getD_eq_getD_getElem?, h.mem _ hpl] at this
    simpa using this

theorem Left.ready_of {ops : Array Oper} {listed : Array Bool} {L : List Nat} (h : Left ops listed L) {i : Nat} {o : Oper} (hi : i ∈ L) (ho : ops[i]? = some o) (hp : ∀ p ∈ preds o, p < ops.size ∧ p ∉ L) :
    i ∈ Region.ready .any ops listed := by
  have hlt := h.lt i hi
  unfold Region.ready
  simp only [List.mem_filter, List.mem_range, Bool.and_eq_true, Bool.not_eq_true']
  refine ⟨hlt, ?_, ?_⟩
  · rw [Array.getD_eq_getD_getElem?, h.mem i hlt]
    simpa using hi
  · rw [ho]
    simp only [Option.map_some, Option.getD_some, Array.all_eq_true']
    intro e he
    cases hb : Region.binds .any e with
    | false => simp
    | true =>
      obtain ⟨h1, h2⟩ := hp e.on (mem_preds.mpr ⟨e, he, hb, rfl⟩)
      rw [Array.getD_eq_getD_getElem?, h.mem _ h1]
      simpa using h2

theorem Left.dep {ops : Array Oper} {listed : Array Bool} {L : List Nat} (h : Left ops listed L) : ∀ (f x y : Nat) (o : Oper), ops[y]? = some o → (∀ p ∈ preds o, p < ops.size ∧ p ∉ L) → Vm.dep ops f x y = true → x ∉ L
  | 0, x, y, o, _, _, hd => by simp [Vm.dep] at hd
  | f + 1, x, y, o, ho, hp, hd => by
    simp only [Vm.dep, ho, List.any_eq_true, Bool.or_eq_true, beq_iff_eq] at hd
    obtain ⟨p, h1, h2⟩ := hd
    obtain ⟨h3, h4⟩ := hp p h1
    rcases h2 with rfl | h2
    · exact h4
    · have ho' : ops[p]? = some ops[p] := Array.getElem?_eq_getElem h3
      exact h.dep f x p _ ho' (h.down p _ ho' h4) h2

theorem dep_direct {ops : Array Oper} {p x : Nat} {o : Oper} {f : Nat} (ho : ops[x]? = some o) (hp : p ∈ preds o) (hf : 0 < f) : Vm.dep ops f p x = true := by
  obtain ⟨f, rfl⟩ : ∃ g, f = g + 1 := ⟨f - 1, by omega⟩
  simp only [Vm.dep, ho, List.any_eq_true, Bool.or_eq_true, beq_iff_eq]
  exact ⟨p, hp, .inl rfl⟩

theorem pairsOk_split {ops : Array Oper} {fl : Nat → Bool} {i : Nat} {post : List Nat} : ∀ {pre : List Nat}, pairsOk mu ops fl (pre ++ i :: post) = true →
    (∀ x ∈ pre, pairOk mu ops fl x i = true) ∧ pairsOk mu ops fl (pre ++ post) = true
  | [], h => by
    simp only [List.nil_append, pairsOk, Bool.and_eq_true] at h
    exact ⟨by simp, h.2⟩
  | x :: pre, h => by
    simp only [List.cons_append, pairsOk, Bool.and_eq_true, List.all_append, List.all_cons] at h
    obtain ⟨⟨h0, h1, h2, h3⟩, h4⟩ := h
    obtain ⟨h5, h6⟩ := pairsOk_split h4
    refine ⟨fun y hy => ?_, ?_⟩
    · rcases List.mem_cons.mp hy with rfl | hy
      · exact h2
      · exact h5 y hy
    · simp only [List.cons_append, pairsOk, Bool.and_eq_true, List.all_append]
      exact ⟨⟨h0, h1, h3⟩, h6⟩

theorem stripAt_split {ops : Array Oper} {fl : Nat → Bool} {i : Nat} {post : List Nat} : ∀ {pre : List Nat} {vl : List VOper}, stripAt nt mu ops fl (pre ++ i :: post) = some vl →
    ∃ vpre vi vpost, vl = vpre ++ vi :: vpost ∧ (ops[i]?).bind (stripOp nt mu ops (fl i)) = some vi ∧ stripAt nt mu ops fl (pre ++ post) = some (vpre ++ vpost) ∧
      ∀ v ∈ vpre, ∃ x ∈ pre, (ops[x]?).bind (stripOp nt mu ops (fl x)) = some v
  | [], vl, h => by
    simp only [List.nil_append, stripAt] at h
    split at h
    · rename_i v vs h1 h2
      cases h
      exact ⟨[], v, vs, rfl, h1, h2, by simp⟩
    · simp at h
  | x :: pre, vl, h => by
    simp only [List.cons_append, stripAt] at h
    split at h
    · rename_i v vs h1 h2
      cases h
      obtain ⟨vpre, vi, vpost, rfl, h3, h4, h5⟩ := stripAt_split h2
      refine ⟨v :: vpre, vi, vpost, rfl, h3, by simp only [List.cons_append, stripAt, h1, h4], fun u hu => ?_⟩
      rcases List.mem_cons.mp hu with rfl | hu
      · exact ⟨x, by simp, h1⟩
      · obtain ⟨y, hy, h6⟩ := h5 u hu
        exact ⟨y, by simp [hy], h6⟩
    · simp at h

theorem stripOp_ment {ops : Array Oper} {fl : Bool} {o : Oper} {v : VOper} (h : stripOp nt mu ops fl o = some v) : v.ment = mentions ops o ∧ v.fl = fl ∧ v.mu = muAt mu o := by
  have hs := stripOp_some h
  obtain ⟨_, hop, hdst, hg⟩ := hs
  refine ⟨?_, ?_⟩
  · unfold VOper.ment mentions
    rw [hop, hdst]
    rcases hg with ⟨h1, h2⟩ | ⟨j, want, d, h1, h2, h3⟩
    · rw [h1, h2]
      rfl
    · rw [h1, h2]
      simp only [h3]
      rfl
  · unfold stripOp at h
    split at h
    · simp at h
    · split at h
      · cases h; exact ⟨rfl, rfl⟩
      · split at h
        · cases h; exact ⟨rfl, rfl⟩
        · simp at h

theorem pairsOk_nodup {ops : Array Oper} {fl : Nat → Bool} : ∀ {L : List Nat}, pairsOk mu ops fl L = true → L.Nodup
  | [], _ => List.nodup_nil
  | x :: r, h => by
    simp only [pairsOk, Bool.and_eq_true, List.all_eq_true] at h
    obtain ⟨⟨_, h1⟩, h2⟩ := h
    refine List.nodup_cons.mpr ⟨fun hx => ?_, pairsOk_nodup h2⟩
    have := h1 x hx
    unfold pairOk at this
    simp at this

theorem any_order (hT : tab.checks P = true) {ops : Array Oper} {fl : Nat → Bool} {K0 : Env → Prop} {Q : Exit → Act → World → Prop} : ∀ (fuel : Nat) (listed : Array Bool) (L : List Nat) (vl : List VOper) (F : Frz) (ρ : Env0) (env : Env) (a : Act) (w : World),
    L.length ≤ fuel → Left ops listed L → (∀ o ∈ ops, ∀ p ∈ preds o, p < ops.size) → pairsOk mu ops fl L = true → stripAt nt mu ops fl L = some vl → Rel (psz P) base w0 m nt F ρ env a w → LeB kp env.h → wOps P tab kp vl (Kq K0) env →
    (∀ a' w', KC P base w0 m nt F ρ (Kq K0) a' w' → Q .normal a' w') → wpAny P .any ops Q fuel listed a w := by
  intro fuel
  induction fuel with
  | zero =>
    intro listed L vl F ρ env a w hlen hleft hpl hpo hst hr hkp hW hn
    have : L = [] := List.eq_nil_of_length_eq_zero (by omega)
    subst this
    simp only [stripAt, Option.some.injEq] at hst
    subst hst
    refine ⟨?_, hn _ _ ⟨F, ρ, env, Ext.refl _ _ _, hr, hW⟩⟩
    rw [List.eq_nil_iff_forall_not_mem]
    intro i hi
    exact absurd (hleft.ready hi).1 (by simp)
  | succ fuel ih =>
    intro listed L vl F ρ env a w hlen hleft hpl hpo hst hr hkp hW hn
    refine ⟨fun hnil => ?_, fun i hi => ?_⟩
    · cases L with
      | nil =>
        simp only [stripAt, Option.some.injEq] at hst
        subst hst
        exact hn _ _ ⟨F, ρ, env, Ext.refl _ _ _, hr, hW⟩
      | cons x r =>
        exfalso
        have hlt := hleft.lt x (by simp)
        have ho : ops[x]? = some ops[x] := Array.getElem?_eq_getElem hlt
        have hrd : x ∈ Region.ready .any ops listed := by
          refine hleft.ready_of (by simp) ho (fun p hp => ⟨hpl _ (Array.getElem_mem hlt) p hp, fun hin => ?_⟩)
          simp only [pairsOk, Bool.and_eq_true, Bool.not_eq_true', List.all_eq_true] at hpo
          obtain ⟨⟨h0, h1⟩, _⟩ := hpo
          have hd := dep_direct (f := ops.size) ho hp (by omega)
          rcases List.mem_cons.mp hin with rfl | hin
          · rw [h0] at hd; cases hd
          · have := h1 p hin
            unfold pairOk at this
            rw [hd] at this
            simp at this
        rw [hnil] at hrd
        cases hrd
    · obtain ⟨hin, o, ho, hpr⟩ := hleft.ready hi
      obtain ⟨pre, post, rfl⟩ := List.append_of_mem hin
      obtain ⟨vpre, vi, vpost, rfl, h3, h4, h5⟩ := stripAt_split hst
      obtain ⟨h6, h7⟩ := pairsOk_split hpo
      rw [ho] at h3
      simp only [Option.bind_some] at h3
      have hm := stripOp_ment h3
      have hs3 := stripOp_some h3
      have hsw : ∀ v ∈ vpre, Swap v vi := by
        intro v hv
        obtain ⟨x, hx, h8⟩ := h5 v hv
        have hxl := hleft.lt x (by simp [hx])
        have hox : ops[x]? = some ops[x] := Array.getElem?_eq_getElem hxl
        rw [hox] at h8
        simp only [Option.bind_some] at h8
        have hm8 := stripOp_ment h8
        have hs8 := stripOp_some h8
        have hp := h6 x hx
        unfold pairOk at hp
        have hnd : Vm.dep ops ops.size x i = false := by
          cases hd : Vm.dep ops ops.size x i with
          | false => rfl
          | true => exact absurd (by simp [hx] : x ∈ pre ++ i :: post) (hleft.dep _ _ _ o ho hpr hd)
        rw [hnd] at hp
        simp only [Bool.false_or, Bool.and_eq_true, Bool.not_eq_true', Bool.or_eq_true] at hp
        obtain ⟨⟨_, _⟩, ⟨hhx, hap⟩, hfl⟩ := hp
        unfold apartAt at hap
        rw [hox, ho] at hap
        simp only [Bool.and_eq_true] at hap
        refine ⟨?_, fun t ht => ?_, fun t ht => ?_, fun hh => ?_⟩
        · rw [hs8.2.1, hm8.2.2]
          unfold heavyAt at hhx
          rw [hox] at hhx
          exact hhx
        · rw [hm.1]
          have := hap.1
          rw [← hs8.2.2.1, ht] at this
          simpa using this
        · rw [hm8.1]
          have := hap.2
          rw [← hs3.2.2.1, ht] at this
          simpa using this
        · rw [hm8.2.1]
          rcases hfl with hfl | hfl
          · unfold heavyAt at hfl
            rw [ho] at hfl
            rw [hs3.2.1, hm.2.2, show isHeavy (muAt mu o) o.op = false from hfl] at hh
            cases hh
          · exact hfl
      have hb := wOps_mono (fun _ => Kq.flat) (bubble hsw hW)
      have hb' : wStep P tab kp vi (wOps P tab kp (vpre ++ vpost) (Kq K0)) env := hb
      have hlt := hleft.lt i hin
      have hleft' : Left ops (listed.setIfInBounds i true) (pre ++ post) := by
        have hnd := hleft.nd
        have hni : i ∉ pre ++ post := by
          rw [List.nodup_append] at hnd
          obtain ⟨_, h2, h3⟩ := hnd
          simp only [List.nodup_cons] at h2
          simp only [List.mem_append, not_or]
          exact ⟨fun hp => h3 i hp i (by simp) rfl, h2.1⟩
        have hiff : ∀ j, j ∈ pre ++ i :: post ↔ j = i ∨ j ∈ pre ++ post := by
          intro j
          simp only [List.mem_append, List.mem_cons]
          constructor
          · rintro (h | h | h)
            · exact .inr (.inl h)
            · exact .inl h
            · exact .inr (.inr h)
          · rintro (h | h | h)
            · exact .inr (.inl h)
            · exact .inl h
            · exact .inr (.inr h)
        refine ⟨by simp [hleft.size], fun j hj => ?_, fun j hj => hleft.lt j ((hiff j).mpr (.inr hj)), ?_, fun j o' ho' hj p hp => ?_⟩
        · rw [Array.getElem?_setIfInBounds]
          by_cases e : i = j
          · subst e
            rw [if_pos rfl, if_pos (by rw [hleft.size]; exact hj)]
            simp [hni]
          · rw [if_neg e, hleft.mem j hj]
            congr 1
            simp only [decide_eq_decide]
            rw [hiff j]
            simp [Ne.symm e]
        · rw [List.nodup_append] at hnd ⊢
          obtain ⟨h1, h2, h3⟩ := hnd
          simp only [List.nodup_cons] at h2
          exact ⟨h1, h2.2, fun x hx y hy => h3 x hx y (by simp [hy])⟩
        · have hstep : p < ops.size ∧ p ∉ pre ++ i :: post := by
            by_cases e : j = i
            · subst e
              rw [ho] at ho'
              cases ho'
              exact hpr p hp
            · exact hleft.down j o' ho' (fun hjm => by rcases (hiff j).mp hjm with h | h; exact e h; exact hj h) p hp
          exact ⟨hstep.1, fun hpm => hstep.2 ((hiff p).mpr (.inr hpm))⟩
      have := wStep_sound (Q := Q) hT hr h3 hkp hb' (next := wpAny P .any ops Q fuel (listed.setIfInBounds i true)) (fun a' w' ⟨F', ρ', env', hx, hr', hk', hK⟩ =>
        ih _ (pre ++ post) _ F' ρ' env' a' w' (by simp only [List.length_append, List.length_cons] at hlen ⊢; omega) hleft' hpl h7 h4 hr' hk' hK
          (fun a'' w'' ⟨F'', ρ'', env'', hx', hr'', hK'⟩ => hn _ _ ⟨F'', ρ'', env'', hx.trans hx', hr'', hK'⟩))
      unfold wpOp
      rw [ho]
      simp only
      split at this
      · rename_i hc; rw [if_pos hc]; exact .inl this
      · rename_i hc; rw [if_neg hc]; exact this

theorem Rel.rd {sz : TypeId → Nat} {e1 e2 : Env} (h : Rd none e1 e2) (hr : Rel sz base w0 m nt F ρ e2 a w) : Rel sz base w0 m nt F ρ e1 a w := by
  refine ⟨by rw [h.1]; exact hr.st, fun i v hi => ?_, hr.size, hr.defers, by rw [h.1]; exact hr.le⟩
  rw [h.2 i] at hi
  rw [h.1]
  exact hr.slots i v hi

theorem Rel.drew {sz : TypeId → Nat} (hr : Rel sz base w0 m nt F ρ env a w) : Rel sz base w0 m nt F ρ env a { w with drawn := w.drawn + 1 } := by
  refine ⟨⟨hr.st.frz, fun b x hx => ?_, hr.st.dist, hr.st.old, hr.st.hb, hr.st.lt⟩, hr.slots, hr.size, hr.defers, hr.le⟩
  exact (hr.st.blk b x hx).mono (Ext.refl _ _ _) rfl (Nat.le_refl _) (fun _ _ _ h => h) (fun _ _ _ _ => rfl)

theorem order_ok (hT : tab.checks P = true) (hm : P.follows .mixedOrders = true) : OrderOk P tab nt mu := by
  intro id ops vl base w0 m F ρ env a w K Q kp hd hr hkp hW hn
  refine wp_region_any hm ?_
  unfold drawList at hd
  simp only at hd
  split at hd
  · rename_i hc
    simp only [Bool.and_eq_true, beq_iff_eq, List.all_eq_true, List.mem_range, Array.all_eq_true', decide_eq_true_eq] at hc
    obtain ⟨⟨⟨⟨h1, h2⟩, h5⟩, h3⟩, h4⟩ := hc
    have hsub : ∀ i, i < ops.size → i ∈ eager mu ops ops.size [] := fun i hi => by have := h2 i hi; simpa using this
    refine any_order hT ops.size _ (eager mu ops ops.size []) vl F ρ env a _ (by rw [h1]; exact Nat.le_refl _) ?_ (fun o ho p hp => h3 o ho p hp) h4 hd hr.drew hkp (wOps_mono (fun _ => Kq.of) hW) ?_
    · refine ⟨by simp, fun i hi => ?_, fun i hi => h5 i hi, pairsOk_nodup h4, fun i o ho hni => ?_⟩
      · rw [Array.getElem?_replicate, if_pos hi]
        simp [hsub i hi]
      · exact absurd (hsub i (by
          rcases Nat.lt_or_ge i ops.size with h | h
          · exact h
          · simp [Array.getElem?_eq_none h] at ho)) hni
    · rintro a' w' ⟨F', ρ', env', hx, hr', e', he, hK⟩
      exact hn _ _ ⟨F', ρ', e', hx, hr'.rd he, hK⟩
  · simp at hd

end Go.Vm
