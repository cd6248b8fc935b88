/- VMd: VmO, VmC, VmF, VmX, VmR, VmK, VmS, VmN, VmP, VmL, VmT. -/
import Derived.Test.YtkmeiandnebaeaaGreatDoorVMc
import Derived.Orders
import Derived.ProofKit
import Derived.OpenShut
import Derived.Below
/- Regions that draw their order: every order comes to what the order that is looked at comes to. -/
set_option linter.unusedSimpArgs false
namespace Go.Vm
variable {mu : Tmp → Bool} {P : Program} {base : Nat} {w0 : World} {m nt : Nat} {F : Frz} {ρ : Env0} {env : Env} {a : Act} {w : World} {n : Nat} {tab : Tab} {K K' : Env → Prop} {kp : List Blk}

def putD (d : Option (Tmp × AV)) (e : Env) : Env := match d with | some (t, u) => ⟨(t, u) :: e.s, e.h⟩ | none => e

/-- e1 is e2 with one slot more (or none), as far as look tells. -/
def Rd (d : Option (Tmp × AV)) (e1 e2 : Env) : Prop := e1.h = e2.h ∧ ∀ t, look e1.s t = look (putD d e2).s t

def VOper.ment (o : VOper) : List Tmp :=
  (o.op.operands.toList.filterMap fun | .tmp t => some t | _ => none) ++ o.dst.toList ++ (match o.guard with | some (t, _) => [t] | none => [])

def Free (d : Option (Tmp × AV)) (o : VOper) : Prop := ∀ t u, d = some (t, u) → t ∉ o.ment

theorem Rd.look {d : Option (Tmp × AV)} {e1 e2 : Env} (h : Rd d e1 e2) {o : VOper} (hf : Free d o) {t : Tmp} (ht : t ∈ o.ment) : look e1.s t = look e2.s t := by
  rw [h.2 t]
  cases d with
  | none => rfl
  | some tu =>
    obtain ⟨t', u⟩ := tu
    simp only [putD, Vm.look]
    rw [if_neg]
    intro e
    subst e
    exact hf _ _ rfl ht

theorem ment_op {o : VOper} {t : Tmp} (h : Operand.tmp t ∈ o.op.operands) : t ∈ o.ment := by
  unfold VOper.ment
  refine List.mem_append_left _ (List.mem_append_left _ (List.mem_filterMap.mpr ⟨.tmp t, by simpa using h, rfl⟩))
theorem ment_dst {o : VOper} {t : Tmp} (h : o.dst = some t) : t ∈ o.ment := by
  unfold VOper.ment
  rw [h]; simp
theorem ment_guard {o : VOper} {t : Tmp} {b : Bool} (h : o.guard = some (t, b)) : t ∈ o.ment := by
  unfold VOper.ment
  rw [h]; simp

theorem ev_congr {e1 e2 : Env} {x : Operand} (h : ∀ t, x = .tmp t → look e1.s t = look e2.s t) : ev e1 x = ev e2 x := by
  cases x with
  | tmp t => exact h t rfl
  | _ => rfl

theorem Rd.ev {d : Option (Tmp × AV)} {e1 e2 : Env} (h : Rd d e1 e2) {o : VOper} (hf : Free d o) {x : Operand} (hx : x ∈ o.op.operands) : ev e1 x = ev e2 x :=
  ev_congr fun t e => h.look hf (ment_op (by rw [← e]; exact hx))

theorem mapM_congr {e1 e2 : Env} : ∀ {xs : List Operand}, (∀ x ∈ xs, ev e1 x = ev e2 x) → xs.mapM (ev e1) = xs.mapM (ev e2)
  | [], _ => rfl
  | x :: xs, h => by
    simp only [List.mapM_cons]
    rw [h x (by simp), mapM_congr (fun y hy => h y (by simp [hy]))]

theorem bnd_congr {e1 e2 : Env} {d : Int} {o : Option Operand} (h : ∀ x, o = some x → ev e1 x = ev e2 x) : bnd e1 d o = bnd e2 d o := by
  cases o with
  | none => rfl
  | some x => simp only [bnd, h x rfl]

theorem evL_congr {e1 e2 : Env} {op : Op} (h : ∀ x ∈ op.operands, ev e1 x = ev e2 x) (hh : e1.h = e2.h) : evL tab e1 op = evL tab e2 op := by
  cases op with
  | move x | assign x => simp only [evL]; rw [h x (by simp [Op.operands])]
  | pick c x y => simp only [evL]; rw [h c (by simp [Op.operands]), h x (by simp [Op.operands]), h y (by simp [Op.operands])]
  | binOp op t x y yt => simp only [evL]; rw [h x (by simp [Op.operands]), h y (by simp [Op.operands])]
  | unOp op t x => simp only [evL]; rw [h x (by simp [Op.operands])]
  | convert s d x => simp only [evL]; rw [h x (by simp [Op.operands])]
  | load t x => simp only [evL]; rw [h x (by simp [Op.operands]), hh]
  | fieldAddr t x f => simp only [evL]; rw [h x (by simp [Op.operands])]
  | field t x f => simp only [evL]; rw [h x (by simp [Op.operands])]
  | indexAddr t x i => simp only [evL]; rw [h x (by simp [Op.operands]), h i (by simp [Op.operands])]
  | index t x i => simp only [evL]; rw [h x (by simp [Op.operands]), h i (by simp [Op.operands])]
  | extract x i => simp only [evL]; rw [h x (by simp [Op.operands])]
  | lookup t m k ok => simp only [evL]; rw [h m (by simp [Op.operands]), h k (by simp [Op.operands]), hh]
  | nilCheck x => simp only [evL]; rw [h x (by simp [Op.operands])]
  | slice t x lo hi mx =>
    have hlo : ∀ d, bnd e1 d lo = bnd e2 d lo := fun d => bnd_congr fun y e => h y (by subst e; simp [Op.operands])
    have hhi : ∀ d, bnd e1 d hi = bnd e2 d hi := fun d => bnd_congr fun y e => h y (by subst e; simp [Op.operands])
    have hhi' : (hi.bind fun y => (ev e1 y).bind asI) = hi.bind fun y => (ev e2 y).bind asI := by
      cases hi with
      | none => rfl
      | some y => simp only [Option.bind_some]; rw [h y (by simp [Op.operands])]
    simp only [evL]
    rw [h x (by simp [Op.operands])]
    cases ev e2 x with
    | none => rfl
    | some v =>
      simp only [sliceAV, hlo, hhi, hhi']
      cases mx with
      | none => rfl
      | some mo => simp only []; rw [h mo (by simp [Op.operands])]
  | makeFunc fn first caps =>
    cases fn with
    | func f =>
      simp only [evL]
      rw [mapM_congr (xs := caps.toList) (fun x hx => h x (by simp [Op.operands]; exact .inr (by simpa using hx))), mapM_congr (xs := first.toList) (fun x hx => h x (by simp [Op.operands]; exact .inl (by simpa using hx)))]
    | _ => rfl
  | call c =>
    obtain ⟨callee, args, ts⟩ := c
    have ha : ∀ x ∈ args.toList, ev e1 x = ev e2 x := fun x hx => h x (by simp [Op.operands, Call.operands]; exact .inr (by simpa using hx))
    cases callee with
    | builtin b =>
      cases b with
      | len =>
        simp only [evL]
        split
        · rename_i x t hx ht
          rw [ha x (by rw [hx]; simp)]
        · rfl
      | cap =>
        simp only [evL]
        split
        · rename_i x t hx ht
          rw [ha x (by rw [hx]; simp)]
        · rfl
      | min => simp only [evL]; rw [mapM_congr ha]
      | max => simp only [evL]; rw [mapM_congr ha]
      | _ => rfl
    | _ => rfl
  | _ => rfl

theorem partsAV_congr {e1 e2 : Env} : ∀ {ps : List (Nat × Operand)}, (∀ p ∈ ps, ev e1 p.2 = ev e2 p.2) → partsAV e1 ps = partsAV e2 ps
  | [], _ => rfl
  | (i, x) :: ps, h => by
    simp only [partsAV]
    rw [h (i, x) (by simp), partsAV_congr (fun p hp => h p (by simp [hp]))]

theorem evX_congr {e1 e2 : Env} {op : Op} (h : ∀ x ∈ op.operands, ev e1 x = ev e2 x) (hh : e1.h = e2.h) : evX tab e1 op = evX tab e2 op := by
  unfold evX
  split
  · rename_i s' d' x'
    have hc : evC tab e1 s' d' x' = evC tab e2 s' d' x' := by
      unfold evC
      rw [h x' (by simp [Op.operands])]
    rw [hc, evL_congr h hh]
  · rename_i t len parts
    unfold evB
    rw [partsAV_congr (ps := parts.toList) (fun p hp => h p.2 (by
      simp only [Op.operands, List.mem_toArray, List.mem_map]
      exact ⟨p, hp, rfl⟩))]
  · rename_i t parts
    unfold evS
    rw [partsAV_congr (ps := parts.toList) (fun p hp => h p.2 (by
      simp only [Op.operands, List.mem_toArray, List.mem_map]
      exact ⟨p, hp, rfl⟩))]
  · exact evL_congr h hh

def VOper.envOf (kp : List Blk) (o : VOper) (env : Env) : Env := if o.fl then ⟨env.s, kp⟩ else env

theorem heavy_cases {b : Bool} {op : Op} (h : isHeavy b op = false) : isDet b op = false ∧ isCall op = false := by
  simpa [isHeavy] using h

theorem wOp_light {o : VOper} (hl : isHeavy o.mu o.op = false) : wOp P tab kp o K env = (match evX tab (o.envOf kp env) o.op with | some (ob, v) => ob ∧ K (env.put o.dst v) | none => False) := by
  obtain ⟨h1, h2⟩ := heavy_cases hl
  unfold wOp
  split
  · rename_i he; rw [he] at h2; simp [isCall] at h2
  · rename_i he; rw [he] at h2; simp [isCall] at h2
  · rw [if_neg (by rw [h1]; simp)]
    rfl

theorem wOp_det {o : VOper} (hd : isDet o.mu o.op = true) : wOp P tab kp o K env = (match evH tab o.mu env o.op with | some (ob, h', v) => ob ∧ LeB (if o.fl then kp else []) h' ∧ K (Env.put ⟨env.s, h'⟩ o.dst v) | none => False) := by
  unfold wOp
  split
  · rename_i he; rw [he] at hd; simp [isDet] at hd
  · rename_i he; rw [he] at hd; simp [isDet] at hd
  · rw [if_pos hd]
    rfl

theorem evH_congr {e1 e2 : Env} {b : Bool} {op : Op} (h : ∀ x ∈ op.operands, ev e1 x = ev e2 x) (hh : e1.h = e2.h) : evH tab b e1 op = evH tab b e2 op := by
  cases op with
  | alloc t => simp only [evH]; rw [hh]
  | box t x => simp only [evH]; rw [h x (by simp [Op.operands]), hh]
  | store t p x => simp only [evH]; rw [h p (by simp [Op.operands]), h x (by simp [Op.operands]), hh]
  | buildSlice t len parts =>
    simp only [evH]
    rw [partsAV_congr (ps := parts.toList) (fun p hp => h p.2 (by
      simp only [Op.operands, List.mem_toArray, List.mem_map]
      exact ⟨p, hp, rfl⟩)), hh]
  | makeSlice t l c => simp only [evH]; rw [h l (by simp [Op.operands]), h c (by simp [Op.operands]), hh]
  | makeMap t r => cases r with
    | none => simp only [evH]; rw [hh]
    | some x => rfl
  | range t x => simp only [evH]; rw [h x (by simp [Op.operands]), hh]
  | entry x => simp only [evH]; rw [h x (by simp [Op.operands]), hh]
  | mapUpdate t m k x => simp only [evH]; rw [h m (by simp [Op.operands]), h k (by simp [Op.operands]), h x (by simp [Op.operands]), hh]
  | insert t m k x => simp only [evH]; rw [h m (by simp [Op.operands]), h k (by simp [Op.operands]), h x (by simp [Op.operands]), hh]
  | call c =>
    obtain ⟨callee, args, ts⟩ := c
    have ha : ∀ x ∈ args.toList, ev e1 x = ev e2 x := fun x hx => h x (by simp [Op.operands, Call.operands]; exact .inr (by simpa using hx))
    cases callee with
    | builtin b =>
      cases b with
      | append =>
        simp only [evH]
        split
        · rename_i s x t t2 hx ht
          rw [ha s (by rw [hx]; simp), ha x (by rw [hx]; simp), hh]
        · rfl
      | _ => rfl
    | _ => rfl
  | move x => simp only [evH]; rw [h x (by simp [Op.operands]), hh]
  | convert s d x => simp only [evH]; rw [h x (by simp [Op.operands]), hh]
  | _ => rfl

theorem Rd.put {d : Option (Tmp × AV)} {e1 e2 : Env} (h : Rd d e1 e2) {h' : List Blk} {t : Option Tmp} {v : AV} (hd : ∀ t' u, d = some (t', u) → t ≠ some t') :
    Rd d (Env.put ⟨e1.s, h'⟩ t v) (Env.put ⟨e2.s, h'⟩ t v) := by
  refine ⟨by cases t <;> rfl, fun i => ?_⟩
  cases t with
  | none => simpa [Env.put] using (by have := h.2 i; cases d <;> simpa [putD] using this)
  | some t =>
    have := h.2 i
    cases d with
    | none => simp only [putD, Env.put, Vm.look] at this ⊢; rw [this]
    | some tu =>
      obtain ⟨t', u⟩ := tu
      have hne := hd t' u rfl
      simp only [putD, Env.put, Vm.look] at this ⊢
      rw [this]
      by_cases e1 : t = i
      · subst e1
        rw [if_pos rfl, if_neg (fun e => hne (by rw [e])), if_pos rfl]
      · rw [if_neg e1, if_neg e1]

theorem Rd.put' {d : Option (Tmp × AV)} {e1 e2 : Env} (h : Rd d e1 e2) {t : Option Tmp} {v : AV} (hd : ∀ t' u, d = some (t', u) → t ≠ some t') :
    Rd d (e1.put t v) (e2.put t v) := by
  have := h.put (h' := e1.h) (t := t) (v := v) hd
  rw [show (⟨e2.s, e1.h⟩ : Env) = e2 from by rw [h.1]] at this
  exact this

theorem free_dst {d : Option (Tmp × AV)} {o : VOper} (hf : Free d o) : ∀ t' u, d = some (t', u) → o.dst ≠ some t' := fun t' u e e' => hf t' u e (ment_dst e')

theorem wOp_frame {d : Option (Tmp × AV)} {e1 e2 : Env} (h : Rd d e1 e2) {o : VOper} (hf : Free d o) (hK : ∀ f1 f2, Rd d f1 f2 → K f1 → K' f2) (hW : wOp P tab kp o K e1) : wOp P tab kp o K' e2 := by
  have hput : ∀ (h' : List Blk) (v : AV), K (Env.put ⟨e1.s, h'⟩ o.dst v) → K' (Env.put ⟨e2.s, h'⟩ o.dst v) := fun h' v => hK _ _ (h.put (free_dst hf))
  have hev : ∀ x ∈ o.op.operands, ev e1 x = ev e2 x := fun x hx => h.ev hf hx
  by_cases hl : isHeavy o.mu o.op = false
  · rw [wOp_light hl] at hW ⊢
    have : evX tab (o.envOf kp e1) o.op = evX tab (o.envOf kp e2) o.op := by
      refine evX_congr (fun x hx => ?_) ?_
      · have := hev x hx
        unfold VOper.envOf
        cases o.fl
        · exact this
        · cases x <;> exact this
      · unfold VOper.envOf
        cases o.fl
        · exact h.1
        · rfl
    rw [this] at hW
    split at hW
    · exact ⟨hW.1, hK _ _ (h.put' (free_dst hf)) hW.2⟩
    · exact hW.elim
  · by_cases hd : isDet o.mu o.op = true
    · rw [wOp_det hd] at hW ⊢
      rw [← evH_congr hev h.1]
      split at hW
      · exact ⟨hW.1, hW.2.1, hput _ _ hW.2.2⟩
      · exact hW.elim
    · have hc : isCall o.op = true := by
        simp only [isHeavy] at hl
        cases hcc : isCall o.op with
        | true => rfl
        | false => rw [hcc] at hl; simp at hl; exact absurd hl hd
      obtain ⟨dst, op, g, fl, mu⟩ := o
      simp only at hev hput hc
      have hh := h.1
      cases op with
      | call c =>
        obtain ⟨callee, args, ts⟩ := c
        cases callee with
        | value f =>
          unfold wOp at hW ⊢
          simp only at hW ⊢
          have ha : ∀ x ∈ args.toList, ev e1 x = ev e2 x := fun x hx => hev x (by simp [Op.operands, Call.operands]; exact .inr (by simpa using hx))
          rw [← hev f (by simp [Op.operands, Call.operands]), ← mapM_congr ha, ← hh]
          split at hW
          · exact hW.mono fun v h' hq => ⟨hq.1, hput h' v hq.2⟩
          · exact hW.mono fun v h' hq => ⟨hq.1, hput h' v hq.2⟩
          · exact hW.mono fun v h' hq => ⟨hq.1, hput h' v hq.2⟩
          · exact hW
        | _ => simp [isCall] at hc
      | next it st =>
        cases st with
        | false =>
          unfold wOp at hW ⊢
          simp only at hW ⊢
          rw [← hev it (by simp [Op.operands]), ← hh]
          split at hW
          · exact hW.mono fun v h' hq => ⟨hq.1, hput h' v hq.2⟩
          · exact hW
        | true => simp [isCall] at hc
      | _ => simp [isCall] at hc

theorem wStep_frame {d : Option (Tmp × AV)} {e1 e2 : Env} (h : Rd d e1 e2) {o : VOper} (hf : Free d o) (hK : ∀ f1 f2, Rd d f1 f2 → K f1 → K' f2) (hW : wStep P tab kp o K e1) : wStep P tab kp o K' e2 := by
  unfold wStep at hW ⊢
  cases hg : o.guard with
  | none => rw [hg] at hW; exact wOp_frame h hf hK hW
  | some tw =>
    obtain ⟨t, want⟩ := tw
    rw [hg] at hW
    simp only at hW ⊢
    have ht := h.look hf (ment_guard hg)
    rw [← ht]
    have hnm : ∀ t' u, d = some (t', u) → some t ≠ some t' := fun t' u e e' => hf t' u e (by cases e'; exact ment_guard hg)
    split at hW
    · exact ⟨fun e => wOp_frame (h.put' hnm) hf hK (hW.1 e), fun e => hK _ _ ((h.put' hnm).put' (free_dst hf)) (hW.2 e)⟩
    · exact hK _ _ (h.put' (free_dst hf)) hW
    · exact hW

theorem free_none (o : VOper) : Free none o := fun _ _ e => by cases e
theorem Rd.refl (e : Env) : Rd none e e := ⟨rfl, fun _ => rfl⟩
theorem Rd.symm {e1 e2 : Env} (h : Rd none e1 e2) : Rd none e2 e1 := ⟨h.1.symm, fun t => (h.2 t).symm⟩
theorem Rd.trans {e1 e2 e3 : Env} (h : Rd none e1 e2) (h' : Rd none e2 e3) : Rd none e1 e3 := ⟨h.1.trans h'.1, fun t => (h.2 t).trans (h'.2 t)⟩

/-- K, up to how the slots are written down. -/
def Kq (K : Env → Prop) (e : Env) : Prop := ∃ e', Rd none e' e ∧ K e'
theorem Kq.of {e : Env} (h : K e) : Kq K e := ⟨e, Rd.refl e, h⟩
theorem Kq.closed {e1 e2 : Env} (h : Rd none e1 e2) (hk : Kq K e1) : Kq K e2 := by obtain ⟨e', h1, h2⟩ := hk; exact ⟨e', h1.trans h, h2⟩
theorem Kq.flat {e : Env} (h : Kq (Kq K) e) : Kq K e := by obtain ⟨e', h1, h2⟩ := h; exact h2.closed h1

theorem wStep_mono {o : VOper} (hK : ∀ e, K e → K' e) (hW : wStep P tab kp o K env) : wStep P tab kp o K' env := by
  have key : ∀ {env : Env}, wOp P tab kp o K env → wOp P tab kp o K' env := by
    intro env hW
    unfold wOp at hW ⊢
    split at hW
    · split at hW
      · exact hW.mono fun v h' hq => ⟨hq.1, hK _ hq.2⟩
      · exact hW.mono fun v h' hq => ⟨hq.1, hK _ hq.2⟩
      · exact hW.mono fun v h' hq => ⟨hq.1, hK _ hq.2⟩
      · exact hW
    · split at hW
      · exact hW.mono fun v h' hq => ⟨hq.1, hK _ hq.2⟩
      · exact hW
    · split at hW
      · rename_i hdd
        rw [if_pos hdd]
        split at hW
        · exact ⟨hW.1, hW.2.1, hK _ hW.2.2⟩
        · exact hW
      · rename_i hdd
        rw [if_neg hdd]
        split at hW
        · exact ⟨hW.1, hK _ hW.2⟩
        · exact hW
  unfold wStep at hW ⊢
  split at hW
  · exact key hW
  · split at hW
    · exact ⟨fun e => key (hW.1 e), fun e => hK _ (hW.2 e)⟩
    · exact hK _ hW
    · exact hW

theorem wOps_frame : ∀ {vl : List VOper} {e1 e2 : Env}, Rd none e1 e2 → wOps P tab kp vl K e1 → wOps P tab kp vl (Kq K) e2
  | [], _, _, h, hW => ⟨_, h, hW⟩
  | _ :: _, _, _, h, hW => wStep_frame h (free_none _) (fun _ _ h' => wOps_frame h') hW

theorem wOps_mono : ∀ {vl : List VOper} {env : Env}, (∀ e, K e → K' e) → wOps P tab kp vl K env → wOps P tab kp vl K' env
  | [], _, h, hW => h _ hW
  | _ :: _, _, h, hW => wStep_mono (fun _ => wOps_mono h) hW

theorem wOps_Kq {vl : List VOper} {e : Env} (h : Kq (wOps P tab kp vl (Kq K)) e) : wOps P tab kp vl (Kq K) e := by
  obtain ⟨e', h1, h2⟩ := h
  exact wOps_mono (fun _ => Kq.flat) (wOps_frame h1 h2)

/-- What a look at an operation that leaves memory as it is gives, its guard included. -/
def lval (tab : Tab) (kp : List Blk) (o : VOper) (env : Env) : Option (Prop × AV) :=
  match o.guard with
  | none => evX tab (o.envOf kp env) o.op
  | some (t, want) => match look env.s t with
    | some (.d (.bool b)) => if b = want then evX tab (o.envOf kp env) o.op else some (True, .tup [])
    | some (.tup []) => some (True, .tup [])
    | _ => none

theorem envOf_ev {o : VOper} {e1 e2 : Env} {x : Operand} (h : ev e1 x = ev e2 x) : ev (o.envOf kp e1) x = ev (o.envOf kp e2) x := by
  unfold VOper.envOf
  cases o.fl
  · exact h
  · cases x <;> exact h

theorem lval_congr {o : VOper} {e1 e2 : Env} (h : ∀ t ∈ o.ment, look e1.s t = look e2.s t) (hh : o.fl = true ∨ e1.h = e2.h) : lval tab kp o e1 = lval tab kp o e2 := by
  have he : evX tab (o.envOf kp e1) o.op = evX tab (o.envOf kp e2) o.op := by
    refine evX_congr (fun x hx => envOf_ev (ev_congr fun t e => h t (ment_op (by rw [← e]; exact hx)))) ?_
    unfold VOper.envOf
    rcases hh with hh | hh
    · rw [hh]; rfl
    · cases o.fl
      · exact hh
      · rfl
  unfold lval
  rw [he]
  cases hg : o.guard with
  | none => rfl
  | some tw =>
    obtain ⟨t, want⟩ := tw
    simp only
    rw [h t (ment_guard hg)]

theorem named {env : Env} {t : Tmp} {b c : Bool} (hb : look env.s t = some (.d (.bool b))) (hc : b = c) : Rd none (env.put (some t) (.d (.bool c))) env := by
  subst hc
  refine ⟨rfl, fun i => ?_⟩
  simp only [Env.put, look, putD]
  by_cases e : t = i
  · subst e; rw [if_pos rfl, hb]
  · rw [if_neg e]

theorem lval_rd {o : VOper} {e1 e2 : Env} (h : Rd none e1 e2) : lval tab kp o e1 = lval tab kp o e2 := lval_congr (fun t _ => h.2 t) (.inr h.1)

theorem light_out {o : VOper} (hl : isHeavy o.mu o.op = false) (hW : wStep P tab kp o K env) : ∃ ob u, lval tab kp o env = some (ob, u) ∧ ob ∧ Kq K (env.put o.dst u) := by
  have key : ∀ {e : Env}, Rd none e env → wOp P tab kp o K e → ∃ ob u, evX tab (o.envOf kp env) o.op = some (ob, u) ∧ ob ∧ Kq K (env.put o.dst u) := by
    intro e he hw
    rw [wOp_light hl] at hw
    split at hw
    · rename_i ob v h1
      refine ⟨ob, v, ?_, hw.1, _, he.put' (by intro _ _ e; cases e), hw.2⟩
      rw [← h1]
      refine evX_congr (fun x _ => envOf_ev (ev_congr fun t _ => (he.2 t).symm)) ?_
      unfold VOper.envOf
      cases o.fl
      · exact he.1.symm
      · rfl
    · exact hw.elim
  unfold wStep at hW
  unfold lval
  cases hg : o.guard with
  | none => rw [hg] at hW; exact key (Rd.refl _) hW
  | some tw =>
    obtain ⟨t, want⟩ := tw
    rw [hg] at hW
    simp only at hW ⊢
    split at hW
    · rename_i b hb
      rw [hb]
      simp only
      by_cases e : b = want
      · rw [if_pos e]
        exact key (named hb e) (hW.1 e)
      · rw [if_neg e]
        have e' : b = !want := by cases b <;> cases want <;> simp_all
        exact ⟨True, .tup [], rfl, trivial, _, (named hb e').put' (by intro _ _ e; cases e), hW.2 e'⟩
    · rename_i hb
      rw [hb]
      exact ⟨True, .tup [], rfl, trivial, Kq.of hW⟩
    · exact hW.elim

theorem light_in {o : VOper} (hl : isHeavy o.mu o.op = false) {ob : Prop} {u : AV} (hv : lval tab kp o env = some (ob, u)) (ho : ob) (hK : Kq K (env.put o.dst u)) : wStep P tab kp o (Kq K) env := by
  have key : ∀ {e : Env}, Rd none e env → evX tab (o.envOf kp env) o.op = some (ob, u) → wOp P tab kp o (Kq K) e := by
    intro e he h1
    rw [wOp_light hl]
    have : evX tab (o.envOf kp e) o.op = evX tab (o.envOf kp env) o.op := by
      refine evX_congr (fun x _ => envOf_ev (ev_congr fun t _ => he.2 t)) ?_
      unfold VOper.envOf
      cases o.fl
      · exact he.1
      · rfl
    rw [this, h1]
    exact ⟨ho, Kq.closed (he.symm.put' (by intro _ _ e; cases e)) hK⟩
  unfold wStep
  unfold lval at hv
  cases hg : o.guard with
  | none => rw [hg] at hv; exact key (Rd.refl _) hv
  | some tw =>
    obtain ⟨t, want⟩ := tw
    rw [hg] at hv
    simp only at hv ⊢
    split at hv
    · rename_i b hb
      rw [hb]
      by_cases e : b = want
      · rw [if_pos e] at hv
        refine ⟨fun _ => key (named hb e) hv, fun e' => ?_⟩
        subst e; cases b <;> simp at e'
      · rw [if_neg e] at hv
        cases hv
        refine ⟨fun e' => absurd e' e, fun e' => Kq.closed ((named hb e').symm.put' (by intro _ _ e; cases e)) hK⟩
    · rename_i hb
      rw [hb]
      cases hv; exact hK
    · simp at hv

/-- What an operation leaves as it was. -/
def Kept (o : VOper) (env e : Env) : Prop := (∀ t, o.dst ≠ some t → look e.s t = look env.s t) ∧ (isHeavy o.mu o.op = false → e.h = env.h)

theorem look_put {e : Env} {h' : List Blk} {d : Option Tmp} {v : AV} {t : Tmp} (hd : d ≠ some t) : look (Env.put ⟨e.s, h'⟩ d v).s t = look e.s t := by
  cases d with
  | none => rfl
  | some d => simp only [Env.put, look]; rw [if_neg (fun e => hd (by rw [e]))]

theorem wOp_track {o : VOper} {e0 : Env} (h0 : Rd none e0 env) (hW : wOp P tab kp o K e0) : wOp P tab kp o (fun e => K e ∧ Kept o env e) e0 := by
  have hk : ∀ (h' : List Blk) (v : AV), (isHeavy o.mu o.op = false → h' = env.h) → Kept o env (Env.put ⟨e0.s, h'⟩ o.dst v) := fun h' v hh => ⟨fun t ht => by rw [look_put ht]; exact h0.2 t, fun hl => by
    rw [← hh hl]; cases o.dst <;> rfl⟩
  by_cases hl : isHeavy o.mu o.op = false
  · rw [wOp_light hl] at hW ⊢
    split at hW
    · exact ⟨hW.1, hW.2, hk e0.h _ (fun _ => h0.1)⟩
    · exact hW
  · have hk' : ∀ (h' : List Blk) (v : AV), Kept o env (Env.put ⟨e0.s, h'⟩ o.dst v) := fun h' v => hk h' v (fun e => absurd e hl)
    unfold wOp at hW ⊢
    split at hW
    · split at hW
      · exact hW.mono fun v h' hq => ⟨hq.1, hq.2, hk' _ _⟩
      · exact hW.mono fun v h' hq => ⟨hq.1, hq.2, hk' _ _⟩
      · exact hW.mono fun v h' hq => ⟨hq.1, hq.2, hk' _ _⟩
      · exact hW
    · split at hW
      · exact hW.mono fun v h' hq => ⟨hq.1, hq.2, hk' _ _⟩
      · exact hW
    · split at hW
      · rename_i hdd
        rw [if_pos hdd]
        split at hW
        · exact ⟨hW.1, hW.2.1, hW.2.2, hk' _ _⟩
        · exact hW
      · rename_i hnc hnn hnd
        exfalso
        apply hl
        simp only [isHeavy, Bool.or_eq_false_iff]
        refine ⟨by simpa using hnd, ?_⟩
        cases hcc : isCall o.op with
        | false => rfl
        | true =>
          exfalso
          cases ho : o.op with
          | call c =>
            obtain ⟨callee, args, ts⟩ := c
            cases callee with
            | value f => exact hnc f args ts ho
            | _ => rw [ho] at hcc; simp [isCall] at hcc
          | next it st => cases st with
            | false => exact hnn it ho
            | true => rw [ho] at hcc; simp [isCall] at hcc
          | _ => rw [ho] at hcc; simp [isCall] at hcc

theorem wStep_track {o : VOper} (hW : wStep P tab kp o K env) : wStep P tab kp o (fun e => K e ∧ Kept o env e) env := by
  unfold wStep at hW ⊢
  split at hW
  · exact wOp_track (Rd.refl _) hW
  · split at hW
    · rename_i b hb
      refine ⟨fun e => wOp_track (named hb e) (hW.1 e), fun e => ⟨hW.2 e, ?_⟩⟩
      have := named hb e
      exact ⟨fun t ht => by rw [show (env.put _ (AV.d (D.bool _))) = ⟨(env.put _ (AV.d (D.bool _))).s, (env.put _ (AV.d (D.bool _))).h⟩ from rfl, look_put ht]; exact this.2 t, fun _ => by cases o.dst <;> rfl⟩
    · exact ⟨hW, fun t ht => by rw [show env = ⟨env.s, env.h⟩ from rfl, look_put ht], fun _ => by cases o.dst <;> rfl⟩
    · exact hW

/-- May x, which is looked at before y, be looked at behind y? -/
structure Swap (x y : VOper) : Prop where
  light : isHeavy x.mu x.op = false
  xy : ∀ t, x.dst = some t → t ∉ y.ment
  yx : ∀ t, y.dst = some t → t ∉ x.ment
  fl : isHeavy y.mu y.op = true → x.fl = true

theorem wStep_swap {x y : VOper} (hs : Swap x y) (hW : wStep P tab kp x (wStep P tab kp y K) env) : wStep P tab kp y (wStep P tab kp x (Kq K)) env := by
  obtain ⟨ob, u, h1, h2, e', h3, h4⟩ := light_out hs.light hW
  have h5 : wStep P tab kp y (Kq K) (env.put x.dst u) := wStep_frame h3 (free_none _) (fun f1 f2 h hk => ⟨f1, h, hk⟩) h4
  have hd : Rd (x.dst.map fun t => (t, u)) (env.put x.dst u) env := by
    cases hx : x.dst with
    | none => exact Rd.refl _
    | some t => exact ⟨rfl, fun i => rfl⟩
  have hf : Free (x.dst.map fun t => (t, u)) y := by
    intro t v e
    cases hx : x.dst with
    | none => rw [hx] at e; cases e
    | some t' => rw [hx] at e; cases e; exact hs.xy t hx
  have h6 : wStep P tab kp y (fun e => Kq K (e.put x.dst u)) env := wStep_frame hd hf (fun f1 f2 h hk => by
    refine Kq.closed ⟨?_, fun t => ?_⟩ hk
    · rw [h.1]; cases x.dst <;> rfl
    · rw [h.2 t]; cases x.dst <;> rfl) h5
  refine wStep_mono ?_ (wStep_track h6)
  rintro e ⟨hk, hkept⟩
  refine light_in hs.light ?_ h2 hk
  rw [← h1]
  refine lval_congr (fun t ht => hkept.1 t (fun e => hs.yx t e ht)) ?_
  cases hh : isHeavy y.mu y.op with
  | true => exact .inl (hs.fl hh)
  | false => exact .inr (hkept.2 hh)

theorem bubble {i : VOper} {post : List VOper} : ∀ {pre : List VOper} {env : Env}, (∀ x ∈ pre, Swap x i) → wOps P tab kp (pre ++ i :: post) K env → wOps P tab kp (i :: (pre ++ post)) (Kq K) env
  | [], env, _, hW => wOps_mono (vl := i :: post) (fun _ => Kq.of) hW
  | x :: pre, env, hs, hW => by
    have h1 : wStep P tab kp x (wOps P tab kp (pre ++ i :: post) K) env := hW
    have h2 : wStep P tab kp x (wStep P tab kp i (wOps P tab kp (pre ++ post) (Kq K))) env := wStep_mono (fun e he => bubble (fun y hy => hs y (by simp [hy])) he) h1
    have h3 := wStep_swap (hs x (by simp)) h2
    show wStep P tab kp i (wStep P tab kp x (wOps P tab kp (pre ++ post) (Kq K))) env
    exact wStep_mono (fun e he => wStep_mono (fun e' he' => wOps_Kq he') he) h3

/-! ### The list of what is still to be done -/

structure Left (ops : Array Oper) (listed : Array Bool) (L : List Nat) : Prop where
  size : listed.size = ops.size
  mem : ∀ i, i < ops.size → listed[i]? = some (decide (i ∉ L))
  lt : ∀ i ∈ L, i < ops.size
  nd : L.Nodup
  down : ∀ i o, ops[i]? = some o → i ∉ L → ∀ p ∈ preds o, p < ops.size ∧ p ∉ L

theorem mem_preds {o : Oper} {p : Nat} : p ∈ preds o ↔ ∃ e ∈ o.after, Region.binds .any e = true ∧ e.on = p := by
  unfold preds
  simp only [List.mem_filterMap, Array.mem_toList_iff]
  constructor
  · rintro ⟨e, he, h⟩
    split at h
    · rename_i hb; cases h; exact ⟨e, he, hb, rfl⟩
    · simp at h
  · rintro ⟨e, he, hb, rfl⟩
    exact ⟨e, he, by rw [if_pos hb]⟩

theorem Left.ready {ops : Array Oper} {listed : Array Bool} {L : List Nat} (h : Left ops listed L) {i : Nat} (hi : i ∈ Region.ready .any ops listed) :
    i ∈ L ∧ ∃ o, ops[i]? = some o ∧ ∀ p ∈ preds o, p < ops.size ∧ p ∉ L := by
  unfold Region.ready at hi
  simp only [List.mem_filter, List.mem_range, Bool.and_eq_true, Bool.not_eq_true'] at hi
  obtain ⟨hlt, h1, h2⟩ := hi
  have hm := h.mem i hlt
  have hin : i ∈ L := by
    rw [Array.getD_eq_getD_getElem?, hm] at h1
    simpa using h1
  refine ⟨hin, ?_⟩
  cases ho : ops[i]? with
  | none => rw [ho] at h2; simp at h2
  | some o =>
    refine ⟨o, rfl, fun p hp => ?_⟩
    obtain ⟨e, he, hb, rfl⟩ := mem_preds.mp hp
    rw [ho] at h2
    simp only [Option.map_some, Option.getD_some, Array.all_eq_true'] at h2
    have := h2 e he
    rw [hb] at this
    simp only [Bool.not_true, Bool.false_or] at this
    have hpl : e.on < ops.size := by
      rcases Nat.lt_or_ge e.on ops.size with h' | h'
      · exact h'
      · rw [Array.getD_eq_getD_getElem?, Array.getElem?_eq_none (by rw [h.size]; exact h')] at this
        simp at this
    refine ⟨hpl, ?_⟩
    rw [Array.getD_eq_getD_getElem?, h.mem _ hpl] at this
    simpa using this

theorem Left.ready_of {ops : Array Oper} {listed : Array Bool} {L : List Nat} (h : Left ops listed L) {i : Nat} {o : Oper} (hi : i ∈ L) (ho : ops[i]? = some o) (hp : ∀ p ∈ preds o, p < ops.size ∧ p ∉ L) :
    i ∈ Region.ready .any ops listed := by
  have hlt := h.lt i hi
  unfold Region.ready
  simp only [List.mem_filter, List.mem_range, Bool.and_eq_true, Bool.not_eq_true']
  refine ⟨hlt, ?_, ?_⟩
  · rw [Array.getD_eq_getD_getElem?, h.mem i hlt]
    simpa using hi
  · rw [ho]
    simp only [Option.map_some, Option.getD_some, Array.all_eq_true']
    intro e he
    cases hb : Region.binds .any e with
    | false => simp
    | true =>
      obtain ⟨h1, h2⟩ := hp e.on (mem_preds.mpr ⟨e, he, hb, rfl⟩)
      rw [Array.getD_eq_getD_getElem?, h.mem _ h1]
      simpa using h2

theorem Left.dep {ops : Array Oper} {listed : Array Bool} {L : List Nat} (h : Left ops listed L) : ∀ (f x y : Nat) (o : Oper), ops[y]? = some o → (∀ p ∈ preds o, p < ops.size ∧ p ∉ L) → Vm.dep ops f x y = true → x ∉ L
  | 0, x, y, o, _, _, hd => by simp [Vm.dep] at hd
  | f + 1, x, y, o, ho, hp, hd => by
    simp only [Vm.dep, ho, List.any_eq_true, Bool.or_eq_true, beq_iff_eq] at hd
    obtain ⟨p, h1, h2⟩ := hd
    obtain ⟨h3, h4⟩ := hp p h1
    rcases h2 with rfl | h2
    · exact h4
    · have ho' : ops[p]? = some ops[p] := Array.getElem?_eq_getElem h3
      exact h.dep f x p _ ho' (h.down p _ ho' h4) h2

theorem dep_direct {ops : Array Oper} {p x : Nat} {o : Oper} {f : Nat} (ho : ops[x]? = some o) (hp : p ∈ preds o) (hf : 0 < f) : Vm.dep ops f p x = true := by
  obtain ⟨f, rfl⟩ : ∃ g, f = g + 1 := ⟨f - 1, by omega⟩
  simp only [Vm.dep, ho, List.any_eq_true, Bool.or_eq_true, beq_iff_eq]
  exact ⟨p, hp, .inl rfl⟩

theorem pairsOk_split {ops : Array Oper} {fl : Nat → Bool} {i : Nat} {post : List Nat} : ∀ {pre : List Nat}, pairsOk mu ops fl (pre ++ i :: post) = true →
    (∀ x ∈ pre, pairOk mu ops fl x i = true) ∧ pairsOk mu ops fl (pre ++ post) = true
  | [], h => by
    simp only [List.nil_append, pairsOk, Bool.and_eq_true] at h
    exact ⟨by simp, h.2⟩
  | x :: pre, h => by
    simp only [List.cons_append, pairsOk, Bool.and_eq_true, List.all_append, List.all_cons] at h
    obtain ⟨⟨h0, h1, h2, h3⟩, h4⟩ := h
    obtain ⟨h5, h6⟩ := pairsOk_split h4
    refine ⟨fun y hy => ?_, ?_⟩
    · rcases List.mem_cons.mp hy with rfl | hy
      · exact h2
      · exact h5 y hy
    · simp only [List.cons_append, pairsOk, Bool.and_eq_true, List.all_append]
      exact ⟨⟨h0, h1, h3⟩, h6⟩

theorem stripAt_split {ops : Array Oper} {fl : Nat → Bool} {i : Nat} {post : List Nat} : ∀ {pre : List Nat} {vl : List VOper}, stripAt nt mu ops fl (pre ++ i :: post) = some vl →
    ∃ vpre vi vpost, vl = vpre ++ vi :: vpost ∧ (ops[i]?).bind (stripOp nt mu ops (fl i)) = some vi ∧ stripAt nt mu ops fl (pre ++ post) = some (vpre ++ vpost) ∧
      ∀ v ∈ vpre, ∃ x ∈ pre, (ops[x]?).bind (stripOp nt mu ops (fl x)) = some v
  | [], vl, h => by
    simp only [List.nil_append, stripAt] at h
    split at h
    · rename_i v vs h1 h2
      cases h
      exact ⟨[], v, vs, rfl, h1, h2, by simp⟩
    · simp at h
  | x :: pre, vl, h => by
    simp only [List.cons_append, stripAt] at h
    split at h
    · rename_i v vs h1 h2
      cases h
      obtain ⟨vpre, vi, vpost, rfl, h3, h4, h5⟩ := stripAt_split h2
      refine ⟨v :: vpre, vi, vpost, rfl, h3, by simp only [List.cons_append, stripAt, h1, h4], fun u hu => ?_⟩
      rcases List.mem_cons.mp hu with rfl | hu
      · exact ⟨x, by simp, h1⟩
      · obtain ⟨y, hy, h6⟩ := h5 u hu
        exact ⟨y, by simp [hy], h6⟩
    · simp at h

theorem stripOp_ment {ops : Array Oper} {fl : Bool} {o : Oper} {v : VOper} (h : stripOp nt mu ops fl o = some v) : v.ment = mentions ops o ∧ v.fl = fl ∧ v.mu = muAt mu o := by
  have hs := stripOp_some h
  obtain ⟨_, hop, hdst, hg⟩ := hs
  refine ⟨?_, ?_⟩
  · unfold VOper.ment mentions
    rw [hop, hdst]
    rcases hg with ⟨h1, h2⟩ | ⟨j, want, d, h1, h2, h3⟩
    · rw [h1, h2]
      rfl
    · rw [h1, h2]
      simp only [h3]
      rfl
  · unfold stripOp at h
    split at h
    · simp at h
    · split at h
      · cases h; exact ⟨rfl, rfl⟩
      · split at h
        · cases h; exact ⟨rfl, rfl⟩
        · simp at h

theorem pairsOk_nodup {ops : Array Oper} {fl : Nat → Bool} : ∀ {L : List Nat}, pairsOk mu ops fl L = true → L.Nodup
  | [], _ => List.nodup_nil
  | x :: r, h => by
    simp only [pairsOk, Bool.and_eq_true, List.all_eq_true] at h
    obtain ⟨⟨_, h1⟩, h2⟩ := h
    refine List.nodup_cons.mpr ⟨fun hx => ?_, pairsOk_nodup h2⟩
    have := h1 x hx
    unfold pairOk at this
    simp at this

/-- What is kept is there, or nothing that floats is left. -/
def KpInv (kp : List Blk) (vl : List VOper) (env : Env) : Prop := LeB kp env.h ∨ ∀ v ∈ vl, isHeavy v.mu v.op = false → isRead v.op = true → v.fl = false

theorem stripAt_mem {ops : Array Oper} {fl : Nat → Bool} : ∀ {L : List Nat} {vl : List VOper}, stripAt nt mu ops fl L = some vl → ∀ v ∈ vl, ∃ x ∈ L, (ops[x]?).bind (stripOp nt mu ops (fl x)) = some v
  | [], vl, h, v, hv => by simp only [stripAt, Option.some.injEq] at h; subst h; cases hv
  | x :: L, vl, h, v, hv => by
    simp only [stripAt] at h
    split at h
    · rename_i u us h1 h2
      cases h
      rcases List.mem_cons.mp hv with rfl | hv
      · exact ⟨x, by simp, h1⟩
      · obtain ⟨y, hy, h3⟩ := stripAt_mem h2 v hv
        exact ⟨y, by simp [hy], h3⟩
    · simp at h

theorem any_order (hT : tab.checks P = true) {ops : Array Oper} {fl : Nat → Bool} {K0 : Env → Prop} {Q : Exit → Act → World → Prop} : ∀ (fuel : Nat) (listed : Array Bool) (L : List Nat) (vl : List VOper) (F : Frz) (ρ : Env0) (env : Env) (a : Act) (w : World),
    L.length ≤ fuel → Left ops listed L → (∀ o ∈ ops, ∀ p ∈ preds o, p < ops.size) → pairsOk mu ops fl L = true → (∀ x y, x < ops.size → y < ops.size → heavyAt mu ops y = true → fl y = false → heavyAt mu ops x = false → fl x = true → readAt ops x = true → Vm.dep ops ops.size x y = true) →
    stripAt nt mu ops fl L = some vl → Rel (psz P) base w0 m nt F ρ env a w → KpInv kp vl env → wOps P tab kp vl (Kq K0) env →
    (∀ a' w', KC P base w0 m nt F ρ (Kq K0) a' w' → Q .normal a' w') → wpAny P .any ops Q fuel listed a w := by
  intro fuel
  induction fuel with
  | zero =>
    intro listed L vl F ρ env a w hlen hleft hpl hpo hke hst hr hkp hW hn
    have : L = [] := List.eq_nil_of_length_eq_zero (by omega)
    subst this
    simp only [stripAt, Option.some.injEq] at hst
    subst hst
    refine ⟨?_, hn _ _ ⟨F, ρ, env, Ext.refl _ _ _, hr, hW⟩⟩
    rw [List.eq_nil_iff_forall_not_mem]
    intro i hi
    exact absurd (hleft.ready hi).1 (by simp)
  | succ fuel ih =>
    intro listed L vl F ρ env a w hlen hleft hpl hpo hke hst hr hkp hW hn
    refine ⟨fun hnil => ?_, fun i hi => ?_⟩
    · cases L with
      | nil =>
        simp only [stripAt, Option.some.injEq] at hst
        subst hst
        exact hn _ _ ⟨F, ρ, env, Ext.refl _ _ _, hr, hW⟩
      | cons x r =>
        exfalso
        have hlt := hleft.lt x (by simp)
        have ho : ops[x]? = some ops[x] := Array.getElem?_eq_getElem hlt
        have hrd : x ∈ Region.ready .any ops listed := by
          refine hleft.ready_of (by simp) ho (fun p hp => ⟨hpl _ (Array.getElem_mem hlt) p hp, fun hin => ?_⟩)
          simp only [pairsOk, Bool.and_eq_true, Bool.not_eq_true', List.all_eq_true] at hpo
          obtain ⟨⟨h0, h1⟩, _⟩ := hpo
          have hd := dep_direct (f := ops.size) ho hp (by omega)
          rcases List.mem_cons.mp hin with rfl | hin
          · rw [h0] at hd; cases hd
          · have := h1 p hin
            unfold pairOk at this
            rw [hd] at this
            simp at this
        rw [hnil] at hrd
        cases hrd
    · obtain ⟨hin, o, ho, hpr⟩ := hleft.ready hi
      obtain ⟨pre, post, rfl⟩ := List.append_of_mem hin
      obtain ⟨vpre, vi, vpost, rfl, h3, h4, h5⟩ := stripAt_split hst
      obtain ⟨h6, h7⟩ := pairsOk_split hpo
      rw [ho] at h3
      simp only [Option.bind_some] at h3
      have hm := stripOp_ment h3
      have hs3 := stripOp_some h3
      have hsw : ∀ v ∈ vpre, Swap v vi := by
        intro v hv
        obtain ⟨x, hx, h8⟩ := h5 v hv
        have hxl := hleft.lt x (by simp [hx])
        have hox : ops[x]? = some ops[x] := Array.getElem?_eq_getElem hxl
        rw [hox] at h8
        simp only [Option.bind_some] at h8
        have hm8 := stripOp_ment h8
        have hs8 := stripOp_some h8
        have hp := h6 x hx
        unfold pairOk at hp
        have hnd : Vm.dep ops ops.size x i = false := by
          cases hd : Vm.dep ops ops.size x i with
          | false => rfl
          | true => exact absurd (by simp [hx] : x ∈ pre ++ i :: post) (hleft.dep _ _ _ o ho hpr hd)
        rw [hnd] at hp
        simp only [Bool.false_or, Bool.and_eq_true, Bool.not_eq_true', Bool.or_eq_true] at hp
        obtain ⟨⟨_, _⟩, ⟨hhx, hap⟩, hfl⟩ := hp
        unfold apartAt at hap
        rw [hox, ho] at hap
        simp only [Bool.and_eq_true] at hap
        refine ⟨?_, fun t ht => ?_, fun t ht => ?_, fun hh => ?_⟩
        · rw [hs8.2.1, hm8.2.2]
          unfold heavyAt at hhx
          rw [hox] at hhx
          exact hhx
        · rw [hm.1]
          have := hap.1
          rw [← hs8.2.2.1, ht] at this
          simpa using this
        · rw [hm8.1]
          have := hap.2
          rw [← hs3.2.2.1, ht] at this
          simpa using this
        · rw [hm8.2.1]
          rcases hfl with hfl | hfl
          · unfold heavyAt at hfl
            rw [ho] at hfl
            rw [hs3.2.1, hm.2.2, show isHeavy (muAt mu o) o.op = false from hfl] at hh
            cases hh
          · exact hfl
      have hb := wOps_mono (fun _ => Kq.flat) (bubble hsw hW)
      have hb' : wStep P tab kp vi (wOps P tab kp (vpre ++ vpost) (Kq K0)) env := hb
      have hlt := hleft.lt i hin
      have hleft' : Left ops (listed.setIfInBounds i true) (pre ++ post) := by
        have hnd := hleft.nd
        have hni : i ∉ pre ++ post := by
          rw [List.nodup_append] at hnd
          obtain ⟨_, h2, h3⟩ := hnd
          simp only [List.nodup_cons] at h2
          simp only [List.mem_append, not_or]
          exact ⟨fun hp => h3 i hp i (by simp) rfl, h2.1⟩
        have hiff : ∀ j, j ∈ pre ++ i :: post ↔ j = i ∨ j ∈ pre ++ post := by
          intro j
          simp only [List.mem_append, List.mem_cons]
          constructor
          · rintro (h | h | h)
            · exact .inr (.inl h)
            · exact .inl h
            · exact .inr (.inr h)
          · rintro (h | h | h)
            · exact .inr (.inl h)
            · exact .inl h
            · exact .inr (.inr h)
        refine ⟨by simp [hleft.size], fun j hj => ?_, fun j hj => hleft.lt j ((hiff j).mpr (.inr hj)), ?_, fun j o' ho' hj p hp => ?_⟩
        · rw [Array.getElem?_setIfInBounds]
          by_cases e : i = j
          · subst e
            rw [if_pos rfl, if_pos (by rw [hleft.size]; exact hj)]
            simp [hni]
          · rw [if_neg e, hleft.mem j hj]
            congr 1
            simp only [decide_eq_decide]
            rw [hiff j]
            simp [Ne.symm e]
        · rw [List.nodup_append] at hnd ⊢
          obtain ⟨h1, h2, h3⟩ := hnd
          simp only [List.nodup_cons] at h2
          exact ⟨h1, h2.2, fun x hx y hy => h3 x hx y (by simp [hy])⟩
        · have hstep : p < ops.size ∧ p ∉ pre ++ i :: post := by
            by_cases e : j = i
            · subst e
              rw [ho] at ho'
              cases ho'
              exact hpr p hp
            · exact hleft.down j o' ho' (fun hjm => by rcases (hiff j).mp hjm with h | h; exact e h; exact hj h) p hp
          exact ⟨hstep.1, fun hpm => hstep.2 ((hiff p).mpr (.inr hpm))⟩
      have hneed : Need kp vi env := by
        intro hl hf hrd
        rcases hkp with hkp | hkp
        · exact hkp
        · rw [hkp vi (by simp) hl hrd] at hf; cases hf
      have hkeep : ∀ {e : Env}, Aft kp vi env.h e → KpInv kp (vpre ++ vpost) e := by
        intro e he
        rcases he with he | ⟨hh, he⟩
        · rcases hkp with hkp | hkp
          · exact .inl (by rw [he]; exact hkp)
          · refine .inr fun v hv => hkp v ?_
            simp only [List.mem_append, List.mem_cons] at hv ⊢
            rcases hv with hv | hv
            · exact .inl hv
            · exact .inr (.inr hv)
        · cases hfi : fl i with
          | true => exact .inl (he (by rw [hm.2.1]; exact hfi))
          | false =>
            right
            intro v hv hlv hrd
            obtain ⟨x, hx, h8⟩ := stripAt_mem h4 v hv
            have hxl := hleft.lt x (by
              simp only [List.mem_append, List.mem_cons] at hx ⊢
              rcases hx with hx | hx
              · exact .inl hx
              · exact .inr (.inr hx))
            have hox : ops[x]? = some ops[x] := Array.getElem?_eq_getElem hxl
            rw [hox] at h8
            simp only [Option.bind_some] at h8
            have hm8 := stripOp_ment h8
            have hs8 := stripOp_some h8
            rw [hm8.2.1]
            cases hfx : fl x with
            | false => rfl
            | true =>
              exfalso
              have hd := hke x i hxl hlt (by unfold heavyAt; rw [ho]; rw [hs3.2.1, hm.2.2] at hh; exact hh) hfi (by unfold heavyAt; rw [hox]; rw [hs8.2.1, hm8.2.2] at hlv; exact hlv) hfx (by unfold readAt; rw [hox]; rw [hs8.2.1] at hrd; exact hrd)
              refine hleft.dep _ _ _ o ho hpr hd ?_
              simp only [List.mem_append, List.mem_cons] at hx ⊢
              rcases hx with hx | hx
              · exact .inl hx
              · exact .inr (.inr hx)
      have := wStep_sound (Q := Q) hT hr h3 hneed hb' (next := wpAny P .any ops Q fuel (listed.setIfInBounds i true)) (fun a' w' ⟨F', ρ', env', hx, hr', hk', hK⟩ =>
        ih _ (pre ++ post) _ F' ρ' env' a' w' (by simp only [List.length_append, List.length_cons] at hlen ⊢; omega) hleft' hpl h7 hke h4 hr' (hkeep hk') hK
          (fun a'' w'' ⟨F'', ρ'', env'', hx', hr'', hK'⟩ => hn _ _ ⟨F'', ρ'', env'', hx.trans hx', hr'', hK'⟩))
      unfold wpOp
      rw [ho]
      simp only
      split at this
      · rename_i hc; rw [if_pos hc]; exact .inl this
      · rename_i hc; rw [if_neg hc]; exact this

theorem Rel.rd {sz : TypeId → Nat} {e1 e2 : Env} (h : Rd none e1 e2) (hr : Rel sz base w0 m nt F ρ e2 a w) : Rel sz base w0 m nt F ρ e1 a w := by
  refine ⟨by rw [h.1]; exact hr.st, fun i v hi => ?_, hr.size, hr.defers, by rw [h.1]; exact hr.le⟩
  rw [h.2 i] at hi
  rw [h.1]
  exact hr.slots i v hi

theorem Rel.drew {sz : TypeId → Nat} (hr : Rel sz base w0 m nt F ρ env a w) : Rel sz base w0 m nt F ρ env a { w with drawn := w.drawn + 1 } := by
  refine ⟨⟨hr.st.frz, fun b x hx => ?_, hr.st.dist, hr.st.old, hr.st.hb, hr.st.lt⟩, hr.slots, hr.size, hr.defers, hr.le⟩
  exact (hr.st.blk b x hx).mono (Ext.refl _ _ _) rfl (Nat.le_refl _) (fun _ _ _ h => h) (fun _ _ _ _ => rfl)

theorem order_ok (hT : tab.checks P = true) (hm : P.follows .mixedOrders = true) : OrderOk P tab nt mu := by
  intro id ops vl base w0 m F ρ env a w K Q kp hd hr hkp hW hn
  refine wp_region_any hm ?_
  unfold drawList at hd
  simp only at hd
  split at hd
  · rename_i hc
    simp only [Bool.and_eq_true, beq_iff_eq, List.all_eq_true, List.mem_range, Array.all_eq_true', decide_eq_true_eq] at hc
    obtain ⟨⟨⟨⟨⟨h0, h1⟩, h2⟩, h5⟩, h3⟩, h4⟩ := hc
    have hsub : ∀ i, i < ops.size → i ∈ eager mu ops ops.size [] := fun i hi => by have := h2 i hi; simpa using this
    refine any_order hT ops.size _ (eager mu ops ops.size []) vl F ρ env a _ (by rw [h1]; exact Nat.le_refl _) ?_ (fun o ho p hp => h3 o ho p hp) h4 (fun x y hx hy a1 a2 a3 a4 a5 => by
      have h6 := List.all_eq_true.mp h0 y (hsub y hy)
      simp only [a1, a2, Bool.not_true, Bool.false_or, List.all_eq_true] at h6
      have h7 := h6 x (hsub x hx)
      simpa [a3, a4, a5] using h7) hd hr.drew (.inl hkp) (wOps_mono (fun _ => Kq.of) hW) ?_
    · refine ⟨by simp, fun i hi => ?_, fun i hi => h5 i hi, pairsOk_nodup h4, fun i o ho hni => ?_⟩
      · rw [Array.getElem?_replicate, if_pos hi]
        simp [hsub i hi]
      · exact absurd (hsub i (by
          rcases Nat.lt_or_ge i ops.size with h | h
          · exact h
          · simp [Array.getElem?_eq_none h] at ho)) hni
    · rintro a' w' ⟨F', ρ', env', hx, hr', e', he, hK⟩
      exact hn _ _ ⟨F', ρ', e', hx, hr'.rd he, hK⟩
  · simp at hd

end Go.Vm

/- A function's facts under one name, and the words for the proofs over W. -/
set_option linter.unusedSimpArgs false
namespace Go.Vm

/-- What the proofs need of a function of the program. -/
def FnIs (P : Program) (f : FuncId) (nt : Nat) (mu : Tmp → Bool) (rs : List ResultVar) (vc : VC) : Prop :=
  ∃ fn, P.funcs[f]? = some fn ∧ (fn.name == "runtime.NumGoroutine") = false ∧ fn.ntmps = nt ∧ fn.results.toList = rs ∧ fn.body.map (strip nt mu) = some vc

/-- A program whose types the table tells. -/
structure Pok (P : Program) (tab : Tab) : Prop where
  types : tab.checks P = true
  mixed : P.follows .mixedOrders = true

variable {P : Program} {tab : Tab}

theorem callW (hP : Pok P tab) {f : FuncId} {nt : Nat} {mu : Tmp → Bool} {rs : List ResultVar} {vc : VC} (hf : FnIs P f nt mu rs vc) {args : List AV} {h : List Blk} {Q : AV → List Blk → Prop} (hlen : args.length ≤ nt)
    (hW : HOk h → W P tab h.length nt vc (retW P tab h.length rs Q) ⟨argSlots 0 args, h⟩) : CallW P f args h Q := by
  obtain ⟨fn, h1, h2, h3, h4, h5⟩ := hf
  cases hb : fn.body with
  | none => rw [hb] at h5; cases h5
  | some c =>
    rw [hb] at h5
    simp only [Option.map_some, Option.some.injEq] at h5
    exact callW_of_body hP.types (order_ok hP.types hP.mixed) h1 hb h2 h3 h5 hlen (by rw [h4]; exact hW)

/-! Ways that part, and calls: words that simp does not look behind. -/

def condV (P : Program) (tab : Tab) (m nt : Nat) (b : Bool) (x y : VC) (Q : Exit → Env → Prop) (env : Env) : Prop := (b = true → W P tab m nt x Q env) ∧ (b = false → W P tab m nt y Q env)
def pbV (P : Program) (tab : Tab) (m nt : Nat) (p : Bool → Prop) (x y : VC) (Q : Exit → Env → Prop) (env : Env) : Prop := (p true → W P tab m nt x Q env) ∧ (p false → W P tab m nt y Q env)
def guardV (P : Program) (tab : Tab) (kp : List Blk) (b want : Bool) (t : Tmp) (o : VOper) (K : Env → Prop) (env : Env) : Prop :=
  (b = want → wOp P tab kp o K (env.put (some t) (.d (.bool want)))) ∧ (b = !want → K ((env.put (some t) (.d (.bool (!want)))).put o.dst (.tup [])))
/-- A region in which something that floats reads memory: what it may read is to be named. -/
def regV (P : Program) (tab : Tab) (ops : List VOper) (K : Env → Prop) (env : Env) : Prop := ∃ kp, LeB kp env.h ∧ wOps P tab kp ops K env
theorem regV_all {P : Program} {tab : Tab} {ops : List VOper} {K : Env → Prop} {env : Env} (h : wOps P tab env.h ops K env) : regV P tab ops K env := ⟨_, LeB.refl _, h⟩
theorem regV_at {P : Program} {tab : Tab} {ops : List VOper} {K : Env → Prop} {env : Env} (kp : List Blk) (hk : LeB kp env.h) (h : wOps P tab kp ops K env) : regV P tab ops K env := ⟨_, hk, h⟩
theorem regV_nil {P : Program} {tab : Tab} {ops : List VOper} {K : Env → Prop} {env : Env} (h : wOps P tab [] ops K env) : regV P tab ops K env := ⟨_, LeB.nil _, h⟩
def callV (P : Program) (g : FuncId) (vs : List AV) (kp : List Blk) (d : Option Tmp) (K : Env → Prop) (env : Env) : Prop :=
  CallW P g vs env.h fun v h' => LeB kp h' ∧ K (Env.put ⟨env.s, h'⟩ d v)

/-- A step of an iterator over a map: go on with nextV_of. -/
def nextV (b : Nat) (kp : List Blk) (d : Option Tmp) (K : Env → Prop) (env : Env) : Prop := NextW b env.h fun v h' => LeB kp h' ∧ K (Env.put ⟨env.s, h'⟩ d v)
theorem nextV_of {b mb cnt : Nat} {seen : List Nat} {es : List (D × AV)} {kp : List Blk} {d : Option Tmp} {K : Env → Prop} {env : Env} (hb : env.h[b]? = some (.iter mb cnt seen)) (hm : env.h[mb]? = some (.map es)) (hl : es.length = cnt)
    (h1 : ∀ i k x, es[i]? = some (k, x) → i ∉ seen → LeB kp (env.h.set b (.iter mb cnt (seen ++ [i]))) ∧ K (Env.put ⟨env.s, env.h.set b (.iter mb cnt (seen ++ [i]))⟩ d (.tup [.d (.bool true), .d k, x])))
    (h2 : (∀ i, i < es.length → i ∈ seen) → LeB kp env.h ∧ K (Env.put ⟨env.s, env.h⟩ d (.tup [.d (.bool false)]))) : nextV b kp d K env := by
  unfold nextV NextW
  rw [hb]
  simp only [hm]
  exact ⟨hl, h1, h2⟩

section
variable {m nt : Nat} {Q : Exit → Env → Prop} {env : Env} {x y : VC} {K : Env → Prop} {o : VOper} {kp : List Blk} {b want : Bool} {t : Tmp}
@[simp] theorem condV_true (h : b = true) : condV P tab m nt b x y Q env = W P tab m nt x Q env := by subst h; simp [condV]
@[simp] theorem condV_false (h : b = false) : condV P tab m nt b x y Q env = W P tab m nt y Q env := by subst h; simp [condV]
@[simp] theorem guardV_yes (h : b = want) : guardV P tab kp b want t o K env = wOp P tab kp o K (env.put (some t) (.d (.bool want))) := by subst h; cases b <;> simp [guardV]
@[simp] theorem guardV_no (h : b = !want) : guardV P tab kp b want t o K env = K ((env.put (some t) (.d (.bool (!want)))).put o.dst (.tup [])) := by subst h; cases want <;> simp [guardV]
theorem condV_of {p : Prop} [Decidable p] (h1 : p → W P tab m nt x Q env) (h2 : ¬ p → W P tab m nt y Q env) : condV P tab m nt (decide p) x y Q env := ⟨fun h => h1 (of_decide_eq_true h), fun h => h2 (of_decide_eq_false h)⟩
theorem condV_not {p : Prop} [Decidable p] (h1 : ¬ p → W P tab m nt x Q env) (h2 : p → W P tab m nt y Q env) : condV P tab m nt (!decide p) x y Q env := ⟨fun h => h1 (by simpa using h), fun h => h2 (by simpa using h)⟩
theorem condV_b (h1 : b = true → W P tab m nt x Q env) (h2 : b = false → W P tab m nt y Q env) : condV P tab m nt b x y Q env := ⟨h1, h2⟩
theorem pbV_of {p : Bool → Prop} (h1 : p true → W P tab m nt x Q env) (h2 : p false → W P tab m nt y Q env) : pbV P tab m nt p x y Q env := ⟨h1, h2⟩

theorem wStep_eq : wStep P tab kp o K env = (match o.guard with
    | none => wOp P tab kp o K env
    | some (t, want) => match look env.s t with
      | some (.d (.bool b)) => guardV P tab kp b want t o K env
      | some (.tup []) => K (env.put o.dst (.tup []))
      | _ => False) := rfl

@[simp] theorem wOps_nil : wOps P tab kp [] K env = K env := rfl
@[simp] theorem wOps_cons {r : List VOper} : wOps P tab kp (o :: r) K env = (match o.guard with
    | none => wOp P tab kp o (wOps P tab kp r K) env
    | some (t, want) => match look env.s t with
      | some (.d (.bool b)) => guardV P tab kp b want t o (wOps P tab kp r K) env
      | some (.tup []) => wOps P tab kp r K (env.put o.dst (.tup []))
      | _ => False) := rfl

@[simp] theorem wOp_eq : wOp P tab kp o K env = (match o.op with
  | .call { callee := .value f, args := args, argTypes := _ } => match ev env f, args.toList.mapM (ev env) with
    | some (.d (.fn g)), some vs => callV P g vs (if o.fl then kp else []) o.dst K env
    | some (.clo g cs), some vs => callV P g (vs ++ cs) (if o.fl then kp else []) o.dst K env
    | some (.bnd g bs), some vs => callV P g (bs ++ vs) (if o.fl then kp else []) o.dst K env
    | _, _ => False
  | .next it false => match ev env it with
    | some (.iter b) => nextV b (if o.fl then kp else []) o.dst K env
    | _ => False
  | op => if isDet o.mu op then (match evH tab o.mu env op with
      | some (ob, h', v) => ob ∧ LeB (if o.fl then kp else []) h' ∧ K (Env.put ⟨env.s, h'⟩ o.dst v)
      | none => False)
    else (match evX tab (if o.fl then ⟨env.s, kp⟩ else env) op with
      | some (ob, v) => ob ∧ K (env.put o.dst v)
      | none => False)) := rfl
end

section
variable {m nt : Nat} {Q : Exit → Env → Prop} {env : Env}
@[simp] theorem W_skip : W P tab m nt .skip Q env = Q .normal env := rfl
@[simp] theorem W_reg {ops : List VOper} : W P tab m nt (.reg ops) Q env = if anyReads ops then regV P tab ops (Q .normal) env else wOps P tab [] ops (Q .normal) env := rfl
@[simp] theorem W_seq {a b : VC} : W P tab m nt (.seq a b) Q env = W P tab m nt a (thenQ (W P tab m nt b Q) Q) env := rfl
@[simp] theorem W_block {id : Nat} {b : VC} : W P tab m nt (.block id b) Q env = W P tab m nt b (blockQ id Q) env := rfl
@[simp] theorem W_exit {id : Nat} : W P tab m nt (.exit id) Q env = Q (.exit id) env := rfl
@[simp] theorem W_ret : W P tab m nt .ret Q env = Q .ret env := rfl
@[simp] theorem W_cond {c : Operand} {x y : VC} : W P tab m nt (.cond c x y) Q env = (match ev env c with
    | some (.d (.bool b)) => condV P tab m nt b x y Q env
    | some (.pb p) => pbV P tab m nt p x y Q env
    | _ => False) := rfl
@[simp] theorem thenQ_n {N : Env → Prop} : thenQ N Q .normal env = N env := rfl
@[simp] theorem thenQ_r {N : Env → Prop} : thenQ N Q .ret env = Q .ret env := rfl
@[simp] theorem thenQ_e {N : Env → Prop} {i : Nat} : thenQ N Q (.exit i) env = Q (.exit i) env := rfl
@[simp] theorem blockQ_n {i : Nat} : blockQ i Q .normal env = Q .normal env := rfl
@[simp] theorem blockQ_r {i : Nat} : blockQ i Q .ret env = Q .ret env := rfl
@[simp] theorem blockQ_e {i j : Nat} : blockQ i Q (.exit j) env = if j = i then Q .normal env else Q (.exit j) env := rfl

theorem W_loop {ι : Type} (I : ι → Prop) (inv : ι → Env) (μ : ι → Nat) (i : ι) {b : VC} (hi : I i) (h1 : Shift P m nt env (inv i))
    (h2 : ∀ i, I i → W P tab m nt b (thenQ (fun env' => ∃ i', I i' ∧ Shift P m nt env' (inv i') ∧ μ i' < μ i) Q) (inv i)) : W P tab m nt (.loop b) Q env :=
  ⟨{ i // I i }, fun i => inv i.1, fun i => μ i.1, ⟨i, hi⟩, h1, fun i => by
    have := h2 i.1 i.2
    have e : (fun env' => ∃ i', I i' ∧ Shift P m nt env' (inv i') ∧ μ i' < μ i.1) = fun env' => ∃ i' : { i // I i }, Shift P m nt env' (inv i'.1) ∧ μ i'.1 < μ i.1 := by
      funext env'
      apply propext
      constructor
      · rintro ⟨i', a, b, c⟩; exact ⟨⟨i', a⟩, b, c⟩
      · rintro ⟨⟨i', a⟩, b, c⟩; exact ⟨i', a, b, c⟩
    rw [e] at this
    exact this⟩

theorem Shift.slots {s s' : Slots} {h : List Blk} (hs : ∀ kv ∈ s', ∃ v, look s kv.1 = some v ∧ Sub v kv.2) : Shift P m nt ⟨s, h⟩ ⟨s', h⟩ := by
  intro base w0 F ρ a w hr
  refine ⟨F, ρ, Ext.refl _ _ _, hr.st, fun i v hi => ?_, hr.size, hr.defers, hr.le⟩
  obtain ⟨u, h1, h2⟩ := hs _ (look_mem hi)
  obtain ⟨cv, h4, h5⟩ := hr.slots i u h1
  exact ⟨cv, h4, h2.rel h5⟩
end

@[simp] theorem sub_refl (x : AV) : Sub x x := .refl x
@[simp] theorem sub_unk (x : AV) : Sub x .unk := .unk x
@[simp] theorem sub_nil (e : TypeId) : Sub (.d .nilsl) (.d (.sl e [])) := .nil e
@[simp] theorem sub_bl (b : Nat) (e : TypeId) (xs : List D) : Sub (.bl b e xs) (.d (.sl e xs)) := .bl b e xs

theorem rshift_d {x : D} {h g : List Blk} (hok : HOk h) : RShift P h.length (.d x) (h ++ g) (.d x) h := RShift.drop (.refl _) (.d _) hok (Nat.le_refl _)
@[simp] theorem rshift_same {x : AV} {h : List Blk} : RShift P h.length x h x h := fun _ _ F ρ _ _ hst hv => ⟨F, ρ, Ext.refl _ _ _, hst, hv, Nat.le_refl _⟩

@[congr] theorem CallW_congr {f : FuncId} {args args' : List AV} {h h' : List Blk} {Q : AV → List Blk → Prop} (h1 : args = args') (h2 : h = h') : CallW P f args h Q = CallW P f args' h' Q := by rw [h1, h2]

/-- A call that leaves the blocks as they are. -/
def CallP (P : Program) (f : FuncId) (args : List AV) (h : List Blk) (r : AV) : Prop := CallW P f args h fun x h' => x = r ∧ h' = h

theorem CallP.use {f : FuncId} {args : List AV} {h : List Blk} {r : AV} {Q : AV → List Blk → Prop} (hc : CallP P f args h r) (hq : Q r h) : CallW P f args h Q :=
  CallW.mono hc (by rintro _ _ ⟨rfl, rfl⟩; exact hq)

@[simp] theorem leb_nil (h : List Blk) : LeB [] h ↔ True := Iff.rfl
@[simp] theorem leb_refl (h : List Blk) : LeB h h ↔ True := ⟨fun _ => trivial, fun _ => LeB.refl h⟩
@[simp] theorem leb_app : ∀ (h g : List Blk), LeB h (h ++ g) ↔ True
  | [], _ => Iff.rfl
  | x :: h, g => ⟨fun _ => trivial, fun _ => ⟨.inr rfl, (leb_app h g).mpr trivial⟩⟩
@[simp] theorem leb_app2 : ∀ (h g g' : List Blk), LeB (h ++ g) (h ++ g') ↔ LeB g g'
  | [], _, _ => Iff.rfl
  | x :: h, g, g' => ⟨fun hh => (leb_app2 h g g').mp hh.2, fun hh => ⟨.inr rfl, (leb_app2 h g g').mpr hh⟩⟩
@[simp] theorem leb_app0 (h g : List Blk) : LeB (h ++ g) h ↔ g = [] := by
  have := leb_app2 h g []
  rw [List.append_nil] at this
  rw [this]
  cases g <;> simp [LeB]
@[simp] theorem leb_cons (x y : Blk) (g g' : List Blk) : LeB (x :: g) (y :: g') ↔ (x = .gone ∨ x = y) ∧ LeB g g' := Iff.rfl

@[simp] theorem dcells_agg (cs : List D) : D.cells (.agg cs) = cs := rfl
@[simp] theorem dcells_bool (b : Bool) : D.cells (.bool b) = [.bool b] := rfl
@[simp] theorem dcells_int (k : IntKind) (n : Int) : D.cells (.int k n) = [.int k n] := rfl
@[simp] theorem dcells_str (s : List UInt8) : D.cells (.str s) = [.str s] := rfl
@[simp] theorem dcells_sl (e : TypeId) (xs : List D) : D.cells (.sl e xs) = [.sl e xs] := rfl
@[simp] theorem dcells_nilsl : D.cells .nilsl = [.nilsl] := rfl
@[simp] theorem dcells_nilptr : D.cells .nilptr = [.nilptr] := rfl
@[simp] theorem dcells_nilfn : D.cells .nilfn = [.nilfn] := rfl
@[simp] theorem dcells_nilmap : D.cells .nilmap = [.nilmap] := rfl
@[simp] theorem dcells_nilif : D.cells .nilif = [.nilif] := rfl
@[simp] theorem dcells_fn (f : FuncId) : D.cells (.fn f) = [.fn f] := rfl
@[simp] theorem dcells_ifc (t : TypeId) (x : D) : D.cells (.ifc t x) = [.ifc t x] := rfl

theorem CallP.useV {f : FuncId} {args : List AV} {kp : List Blk} {d : Option Tmp} {K : Env → Prop} {env : Env} {r : AV} (hc : CallP P f args env.h r) (hq : LeB kp env.h ∧ K (Env.put ⟨env.s, env.h⟩ d r)) : callV P f args kp d K env :=
  CallW.mono hc (by rintro _ _ ⟨rfl, rfl⟩; exact hq)
theorem callV_of {f : FuncId} {args : List AV} {kp : List Blk} {d : Option Tmp} {K : Env → Prop} {env : Env} {Q : AV → List Blk → Prop} (hc : CallW P f args env.h Q) (hq : ∀ v h', Q v h' → LeB kp h' ∧ K (Env.put ⟨env.s, h'⟩ d v)) : callV P f args kp d K env := CallW.mono hc hq

@[simp low] theorem binAV_eq {tab : Tab} {t : TypeId} {op : BinOp} {x y : AV} : binAV tab t op x y = (match x, y with
  | .d (.int k a), .d (.int k' b) =>
    match op with
    | .shl => some (0 ≤ b, .d (.int k (k.wrap (a * 2 ^ (min b.toNat k.bits)))))
    | .shr => some (0 ≤ b, .d (.int k (a.fdiv (2 ^ (min b.toNat k.bits)))))
    | _ => if k = k' then intBin op k a b else none
  | .d (.str a), .d (.str b) => strBin op a b
  | x, y => match op with
    | .eql => eqBin tab t false x y
    | .neq => eqBin tab t true x y
    | _ => none) := rfl

@[simp low] theorem fieldAV_eq {tab : Tab} {t : TypeId} {a : AV} {f : Nat} : fieldAV tab t a f = (match fieldOf tab t f, a with
  | some (o, ti), .d (.agg cs) => some (o + ti.size ≤ cs.length, .d (subD ti.agg ti.size o (.agg cs)))
  | some (o, ti), .agg cs => some (o + ti.size ≤ cs.length, subAV ti.agg ti.size o (.agg cs))
  | _, _ => none) := rfl

attribute [simp] anyReads flReads isDet evX evC bytesAV nilStr bytesOk isU8 byteOf evB evS plOf sizesOf arrPl setParts evH srcOf appAV freshRow partsAV fillAV isSrc evL ev look argSlots Env.put constAV intBin strBin unAV retW resAV oneOf loadAV fieldAddrAV fieldOf indexAddrAV indexAV asI slOf arrOf isStr entryAV
  bnd sliceAV AV.asData lenAV setCells minmax lookupAV mapFind mapPut keyOk mapOf keyEq subD subAV AV.pack AV.allD AV.cells okParts AV.leaf D.leaf okCells putAV zeroAV Tab.get TI.agg eqBin isNilC nilness nilMaybe

end Go.Vm

/- Rows that may be written become data. -/
set_option linter.unusedSimpArgs false
namespace Go.Vm
variable {P : Program} {base : Nat} {w0 : World} {m nt : Nat} {F : Frz} {ρ : Env0} {env env' : Env} {a : Act} {w : World} {n : Nat} {tab : Tab} {sz : TypeId → Nat} {h : List Blk}

/-- What a value becomes when a block becomes data. -/
def frz1 (b : Nat) (e : TypeId) (ds : List D) : AV → AV
  | .ref b' e' off len => if b' = b ∧ e' = e ∧ off + len ≤ ds.length then .d (.sl e ((ds.drop off).take len)) else .ref b' e' off len
  | v => v
def frzAV (b : Nat) (e : TypeId) (ds : List D) : AV → AV
  | .tup vs => .tup (vs.map (frz1 b e ds))
  | v => frz1 b e ds v

theorem frz1_rel {b : Nat} {e : TypeId} {ds : List D} {F' : Frz} (hle : F.le F') (hf : ∀ {n off len : Nat} {v : Value}, VRel sz F ρ n (.ref b e off len) v → off + len ≤ ds.length → FRep sz F' (.sl e ((ds.drop off).take len)) v)
    {x : AV} {v : Value} (hv : VRel sz F ρ n x v) : VRel sz F' ρ n (frz1 b e ds x) v := by
  have hx : Ext n F ρ F' ρ := ⟨hle, fun _ _ => Loc.ext_refl _⟩
  unfold frz1
  split
  · split
    · rename_i hc
      obtain ⟨rfl, rfl, h3⟩ := hc
      exact .d (hf hv h3)
    · exact hv.mono hx (Nat.le_refl _)
  · exact hv.mono hx (Nat.le_refl _)

theorem frzAV_rel {b : Nat} {e : TypeId} {ds : List D} {F' : Frz} (hle : F.le F') (hf : ∀ {n off len : Nat} {v : Value}, VRel sz F ρ n (.ref b e off len) v → off + len ≤ ds.length → FRep sz F' (.sl e ((ds.drop off).take len)) v)
    {x : AV} {v : Value} (hv : VRel sz F ρ n x v) : VRel sz F' ρ n (frzAV b e ds x) v := by
  unfold frzAV
  split
  · cases hv with
    | tup cs vs hs val hvv hr =>
      refine .tup _ vs (by simpa using hs) val (fun k c hk => ?_) (fun k c hk => ?_)
      · simp only [List.getElem?_map, Option.map_eq_some_iff] at hk
        obtain ⟨x, hx, rfl⟩ := hk
        exact hvv k x hx
      · simp only [List.getElem?_map, Option.map_eq_some_iff] at hk
        obtain ⟨x, hx, rfl⟩ := hk
        exact frz1_rel hle hf (hr k x hx)
  · exact frz1_rel hle hf hv

theorem RShift.frz {b : Nat} {e : TypeId} {ds : List D} {v : AV} (hb : h[b]? = some (.cells e (ds.map AV.d))) (hm : m ≤ h.length) : RShift P m v h (frzAV b e ds v) (h.set b .gone) := by
  intro base w0 F ρ w cv hst hv
  obtain ⟨F', h1, h2, h3⟩ := hst.freeze hb
  exact ⟨F', ρ, ⟨h1, fun _ _ => Loc.ext_refl _⟩, h2, by rw [List.length_set]; exact frzAV_rel h1 h3 hv, by rw [List.length_set]; exact hm⟩

theorem RShift.trans {v x y : AV} {h h' h'' : List Blk} (h1 : RShift P m v h x h') (h2 : RShift P m x h' y h'') : RShift P m v h y h'' := by
  intro base w0 F ρ w cv hst hv
  obtain ⟨F', ρ', a1, a2, a3, a4⟩ := h1 base w0 F ρ w cv hst hv
  obtain ⟨F'', ρ'', b1, b2, b3, b4⟩ := h2 base w0 F' ρ' w cv a2 a3
  exact ⟨F'', ρ'', a1.trans b1, b2, b3, b4⟩

def subL : List AV → List AV → Prop
  | [], [] => True
  | x :: xs, y :: ys => Sub x y ∧ subL xs ys
  | _, _ => False

/-- A value, seen otherwise, part by part. -/
def Subs : AV → AV → Prop
  | .tup xs, .tup ys => subL xs ys
  | x, y => Sub x y

theorem subL_get : ∀ {xs ys : List AV}, subL xs ys → xs.length = ys.length ∧ ∀ (k : Nat) (y : AV), ys[k]? = some y → ∃ x, xs[k]? = some x ∧ Sub x y
  | [], [], _ => ⟨rfl, by simp⟩
  | [], _ :: _, h => h.elim
  | _ :: _, [], h => h.elim
  | x :: xs, y :: ys, h => by
    obtain ⟨h1, h2⟩ := subL_get (xs := xs) (ys := ys) h.2
    refine ⟨by simp [h1], fun k z hk => ?_⟩
    cases k with
    | zero => simp at hk; subst hk; exact ⟨_, rfl, h.1⟩
    | succ k => simpa using h2 k z (by simpa using hk)

theorem Subs.rel {x y : AV} {v : Value} (hs : Subs x y) (hv : VRel sz F ρ n x v) : VRel sz F ρ n y v := by
  unfold Subs at hs
  split at hs
  · rename_i xs ys
    cases hv with
    | tup cs vs hs' val hvv hr =>
      obtain ⟨h1, h2⟩ := subL_get hs
      refine .tup _ vs (by omega) val (fun k c hk => ?_) (fun k c hk => ?_)
      · obtain ⟨x, h3, h4⟩ := h2 k c hk
        exact hvv k x h3
      · obtain ⟨x, h3, h4⟩ := h2 k c hk
        exact h4.rel (hr k x h3)
  · exact hs.rel hv

theorem RShift.subs {v x : AV} {h g : List Blk} (hs : Subs v x) (hb : Bel h.length x) (hok : HOk h) (hm : m ≤ h.length) : RShift P m v (h ++ g) x h :=
  fun _ _ F ρ _ _ hst hv => ⟨F, ρ, Ext.refl _ _ _, hst.cut hok, (hs.rel hv).cut hb, hm⟩

/-- A function that gives data: as it is, or with its parts seen otherwise. -/
theorem rshift_subs {v x : AV} {h g : List Blk} (hs : Subs v x) (hb : Bel h.length x) (hok : HOk h) : RShift P h.length v (h ++ g) x h := RShift.subs hs hb hok (Nat.le_refl _)

theorem Shift.weak' {s s' : Slots} {H h g : List Blk} (e : H = h ++ g) (hok : HOk h) (hm : m ≤ h.length) (hs : ∀ kv ∈ s', ∃ v, look s kv.1 = some v ∧ Sub v kv.2 ∧ Bel h.length kv.2) :
    Shift P m nt ⟨s, H⟩ ⟨s', h⟩ := by subst e; exact Shift.weak hs hok hm

theorem rshift_d' {x : D} {H h g : List Blk} (hok : HOk h) (e : H = h ++ g) : RShift P h.length (.d x) H (.d x) h := by subst e; exact rshift_d hok

theorem Shift.slots' {s s' : Slots} {H h : List Blk} (e : H = h) (hs : ∀ kv ∈ s', ∃ v, look s kv.1 = some v ∧ Sub v kv.2) : Shift P m nt ⟨s, H⟩ ⟨s', h⟩ := by subst e; exact Shift.slots hs

theorem rshift_same' {x : AV} {H h : List Blk} (e : H = h) (hl : m ≤ h.length) : RShift P m x H x h := by subst e; exact fun _ _ F ρ _ _ hst hv => ⟨F, ρ, Ext.refl _ _ _, hst, hv, hl⟩

theorem rshift_sub {x y : AV} (hs : Subs x y) (hl : m ≤ h.length) : RShift P m x h y h := fun _ _ F ρ _ _ hst hv => ⟨F, ρ, Ext.refl _ _ _, hst, hs.rel hv, hl⟩

theorem rshift_frz {H h : List Blk} {b : Nat} {e : TypeId} {ds : List D} {v x : AV} (hb : H[b]? = some (.cells e (ds.map AV.d))) (hH : ∃ g, H.set b .gone = h ++ g) (hok : HOk h) (hx : Subs (frzAV b e ds v) x) (hbel : Bel h.length x) :
    RShift P h.length v H x h := by
  obtain ⟨g, hH⟩ := hH
  have hl : h.length ≤ H.length := by
    have := congrArg List.length hH
    simp only [List.length_set, List.length_append] at this
    omega
  refine RShift.trans (RShift.frz hb hl) ?_
  rw [hH]
  exact rshift_subs hx hbel hok

attribute [simp] Subs subL frzAV frz1

end Go.Vm

/- Contracts of the kit's form, seen as calls of the machine of values. -/
set_option linter.unusedSimpArgs false
namespace Go.Vm
variable {P : Program} {h : List Blk}

theorem argsRel2 {sz : TypeId → Nat} {F : Frz} {ρ : Env0} {n : Nat} {x y : AV} {vs : Array Value} (h : ArgsRel sz F ρ n [x, y] vs) : ∃ a b, vs = #[a, b] ∧ VRel sz F ρ n x a ∧ VRel sz F ρ n y b := by
  obtain ⟨h1, h2⟩ := h
  obtain ⟨a, ha, hxa⟩ := h2 0 x rfl
  obtain ⟨b, hb, hyb⟩ := h2 1 y rfl
  refine ⟨a, b, ?_, hxa, hyb⟩
  have hs : vs.size = 2 := by simpa using h1.symm
  obtain ⟨i0, e0⟩ := Array.getElem?_eq_some_iff.mp ha
  obtain ⟨i1, e1⟩ := Array.getElem?_eq_some_iff.mp hb
  refine Array.ext (by simp [hs]) fun k hk hk' => ?_
  match k, hk' with
  | 0, _ => exact e0
  | 1, _ => exact e1

/-- A function of two texts that leaves the world as it is. -/
theorem callP_str2 {f : FuncId} {r : List UInt8 → List UInt8 → D} {cv : List UInt8 → List UInt8 → Value} (hE : Enters P f)
    (hc : ∀ (a b : ByteArray) (w : World), Calls P f #[.string a, .string b] w fun e w' => e = .returned (cv a.data.toList b.data.toList) ∧ w' = w)
    (hr : ∀ a b sz F, FRep sz F (r a b) (cv a b)) (a b : List UInt8) (h : List Blk) : CallP P f [.d (.str a), .d (.str b)] h (.d (r a b)) := by
  refine ⟨hE, fun base w0 F ρ w vs hst ha => ?_⟩
  obtain ⟨x, y, rfl, hx, hy⟩ := argsRel2 ha
  have := hx.str_inv; subst this
  have := hy.str_inv; subst this
  refine (hc _ _ w).mono ?_
  rintro e w' ⟨rfl, rfl⟩
  exact ⟨_, _, h, F, ρ, rfl, Ext.refl _ _ _, hst, .d (hr _ _ _ _), Nat.le_refl _, rfl, rfl⟩

end Go.Vm

/- What a reading of an argument says: the argument is a piece of data. -/
set_option linter.unusedSimpArgs false
namespace Go.Vm
variable {P : Program} {base : Nat} {F : Frz} {w : World} {tab : Tab} {sz : TypeId → Nat} {H : Type} {enc : TypeId × Value → H} {spare : Nat → Bool} {held : Bool}

/-- The kinds of types whose values are plain data here: bools, ints, strings, slices, structs and arrays of such. -/
def contig (tab : Tab) : Nat → List (Nat × TypeId) → Option Nat
  | at_, [] => some at_
  | at_, (o, t) :: r => match tab.get t with
    | some ti => if o = at_ then contig tab (at_ + ti.size) r else none
    | none => none

def okT (tab : Tab) : Nat → TypeId → Bool
  | 0, _ => false
  | n + 1, t => match tab.get t with
    | some ti => match ti.k with
      | .int _ => true
      | .bool => true
      | .str => true
      | .sl e => okT tab n e && (tab.get e).any (fun te => 0 < te.size)
      | .struct _ fs => contig tab 0 fs == some ti.size && fs.all fun f => okT tab n f.2
      | .arr _ m e => (tab.get e).any (fun te => ti.size == m * te.size) && okT tab n e
      | _ => false
    | none => false

/-- An element out of its cells. -/
def packD (agg : Bool) (ds : List D) : D := if agg then .agg ds else ds.headD .nilptr

/-- A measure of readings. -/
structure Bulk {H : Type} (bk : DataW H → Nat) : Prop where
  str : ∀ s, s.length ≤ bk (.lit (.string s))
  len : ∀ es sp, es.length ≤ bk (.slice es sp)
  elem : ∀ es sp, ∀ e ∈ es, bk e ≤ bk (.slice es sp)
  part : ∀ ps, ∀ p ∈ ps, bk p ≤ bk (.agg ps)

/-- What the cells of a value of a type are; no text and no slice is longer than B. -/
def ShpC (tab : Tab) (B : Nat) : Nat → TypeId → List D → Prop
  | 0, _, _ => False
  | n + 1, t, ds => match tab.get t with
    | some ti => match ti.k with
      | .int k => ∃ i, ds = [.int k i] ∧ (Lit.int k i).wf = true
      | .bool => ∃ b, ds = [.bool b]
      | .str => ∃ s, ds = [.str s] ∧ s.length ≤ B
      | .sl e => ∃ (te : TI) (xs : List (List D)), tab.get e = some te ∧ ds = [.sl e (xs.map (packD te.agg))] ∧ xs.length ≤ B ∧ ∀ x ∈ xs, ShpC tab B n e x
      | .struct _ fs => ∃ parts : List (List D), ds = parts.flatten ∧ parts.length = fs.length ∧ ∀ (j : Nat) (o : Nat) (ft : TypeId), fs[j]? = some (o, ft) → ∃ p, parts[j]? = some p ∧ ShpC tab B n ft p
      | .arr _ m e => ∃ parts : List (List D), ds = parts.flatten ∧ parts.length = m ∧ ∀ p ∈ parts, ShpC tab B n e p
      | _ => False
    | none => False

theorem shp_int {B n : Nat} {t : TypeId} {k : IntKind} {s b : Nat} {z ds : List D} (ht : tab.get t = some ⟨.int k, s, b, z⟩) (h : ShpC tab B (n + 1) t ds) : ∃ i, ds = [.int k i] ∧ (Lit.int k i).wf = true := by
  unfold ShpC at h; rw [ht] at h; exact h
theorem shp_bool {B n : Nat} {t : TypeId} {s b : Nat} {z ds : List D} (ht : tab.get t = some ⟨.bool, s, b, z⟩) (h : ShpC tab B (n + 1) t ds) : ∃ i, ds = [.bool i] := by
  unfold ShpC at h; rw [ht] at h; exact h
theorem shp_str {B n : Nat} {t : TypeId} {s b : Nat} {z ds : List D} (ht : tab.get t = some ⟨.str, s, b, z⟩) (h : ShpC tab B (n + 1) t ds) : ∃ s, ds = [.str s] ∧ s.length ≤ B := by
  unfold ShpC at h; rw [ht] at h; exact h
theorem shp_sl {B n : Nat} {t e : TypeId} {s b : Nat} {z ds : List D} {te : TI} (ht : tab.get t = some ⟨.sl e, s, b, z⟩) (he : tab.get e = some te) (h : ShpC tab B (n + 1) t ds) :
    ∃ xs : List (List D), ds = [.sl e (xs.map (packD te.agg))] ∧ xs.length ≤ B ∧ ∀ x ∈ xs, ShpC tab B n e x := by
  unfold ShpC at h; rw [ht] at h
  obtain ⟨te', xs, h1, h2, h3, h4⟩ := h
  rw [he] at h1
  cases h1
  exact ⟨xs, h2, h3, h4⟩
theorem shp_struct {B n : Nat} {t : TypeId} {fl : Bool} {fs : List (Nat × TypeId)} {s b : Nat} {z ds : List D} (ht : tab.get t = some ⟨.struct fl fs, s, b, z⟩) (h : ShpC tab B (n + 1) t ds) :
    ∃ parts : List (List D), ds = parts.flatten ∧ parts.length = fs.length ∧ ∀ (j : Nat) (o : Nat) (ft : TypeId), fs[j]? = some (o, ft) → ∃ p, parts[j]? = some p ∧ ShpC tab B n ft p := by
  unfold ShpC at h; rw [ht] at h; exact h
theorem shp_arr {B n m : Nat} {t e : TypeId} {fl : Bool} {s b : Nat} {z ds : List D} (ht : tab.get t = some ⟨.arr fl m e, s, b, z⟩) (h : ShpC tab B (n + 1) t ds) :
    ∃ parts : List (List D), ds = parts.flatten ∧ parts.length = m ∧ ∀ p ∈ parts, ShpC tab B n e p := by
  unfold ShpC at h; rw [ht] at h; exact h

/-- Slices whose elements are typed. -/
theorem shp_list {α : Type} {B n : Nat} {e : TypeId} {agg : Bool} {enc : α → D} {ok : α → Prop} (hel : ∀ x, ShpC tab B n e x → ∃ a, packD agg x = enc a ∧ ok a) : ∀ {xs : List (List D)}, (∀ x ∈ xs, ShpC tab B n e x) →
    ∃ l : List α, xs.map (packD agg) = l.map enc ∧ l.length = xs.length ∧ ∀ a ∈ l, ok a
  | [], _ => ⟨[], rfl, rfl, by simp⟩
  | x :: xs, hx => by
    obtain ⟨l, h1, h2, h3⟩ := shp_list hel (fun y hy => hx y (List.mem_cons_of_mem _ hy))
    obtain ⟨a, h4, h5⟩ := hel x (hx x (List.mem_cons_self ..))
    refine ⟨a :: l, by simp [h1, h4], by simp [h2], fun b hb => ?_⟩
    rcases List.mem_cons.mp hb with rfl | hb
    · exact h5
    · exact h3 b hb

theorem cellsOf_eq (hT : tab.checks P = true) {t : TypeId} {ti : TI} (h : tab.get t = some ti) : P.cellsOf t = ti.size := by
  have := good_size hT h
  exact this

theorem add_spot0 {a : Addr} {i : Nat} {v : Value} (h : w.cell? (a.add i) = some v) : w.cell? ⟨a.block, a.off + i, none⟩ = some v ∧ (a.add i).spot = none := by
  have hs : (a.add i).spot = none := by
    unfold World.cell? at h
    split at h
    · split at h
      · cases h
      · rename_i hn; simpa using hn
    · cases h
  refine ⟨?_, hs⟩
  have : a.add i = ⟨a.block, a.off + i, none⟩ := by
    unfold Addr.add at hs ⊢
    split
    · rename_i h0
      subst h0
      rw [if_pos rfl] at hs
      cases a
      simp at hs
      simp [hs]
    · rfl
  rw [← this]; exact h

theorem row_of_nil : RowRep sz F [] [] := ⟨rfl, fun j c h => by simp at h⟩

theorem row_single {x : D} {v : Value} (h : FRep sz F x v) (ho : v.oneCell' = true) : RowRep sz F [x] [v] := by
  refine ⟨rfl, fun j c hj => ?_⟩
  cases j with
  | zero => simp at hj; subst hj; exact ⟨v, rfl, h, ho⟩
  | succ j => simp at hj

theorem mapM_get {α β : Type} {f : α → Option β} : ∀ {l : List α} {r : List β}, l.mapM f = some r → r.length = l.length ∧ ∀ (i : Nat) (x : α), l[i]? = some x → f x = r[i]?
  | [], r, h => by simp at h; subst h; exact ⟨rfl, by simp⟩
  | a :: l, r, h => by
    simp only [List.mapM_cons, Option.pure_def, Option.bind_eq_bind, Option.bind_eq_some_iff, Option.some.injEq] at h
    obtain ⟨b, hb, bs, hbs, rfl⟩ := h
    obtain ⟨h1, h2⟩ := mapM_get hbs
    refine ⟨by simp [h1], fun i x hi => ?_⟩
    cases i with
    | zero => simp at hi; subst hi; simpa using hb
    | succ i => simpa using h2 i x (by simpa using hi)

/-- Parts that lie one behind the other. -/
theorem parts_row {α : Type} {F : Frz} {cs : List Value} (q : α → List D → Prop) (off size : α → Nat) : ∀ (l : List α) (at_ : Nat),
    (∀ x ∈ l, ∃ ds, RowRep sz F ds ((cs.drop (off x)).take (size x)) ∧ ds.length = size x ∧ q x ds) → (∀ (j : Nat) (x : α), l[j]? = some x → off x = at_ + ((l.take j).map size).sum) → at_ + (l.map size).sum = cs.length →
    ∃ parts : List (List D), parts.length = l.length ∧ RowRep sz F parts.flatten (cs.drop at_) ∧ ∀ (j : Nat) (x : α), l[j]? = some x → ∃ p, parts[j]? = some p ∧ q x p
  | [], at_, _, _, hs => by
    refine ⟨[], rfl, ?_, by simp⟩
    rw [List.drop_eq_nil_of_le (by simp at hs; omega)]
    exact row_of_nil
  | x :: l, at_, hl, ho, hs => by
    obtain ⟨ds, h1, h2, h3⟩ := hl x (by simp)
    have h0 : off x = at_ := by simpa using ho 0 x rfl
    obtain ⟨parts, h4, h5, h6⟩ := parts_row q off size l (at_ + size x) (fun y hy => hl y (by simp [hy])) (fun j y hj => by
      have := ho (j + 1) y (by simpa using hj)
      simp only [List.take_succ_cons, List.map_cons, List.sum_cons] at this
      omega) (by simp only [List.map_cons, List.sum_cons] at hs; omega)
    refine ⟨ds :: parts, by simp [h4], ?_, fun j y hj => ?_⟩
    · have hsplit : cs.drop at_ = (cs.drop at_).take (size x) ++ cs.drop (at_ + size x) := by
        rw [← List.drop_drop, List.take_append_drop]
      rw [hsplit, List.flatten_cons]
      rw [h0] at h1
      exact h1.append h5
    · cases j with
      | zero => simp at hj; subst hj; exact ⟨ds, rfl, h3⟩
      | succ j => simpa using h6 j y (by simpa using hj)

theorem contig_sound : ∀ {fs : List (Nat × TypeId)} {at_ e : Nat}, contig tab at_ fs = some e →
    (∀ f ∈ fs, ∃ ti, tab.get f.2 = some ti) ∧ (∀ (j : Nat) (f : Nat × TypeId), fs[j]? = some f → f.1 = at_ + ((fs.take j).map fun f => ((tab.get f.2).map TI.size).getD 0).sum) ∧ at_ + (fs.map fun f => ((tab.get f.2).map TI.size).getD 0).sum = e
  | [], at_, e, h => by simp [contig] at h; subst h; simp
  | (o, t) :: r, at_, e, h => by
    simp only [contig] at h
    split at h
    · rename_i ti hti
      split at h
      · rename_i ho
        obtain ⟨h1, h2, h3⟩ := contig_sound h
        refine ⟨fun f hf => ?_, fun j f hj => ?_, ?_⟩
        · rcases List.mem_cons.mp hf with rfl | hf
          · exact ⟨ti, hti⟩
          · exact h1 f hf
        · cases j with
          | zero => simp at hj; subst hj; simpa using ho
          | succ j =>
            have := h2 j f (by simpa using hj)
            simp only [List.take_succ_cons, List.map_cons, List.sum_cons, hti, Option.map_some, Option.getD_some]
            omega
        · simp only [List.map_cons, List.sum_cons, hti, Option.map_some, Option.getD_some]
          omega
      · cases h
    · cases h

theorem packD_cells {te : TI} {ds : List D} (hlen : ds.length = te.size) (hone : te.agg = false → te.size = 1) (hlf : ∀ d ∈ ds, ∀ cs, d ≠ .agg cs) : (packD te.agg ds).cells = ds := by
  unfold packD
  cases hagg : te.agg with
  | true => rfl
  | false =>
    have h1 := hone hagg
    match ds, hlen with
    | [d], _ =>
      have := hlf d (by simp)
      simp only [Bool.false_eq_true, if_false, List.headD_cons]
      cases d <;> first | rfl | exact absurd rfl (this _)
    | [], h => simp at h; omega
    | _ :: _ :: _, h => simp at h; omega

theorem row_leaf {ds : List D} {vs : List Value} (h : RowRep sz F ds vs) : ∀ d ∈ ds, ∀ cs, d ≠ .agg cs := by
  intro d hd cs e
  subst e
  obtain ⟨j, hj⟩ := List.getElem?_of_mem hd
  obtain ⟨v, _, h2, h3⟩ := h.2 j _ hj
  cases h2
  simp [Value.oneCell'] at h3

theorem trod_rep (hT : tab.checks P = true) {bk : DataW H → Nat} (hbk : Bulk bk) {B : Nat} : ∀ (n fuel : Nat) (t : TypeId) (cs : List Value) (x : DataW H × List MemPlace), okT tab n t = true → DataW.trod enc P w base spare held fuel t cs = some x → bk x.1 ≤ B →
    ∃ ds, RowRep (psz P) w.cell? ds cs ∧ (∀ ti, tab.get t = some ti → ds.length = ti.size) ∧ ShpC tab B n t ds
  | 0, _, _, _, _, h, _, _ => by simp [okT] at h
  | n + 1, 0, t, cs, x, _, h, _ => by simp [DataW.trod] at h
  | n + 1, fuel + 1, t, cs, x, hok, h, hB => by
    unfold okT at hok
    split at hok
    · rename_i ti hti
      have hg := Tab.good hT hti
      obtain ⟨d, hu, hf⟩ := hg.desc
      have hsz : ∀ {ds : List D}, ds.length = ti.size → ∀ ti', some ti = some ti' → ds.length = ti'.size := fun h1 ti' h2 => by cases h2; exact h1
      have hone : ti.k.eqFlag = false → (∀ b fs, ti.k ≠ .struct b fs) → (∀ b m e, ti.k ≠ .arr b m e) → ti.size = 1 := fun _ h1 h2 => hg.one (by
        unfold TI.agg
        cases hk : ti.k <;> first | rfl | exact absurd hk (h1 _ _) | exact absurd hk (h2 _ _ _))
      unfold ShpC
      simp only [hti]
      split at hok
      · rename_i k hk
        rw [hk] at hf
        have := tk_int hf
        subst this
        have hs1 : ti.size = 1 := hone (by rw [hk]; rfl) (by simp [hk]) (by simp [hk])
        obtain ⟨i, rfl, _, hw⟩ := DataW.trod_int hu h
        exact ⟨[.int k i], row_single (.int k i) rfl, hsz (by simp [hs1]), i, rfl, hw⟩
      · rename_i hk
        rw [hk] at hf
        have hd : d = .bool := by cases d <;> simp only [TK.fits, Bool.false_eq_true] at hf; rfl
        subst hd
        have hs1 : ti.size = 1 := hone (by rw [hk]; rfl) (by simp [hk]) (by simp [hk])
        obtain ⟨b, rfl, _⟩ := DataW.trod_bool hu h
        exact ⟨[.bool b], row_single (.bool b) rfl, hsz (by simp [hs1]), b, rfl⟩
      · rename_i hk
        rw [hk] at hf
        have := tk_str hf
        subst this
        have hs1 : ti.size = 1 := hone (by rw [hk]; rfl) (by simp [hk]) (by simp [hk])
        obtain ⟨s, rfl, rfl, hlen⟩ := DataW.trod_string hu h
        exact ⟨[.str s.data.toList], row_single (.str s.data.toList) rfl, hsz (by simp [hs1]), s.data.toList, rfl, Nat.le_trans (hbk.str _) hB⟩
      · rename_i e hk
        rw [hk] at hf
        have hs1 : ti.size = 1 := hone (by rw [hk]; rfl) (by simp [hk]) (by simp [hk])
        cases d <;> simp only [TK.fits, Bool.false_eq_true, beq_iff_eq] at hf
        have hf' := hf.symm
        clear hf
        subst hf'
        simp only [Bool.and_eq_true, Option.any_eq_true, decide_eq_true_eq] at hok
        obtain ⟨hoke, te, hte, hpos⟩ := hok
        have hce := cellsOf_eq hT hte
        have hge := Tab.good hT hte
        rcases DataW.trod_slice hu h with ⟨rfl, _⟩ | ⟨a, len, cap, elems, rest, m, hm, rfl, rfl, _, hlc, hcap, hlen, hel, _⟩
        · exact ⟨[.sl _ []], row_single (sl_empty' _ none 0) rfl, hsz (by simp [hs1]), te, [], hte, rfl, by simp, by simp⟩
        · have key : ∀ i, i < len → ∃ ds, (∀ k c, ds[k]? = some c → ∃ v, w.cell? ⟨a.block, a.off + (i * te.size + k), none⟩ = some v ∧ FRep (psz P) w.cell? c v ∧ v.oneCell' = true) ∧ (a.add (i * te.size)).spot = none ∧ ds.length = te.size ∧ (∀ d ∈ ds, ∀ cs, d ≠ .agg cs) ∧ ShpC tab B n e ds := by
            intro i hi
            have h1 := hel i hi
            have hel1 : elems[i]? = some (elems[i]'(by omega)) := List.getElem?_eq_getElem (by omega)
            rw [hel1] at h1
            simp only [Option.bind_eq_some_iff] at h1
            obtain ⟨cs', h2, h3⟩ := h1
            obtain ⟨_, h4, h5⟩ := World.cells?_some h2
            obtain ⟨ds, h6, h7, h8⟩ := trod_rep hT hbk n m _ cs' _ hoke h3 (Nat.le_trans (hbk.elem _ _ _ (by simp only [List.mem_map]; exact ⟨_, List.getElem_mem _, rfl⟩)) hB)
            rw [hce] at h4 h5
            have hdl := h7 te hte
            have hsp : ∀ k, k < te.size → w.cell? ⟨a.block, a.off + (i * te.size + k), none⟩ = cs'[k]? ∧ (a.add (i * te.size)).spot = none := by
              intro k hk
              have h9 := h5 k hk
              have hks : cs'[k]? = some (cs'[k]'(by omega)) := List.getElem?_eq_getElem (by omega)
              rw [hks] at h9
              obtain ⟨h10, h11⟩ := add_spot0 h9
              have hb : (a.add (i * te.size)).block = a.block := by unfold Addr.add; split <;> rfl
              have ho : (a.add (i * te.size)).off = a.off + i * te.size := by
                unfold Addr.add
                split
                · rename_i h0; rw [h0]; rfl
                · rfl
              rw [hb, ho] at h10
              refine ⟨by rw [hks, ← h10]; congr 2; omega, ?_⟩
              unfold World.cell? at h9
              unfold Addr.add at h9 h11 ⊢
              by_cases e0 : i * te.size = 0
              · rw [if_pos e0] at h11 ⊢
                by_cases ek : k = 0
                · rw [if_pos ek] at h11; exact h11
                · have h12 := h5 0 hpos
                  have hks0 : cs'[0]? = some (cs'[0]'(by omega)) := List.getElem?_eq_getElem (by omega)
                  rw [hks0] at h12
                  have := (add_spot0 h12).2
                  unfold Addr.add at this
                  rw [if_pos rfl, if_pos e0] at this
                  exact this
              · rw [if_neg e0]
            refine ⟨ds, fun k c hk => ?_, (hsp 0 hpos).2, hdl, row_leaf h6, h8⟩
            obtain ⟨v, h9, h10, h11⟩ := h6.2 k c hk
            have hkl : k < te.size := by rw [← hdl]; exact (List.getElem?_eq_some_iff.mp hk).1
            exact ⟨v, by rw [(hsp k hkl).1]; exact h9, h10, h11⟩
          let g : Nat → List D := fun i => if hi : i < len then Classical.choose (key i hi) else []
          have hg' : ∀ i, (hi : i < len) → g i = Classical.choose (key i hi) := fun i hi => dif_pos hi
          have hget : ∀ (i : Nat) (x : D), (((List.range len).map g).map (packD te.agg))[i]? = some x → i < len ∧ x = packD te.agg (g i) := by
            intro i x hx
            simp only [List.getElem?_map, Option.map_eq_some_iff] at hx
            obtain ⟨y, ⟨j, hj, rfl⟩, rfl⟩ := hx
            have hjl := (List.getElem?_eq_some_iff.mp hj)
            obtain ⟨h1, h2⟩ := hjl
            simp only [List.length_range] at h1
            simp only [List.getElem_range] at h2
            subst h2
            exact ⟨h1, rfl⟩
          have hcells : ∀ i, i < len → (packD te.agg (g i)).cells = g i := by
            intro i hi
            rw [hg' i hi]
            have := Classical.choose_spec (key i hi)
            exact packD_cells this.2.2.1 hge.one this.2.2.2.1
          refine ⟨[.sl _ (((List.range len).map g).map (packD te.agg))], row_single ?_ rfl, hsz (by simp [hs1]), te, (List.range len).map g, hte, rfl, by have := Nat.le_trans (hbk.len _ _) hB; simp at this; simp; omega, fun y hy => ?_⟩
          · have hll : (((List.range len).map g).map (packD te.agg)).length = len := by simp
            conv => arg 4; rw [← hll]
            refine .sl _ _ (some a) a cap (fun i k => (w.cell? ⟨a.block, a.off + (i * psz P e + k), none⟩).getD .nilIface) (fun hne => ⟨rfl, ?_⟩) (by rw [hll]; exact hlc) (fun i x hi => ?_) (fun i x k c hi hk => ?_) (fun i x k c hi hk => ?_) (fun i x k c hi hk => ?_)
            · have h0 : 0 < len := by
                rcases Nat.eq_zero_or_pos len with h0 | h0
                · subst h0; simp at hne
                · exact h0
              have := (Classical.choose_spec (key 0 h0)).2.1
              unfold Addr.add at this
              rw [if_pos (by omega)] at this
              exact this
            · obtain ⟨h1, rfl⟩ := hget i x hi
              rw [hcells i h1, hg' i h1, hge.psz]
              exact (Classical.choose_spec (key i h1)).2.2.1
            all_goals
              obtain ⟨h1, rfl⟩ := hget i x hi
              rw [hcells i h1, hg' i h1] at hk
              obtain ⟨v, h2, h3, h4⟩ := (Classical.choose_spec (key i h1)).1 k c hk
              rw [hge.psz, h2]
            · rfl
            · exact h3
            · exact h4
          · simp only [List.mem_map, List.mem_range] at hy
            obtain ⟨i, hi, rfl⟩ := hy
            rw [hg' i hi]
            exact (Classical.choose_spec (key i hi)).2.2.2.2
      · rename_i b fs hk
        rw [hk] at hf
        cases d <;> simp only [TK.fits, Bool.false_eq_true, beq_iff_eq] at hf
        rename_i fds
        subst hf
        simp only [Bool.and_eq_true, beq_iff_eq, List.all_eq_true] at hok
        obtain ⟨hct, hall⟩ := hok
        obtain ⟨hc1, hc2, hc3⟩ := contig_sound hct
        obtain ⟨xs, m, hm, rfl, hlen, hxs, hel⟩ := DataW.trod_struct hu h
        rw [cellsOf_eq hT hti] at hlen
        obtain ⟨parts, h1, h2, h3⟩ := parts_row (sz := psz P) (F := w.cell?) (cs := cs) (fun (f : Nat × TypeId) ds => ShpC tab B n f.2 ds) (fun f => f.1) (fun f => ((tab.get f.2).map TI.size).getD 0) (fds.toList.map fun f => (f.offset, f.type)) 0
          (fun f hf => by
            simp only [List.mem_map] at hf
            obtain ⟨fd, hfd, rfl⟩ := hf
            obtain ⟨j, hj⟩ := List.getElem?_of_mem hfd
            obtain ⟨fti, hfti⟩ := hc1 (fd.offset, fd.type) (by simp only [List.mem_map]; exact ⟨fd, hfd, rfl⟩)
            have h4 := hel j fd (by simpa using hj)
            have hjl : j < xs.length := by rw [hxs]; have := (List.getElem?_eq_some_iff.mp hj).1; simpa using this
            rw [List.getElem?_eq_getElem hjl, cellsOf_eq hT hfti] at h4
            obtain ⟨ds, h5, h6, h7⟩ := trod_rep hT hbk n m fd.type _ _ (hall (fd.offset, fd.type) (by simp only [List.mem_map]; exact ⟨fd, hfd, rfl⟩)) h4 (Nat.le_trans (hbk.part _ _ (by simp only [List.mem_map]; exact ⟨_, List.getElem_mem _, rfl⟩)) hB)
            refine ⟨ds, ?_, ?_, h7⟩
            · simp only [hfti, Option.map_some, Option.getD_some]; exact h5
            · simp only [hfti, Option.map_some, Option.getD_some]; exact h6 fti hfti)
          hc2 (by rw [hc3, hlen])
        rw [List.drop_zero] at h2
        refine ⟨parts.flatten, h2, fun ti' h4 => ?_, parts, rfl, h1, fun j o ft hj => h3 j (o, ft) hj⟩
        cases h4
        rw [← hlen, ← h2.1]
      · rename_i b m e hk
        rw [hk] at hf
        cases d <;> simp only [TK.fits, Bool.false_eq_true, Bool.and_eq_true, beq_iff_eq] at hf
        have hf1 := hf.1.symm
        have hf2 := hf.2.symm
        clear hf
        subst hf1
        subst hf2
        simp only [Bool.and_eq_true, Option.any_eq_true, beq_iff_eq] at hok
        obtain ⟨⟨te, hte, hsize⟩, hoke⟩ := hok
        obtain ⟨xs, m', hm, rfl, hlen, hxs, hel⟩ := DataW.trod_array hu h
        rw [cellsOf_eq hT hti] at hlen
        have hsum : ∀ (l : List Nat), (l.map fun _ => te.size).sum = l.length * te.size := by
          intro l
          induction l with
          | nil => simp
          | cons a l ih => simp only [List.map_cons, List.sum_cons, ih, List.length_cons, Nat.add_mul]; omega
        obtain ⟨parts, h1, h2, h3⟩ := parts_row (sz := psz P) (F := w.cell?) (cs := cs) (fun (_ : Nat) ds => ShpC tab B n e ds) (fun i => i * te.size) (fun _ => te.size) (List.range m) 0
          (fun i hi => by
            have hil := List.mem_range.mp hi
            have h4 := hel i hil
            rw [List.getElem?_eq_getElem (by rw [hxs]; exact hil), cellsOf_eq hT hte] at h4
            obtain ⟨ds, h5, h6, h7⟩ := trod_rep hT hbk n m' _ _ _ hoke h4 (Nat.le_trans (hbk.part _ _ (by simp only [List.mem_map]; exact ⟨_, List.getElem_mem _, rfl⟩)) hB)
            exact ⟨ds, h5, h6 te hte, h7⟩)
          (fun j i hj => by
            rw [hsum]
            obtain ⟨h4, h5⟩ := List.getElem?_eq_some_iff.mp hj
            simp only [List.getElem_range] at h5
            subst h5
            simp only [List.length_range] at h4
            simp only [List.length_take, List.length_range]
            rw [Nat.min_eq_left (by omega)]; omega)
          (by rw [hsum, hlen, hsize]; simp)
        rw [List.drop_zero] at h2
        refine ⟨parts.flatten, h2, hsz (by rw [← hlen, ← h2.1]), parts, rfl, by simpa using h1, fun p hp => ?_⟩
        obtain ⟨j, hj⟩ := List.getElem?_of_mem hp
        have hjl := (List.getElem?_eq_some_iff.mp hj).1
        rw [h1, List.length_range] at hjl
        obtain ⟨p', h4, h5⟩ := h3 j j (by simp [hjl])
        rw [hj] at h4
        cases h4
        exact h5
      · cases hok
    · cases hok

/-- An argument is a piece of data. -/
theorem trod_val (hT : tab.checks P = true) {bk : DataW H → Nat} (hbk : Bulk bk) {B n b0 : Nat} {t : TypeId} {ti : TI} {r : Reach} {v : Value} {d : DataW H} {ps : List MemPlace} (hti : tab.get t = some ti) (hok : okT tab n t = true)
    (hval : Value.okWide P w r b0 t v) (h : DataW.Trod enc P w base spare held t v d ps) (hB : bk d ≤ B) : ∃ ds, FRep (psz P) w.cell? (packD ti.agg ds) v ∧ ShpC tab B n t ds := by
  obtain ⟨fuel, hf⟩ := h
  obtain ⟨ds, h1, h2, h3⟩ := trod_rep hT hbk n fuel t _ _ hok hf hB
  refine ⟨ds, ?_, h3⟩
  have hg := Tab.good hT hti
  obtain ⟨dd, hu, hfit⟩ := hg.desc
  have agg : ∀ cs : Array Value, v = .agg cs → ti.agg = true → FRep (psz P) w.cell? (packD ti.agg ds) v := by
    rintro cs rfl ha
    rw [ha]
    simp only [Value.cells] at h1
    refine .agg ds cs (by rw [← Array.length_toList]; exact h1.1) (fun k => (cs[k]?).getD .nilIface) (fun k c hk => ?_) (fun k c hk => ?_)
    · obtain ⟨u, h4, _⟩ := h1.2 k c hk
      have h5 : cs[k]? = some u := by simpa using h4
      rw [h5]; rfl
    · obtain ⟨u, h4, h5, _⟩ := h1.2 k c hk
      have h6 : cs[k]? = some u := by simpa using h4
      rw [h6]; exact h5
  have one : v.cells = #[v] → ti.agg = false → FRep (psz P) w.cell? (packD ti.agg ds) v := by
    intro hc ha
    rw [ha]
    rw [hc] at h1
    have hl : ds.length = 1 := by have := h1.1; simpa using this.symm
    match ds, hl with
    | [x], _ =>
      obtain ⟨u, h4, h5, _⟩ := h1.2 0 x rfl
      simp at h4
      subst h4
      exact h5
  have hok' := hok
  cases n with
  | zero => simp [okT] at hok'
  | succ n =>
    unfold okT at hok'
    rw [hti] at hok'
    simp only at hok'
    unfold Value.okWide at hval
    rw [hu] at hval
    split at hok'
    · rename_i k hk
      rw [hk] at hfit
      have := tk_int hfit
      subst this
      simp only [Cell.okWide, Cell.ok, hu] at hval
      cases v <;> simp only at hval
      exact one rfl (by unfold TI.agg; rw [hk])
    · rename_i hk
      rw [hk] at hfit
      have hd : dd = .bool := by cases dd <;> simp only [TK.fits, Bool.false_eq_true] at hfit; rfl
      subst hd
      simp only [Cell.okWide, Cell.ok, hu] at hval
      cases v <;> simp only at hval
      exact one rfl (by unfold TI.agg; rw [hk])
    · rename_i hk
      rw [hk] at hfit
      have := tk_str hfit
      subst this
      simp only [Cell.okWide, Cell.ok, hu] at hval
      cases v <;> simp only at hval
      exact one rfl (by unfold TI.agg; rw [hk])
    · rename_i e hk
      rw [hk] at hfit
      cases dd <;> simp only [TK.fits, Bool.false_eq_true, beq_iff_eq] at hfit
      simp only [Cell.okWide, Cell.ok, hu] at hval
      cases v <;> (try simp only at hval) <;> exact one rfl (by unfold TI.agg; rw [hk])
    · rename_i b fs hk
      rw [hk] at hfit
      cases dd <;> simp only [TK.fits, Bool.false_eq_true, beq_iff_eq] at hfit
      obtain ⟨cs, rfl, _⟩ := hval
      exact agg cs rfl (by unfold TI.agg; rw [hk])
    · rename_i b m e hk
      rw [hk] at hfit
      cases dd <;> simp only [TK.fits, Bool.false_eq_true, Bool.and_eq_true, beq_iff_eq] at hfit
      obtain ⟨cs, rfl, _⟩ := hval
      exact agg cs rfl (by unfold TI.agg; rw [hk])
    · cases hok'

theorem trodAll_below (hl : laidOutB P = true) {W W' : World} (hb : RowKit.Below W.heap.size W W') : ∀ {ts : List TypeId} {vs : List Value} {ds : List (DataW H)} {ps : List MemPlace},
    (∀ t ∈ ts, P.readableRec t = true ∧ t < P.types.size) → DataW.TrodAll enc P W 0 (fun _ => true) true ts vs ds ps → (∀ x ∈ ps, x.block < W.heap.size) →
    DataW.TrodAll enc P W' 0 (fun b => decide (b < W.heap.size)) true ts vs ds ps
  | [], vs, ds, ps, _, h, _ => by
    obtain ⟨rfl, rfl, rfl⟩ := ChangeShapes.trodAll_nil h
    exact ChangeShapes.trodAll_mk0
  | t :: ts, vs, ds, ps, hr, h, hlt => by
    obtain ⟨v, vs', d, ds', p, q, rfl, rfl, rfl, h1, h2⟩ := ChangeShapes.trodAll_cons h
    have h3 := RowKit.Below.trod hl (hr t (by simp)).1 (hr t (by simp)).2 h1 hb (fun x hx => hlt x (by simp [hx]))
    have h4 := trodAll_below hl hb (fun t ht => hr t (by simp [ht])) h2 (fun x hx => hlt x (by simp [hx]))
    exact ⟨p, q, h3, h4, rfl⟩

/-- A law's row: the answer is true, and below the call's own blocks nothing has turned. -/
theorem post_of_below (hl : laidOutB P = true) {f : Func} {s : ChangeSpec} {apart fresh handsOn : Bool} {W W' : World} {args : Array Value} {ds gs : List (DataW H)} {before : List MemPlace} {t : TypeId}
    (hW : DataW.Whole enc P f.params.toList s.vars apart W args.toList ds gs before) (hnv : s.vars = []) (hrt : f.resultTypes = #[t]) (hu : P.underlying t = some .bool)
    (hres : (s.fn H (ds ++ gs)).results = [.lit (.bool true)])
    (hargs : (s.fn H (ds ++ gs)).args = ds) (hvars : (s.fn H (ds ++ gs)).vars = []) (hr : ∀ t ∈ f.params.toList, P.readableRec t = true ∧ t < P.types.size) (hb : RowKit.Below W.heap.size W W') :
    s.post enc P f apart fresh handsOn false W args (.bool true) W' := by
  have hlt := hW.lt
  have hW0 := hW
  obtain ⟨p, q, hA, hV, rfl, hz, hn⟩ := hW
  rw [hnv] at hV
  obtain ⟨rfl, rfl⟩ := ChangeShapes.trodVars_none hV
  refine ⟨ds, [], _, [], p, [], hW0, ?_, ?_, ?_, World.keptBut_mono (fun x hx => ⟨hx, Or.inr (by simpa using hx)⟩) (hb.frame _), fun h => by cases h⟩
  · rw [hres, hrt]
    exact ⟨[], [], RowKit.shut_bool hu _, ChangeShapes.trodAll_mk0, rfl⟩
  · rw [hargs]
    exact trodAll_below hl hb hr hA (fun x hx => by have := hlt x (by simpa using hx); simpa using this)
  · rw [hvars, hnv]
    rfl

/-- A law's call: out of its contract. -/
theorem law_calls {f : FuncId} {args : List AV} {vs : Array Value} {b : Bool} (hc : CallP P f args [] (.d (.bool b))) (hgl : GlobOk w.heap.size w) (ha : args.length = vs.size ∧ ∀ (i : Nat) (x : AV), args[i]? = some x → ∃ d v, x = .d d ∧ vs[i]? = some v ∧ FRep (psz P) w.cell? d v) :
    Calls P f vs w fun e w' => e = .returned (.bool b) ∧ RowKit.Below w.heap.size w w' := by
  have hst : St (psz P) w.heap.size w w.cell? (fun _ => .dead) [] w :=
    ⟨fun a v h => h, fun b x h => by simp at h, fun b b' B h => by simp at h, ⟨⟨⟨rfl, rfl, rfl⟩, hgl⟩, fun _ _ => rfl⟩, Nat.le_refl _, fun b B h => by simp at h⟩
  refine (hc.2 w.heap.size w w.cell? (fun _ => .dead) w vs hst ⟨ha.1, fun i x hi => ?_⟩).mono ?_
  · obtain ⟨d, v, rfl, h1, h2⟩ := ha.2 i x hi
    exact ⟨v, h1, .d h2⟩
  · rintro e w' ⟨v, x, h', F', ρ', rfl, hx, hst', hv, hl, rfl, rfl⟩
    have := hv.bool_inv
    subst this
    exact ⟨rfl, hst'.old.1.1.1, hst'.old.1.1.2.1, hst'.old.1.1.2.2, hst'.hb, hst'.old.2⟩

end Go.Vm

/- A call of a function that only reads, with rows that may be written handed as data. -/
set_option linter.unusedSimpArgs false
namespace Go.Vm
variable {P : Program} {base : Nat} {w0 : World} {F : Frz} {ρ : Env0} {w w' : World} {n : Nat} {sz : TypeId → Nat} {h : List Blk}

theorem St.below (hst : St sz base w0 F ρ h w) (hio : w'.os = w.os ∧ w'.tape = w.tape ∧ w'.output = w.output) (hs : w.heap.size ≤ w'.heap.size) (hb : ∀ r, r < w.heap.size → w'.heap[r]? = w.heap[r]?) : St sz base w0 F ρ h w' := by
  have hh : ∀ (r : Nat) (o : Obj), w.heap[r]? = some o → w'.heap[r]? = some o := fun r o h => by
    rw [hb r (Array.getElem?_eq_some_iff.mp h).1]; exact h
  refine ⟨fun a v ha => ?_, fun b x hx => (hst.blk b x hx).mono (Ext.refl _ _ _) rfl (Nat.le_refl _) (fun r o _ h => hh r o h) (fun _ _ _ _ => rfl), hst.dist,
    ⟨⟨⟨hio.1.trans hst.old.1.1.1, hio.2.1.trans hst.old.1.1.2.1, hio.2.2.trans hst.old.1.1.2.2⟩, hst.old.1.2⟩, fun r hr => ?_⟩, Nat.le_trans hst.hb hs, fun b B h1 h2 => Nat.lt_of_lt_of_le (hst.lt b B h1 h2) hs⟩
  · have h1 := hst.frz a v ha
    have hlt := frz_lt hst ha
    unfold World.cell? at h1 ⊢
    rw [hb _ hlt]; exact h1
  · rw [hb r (by have := hst.hb; omega)]
    exact hst.old.2 r hr

/-- Data that lies in no memory. -/
def D.flat : D → Bool
  | .bool _ | .int _ _ | .str _ => true
  | _ => false

theorem flat_rep {F' : Frz} {x : D} {v : Value} (hx : x.flat = true) (h : FRep sz F x v) : FRep sz F' x v := by
  cases h <;> first | exact .bool _ | exact .int _ _ | exact .str _ | (simp [D.flat] at hx)

/-- What an argument is, as data. -/
inductive AsData (h : List Blk) : AV → D → Prop
  | d (x : D) : AsData h (.d x) x
  | ref {b : Nat} {e : TypeId} {ds : List D} {off len : Nat} (hb : h[b]? = some (.cells e (ds.map AV.d))) (hl : off + len ≤ ds.length) : AsData h (.ref b e off len) (.sl e ((ds.drop off).take len))

theorem AsData.rep {x : AV} {d : D} {v : Value} (ha : AsData h x d) (hst : St sz base w0 F ρ h w) (hv : VRel sz F ρ n x v) : FRep sz w.cell? d v := by
  cases ha with
  | d x => exact hv.d_inv.mono hst.frz
  | ref hb hl =>
    obtain ⟨F', h1, h2, h3⟩ := hst.freeze hb
    exact (h3 hv hl).mono h2.frz

inductive AsDatas (h : List Blk) : List AV → List D → Prop
  | nil : AsDatas h [] []
  | cons {x : AV} {d : D} {xs : List AV} {ds : List D} (h1 : AsData h x d) (h2 : AsDatas h xs ds) : AsDatas h (x :: xs) (d :: ds)

theorem AsDatas.get {xs : List AV} {ds : List D} (ha : AsDatas h xs ds) : xs.length = ds.length ∧ ∀ (i : Nat) (d : D), ds[i]? = some d → ∃ x, xs[i]? = some x ∧ AsData h x d := by
  induction ha with
  | nil => exact ⟨rfl, by simp⟩
  | cons h1 h2 ih =>
    refine ⟨by simp [ih.1], fun i d hd => ?_⟩
    cases i with
    | zero => simp at hd; subst hd; exact ⟨_, rfl, h1⟩
    | succ i => simpa using ih.2 i d (by simpa using hd)

theorem CallP.framed {f : FuncId} {args : List AV} {ds : List D} {r : D} (hc : CallP P f (ds.map AV.d) [] (.d r)) (hr : r.flat = true) (ha : AsDatas h args ds) : CallP P f args h (.d r) := by
  refine ⟨hc.1, fun base w0 F ρ w vs hst hargs => ?_⟩
  have hst0 : St (psz P) w.heap.size w w.cell? (fun _ => .dead) [] w :=
    ⟨fun a v h => h, fun b x h => by simp at h, fun b b' B h => by simp at h, ⟨⟨⟨rfl, rfl, rfl⟩, hst.old.1.2.mono hst.hb hst.old.2⟩, fun _ _ => rfl⟩, Nat.le_refl _, fun b B h => by simp at h⟩
  obtain ⟨h1, h2⟩ := ha.get
  refine (hc.2 w.heap.size w w.cell? (fun _ => .dead) w vs hst0 ⟨by rw [List.length_map, ← h1]; exact hargs.1, fun i x hx => ?_⟩).mono ?_
  · simp only [List.getElem?_map, Option.map_eq_some_iff] at hx
    obtain ⟨d, hd, rfl⟩ := hx
    obtain ⟨y, hy, had⟩ := h2 i d hd
    obtain ⟨v, hv, hvr⟩ := hargs.2 i y hy
    exact ⟨v, hv, .d (had.rep hst hvr)⟩
  · rintro e w' ⟨v, x, h', F', ρ', rfl, hx, hst', hv, hl, rfl, rfl⟩
    exact ⟨v, _, h, F, ρ, rfl, Ext.refl _ _ _, hst.below hst'.old.1.1 hst'.hb hst'.old.2, .d (flat_rep hr hv.d_inv), Nat.le_refl _, rfl, rfl⟩

end Go.Vm

/- Comparisons of whole numbers, for simp with omega as its discharger. -/
set_option linter.unusedSimpArgs false
namespace Go.Vm

theorem ltT {a b : Int} (h : a < b) : (a < b) = True := eq_true h
theorem ltF {a b : Int} (h : b ≤ a) : (a < b) = False := eq_false (by omega)
theorem leT {a b : Int} (h : a ≤ b) : (a ≤ b) = True := eq_true h
theorem leF {a b : Int} (h : b < a) : (a ≤ b) = False := eq_false (by omega)
theorem eqT' {a b : Int} (h : a = b) : (a = b) = True := eq_true h
theorem eqF {a b : Int} (h : ¬ a = b) : (a = b) = False := eq_false h
theorem ltTn {a b : Nat} (h : a < b) : (a < b) = True := eq_true h
theorem ltFn {a b : Nat} (h : b ≤ a) : (a < b) = False := eq_false (by omega)
theorem leTn {a b : Nat} (h : a ≤ b) : (a ≤ b) = True := eq_true h
theorem leFn {a b : Nat} (h : b < a) : (a ≤ b) = False := eq_false (by omega)
theorem eqTn {a b : Nat} (h : a = b) : (a = b) = True := eq_true h
theorem eqFn {a b : Nat} (h : ¬ a = b) : (a = b) = False := eq_false h

theorem wrapI {n : Int} (h1 : -9223372036854775808 ≤ n) (h2 : n < 9223372036854775808) : IntKind.i64.wrap n = n := by
  simp only [IntKind.wrap, IntKind.bits, IntKind.signed, Bool.true_and, decide_eq_true_eq, show (2 : Int) ^ 64 = 18446744073709551616 from rfl, show (2 : Int) ^ (64 - 1) = 9223372036854775808 from rfl]
  split <;> omega

/-- A loop; what the round's end leads to has a name. -/
theorem W_loopA {P : Program} {tab : Tab} {m nt : Nat} {Q : Exit → Env → Prop} {env : Env} {ι : Type} (I : ι → Prop) (inv : ι → Env) (μ : ι → Nat) (i : ι) {b : VC} (hi : I i) (h1 : Shift P m nt env (inv i))
    (h2 : ∀ i, I i → ∀ A : Env → Prop, (∀ i' env', I i' → μ i' < μ i → Shift P m nt env' (inv i') → A env') → W P tab m nt b (thenQ A Q) (inv i)) : W P tab m nt (.loop b) Q env :=
  W_loop I inv μ i hi h1 fun i hI => h2 i hI _ fun i' _ a b c => ⟨i', a, c, b⟩

/-- The same; what follows behind the loop has a name, too. -/
theorem W_loopQ {P : Program} {tab : Tab} {m nt : Nat} {Q : Exit → Env → Prop} {env : Env} {ι : Type} (I : ι → Prop) (inv : ι → Env) (μ : ι → Nat) (i : ι) {b : VC} (hi : I i) (h1 : Shift P m nt env (inv i))
    (h2 : ∀ i, I i → ∀ A : Env → Prop, (∀ i' env', I i' → μ i' < μ i → Shift P m nt env' (inv i') → A env') → ∀ Q', Q' = Q → W P tab m nt b (thenQ A Q') (inv i)) : W P tab m nt (.loop b) Q env :=
  W_loopA I inv μ i hi h1 fun i hI A hA => h2 i hI A hA _ rfl

/-- Arguments of which less is said. -/
theorem CallW.sub {P : Program} {f : FuncId} {args args' : List AV} {h : List Blk} {Q : AV → List Blk → Prop} (hc : CallW P f args' h Q) (hs : subL args args') : CallW P f args h Q := by
  refine ⟨hc.1, fun base w0 F ρ w vs hst ha => hc.2 base w0 F ρ w vs hst ?_⟩
  obtain ⟨h1, h2⟩ := subL_get hs
  refine ⟨by rw [← h1]; exact ha.1, fun i y hy => ?_⟩
  obtain ⟨x, hx, hxy⟩ := h2 i y hy
  obtain ⟨v, hv, hr⟩ := ha.2 i x hx
  exact ⟨v, hv, hxy.rel hr⟩
theorem CallP.subs {P : Program} {f : FuncId} {args args' : List AV} {h : List Blk} {r : AV} (hc : CallP P f args' h r) (hs : subL args args') : CallP P f args h r := CallW.sub hc hs

theorem get_app {α : Type} {h : List α} {b : Nat} {x : α} (hb : h[b]? = some x) (g : List α) : (h ++ g)[b]? = some x := by
  rw [List.getElem?_append_left (List.getElem?_eq_some_iff.mp hb).1]; exact hb

end Go.Vm

/- Blocks get other names. -/
set_option linter.unusedSimpArgs false
namespace Go.Vm
variable {P : Program} {base : Nat} {w0 : World} {m nt : Nat} {F : Frz} {ρ : Env0} {w : World} {n : Nat} {sz : TypeId → Nat} {h : List Blk}

/-- A value, and how it is seen when block b is what block σ b was. -/
inductive Ren (σ : Nat → Nat) (n : Nat) : AV → AV → Prop
  | sub {x : AV} {d : D} (h : Sub x (.d d)) : Ren σ n x (.d d)
  | unk (x : AV) : Ren σ n x .unk
  | bl {b : Nat} {e : TypeId} {xs : List D} (hb : b < n) : Ren σ n (.bl (σ b) e xs) (.bl b e xs)
  | ref {b : Nat} {e : TypeId} {o l : Nat} (hb : b < n) : Ren σ n (.ref (σ b) e o l) (.ref b e o l)
  | ptr {b : Nat} {e : TypeId} {i o : Nat} (hb : b < n) : Ren σ n (.ptr (σ b) e i o) (.ptr b e i o)
  | map {b : Nat} (hb : b < n) : Ren σ n (.map (σ b)) (.map b)
  | fp {e : TypeId} {xs : List D} {i o : Nat} : Ren σ n (.fp e xs i o) (.fp e xs i o)
  | z0 {e : TypeId} : Ren σ n (.z0 e) (.z0 e)

theorem Ren.rel {σ : Nat → Nat} {n' : Nat} {x y : AV} {v : Value} (hr : Ren σ n' x y) (hv : VRel sz F ρ n x v) : VRel sz F (fun b => ρ (σ b)) n' y v := by
  cases hr with
  | sub h => exact .d (h.rel hv).d_inv
  | unk x => exact .unk v
  | bl hb => cases hv with | bl _ h hl hw hc => exact .bl hb h hl hw hc
  | ref hb => cases hv with | ref _ hA hl hc => exact .ref hb hA hl hc
  | ptr hb => cases hv with | ptr _ hl => exact .ptr hb hl
  | map hb => cases hv with | map _ hl => exact .map hb hl
  | fp => cases hv with | fp h hi => exact .fp h hi
  | z0 => cases hv with | z0 => exact .z0

theorem BlkRel.ren {σ : Nat → Nat} {n' b : Nat} {x : Blk} (hσ : ∀ b, b < m → σ b = b) (hn : m ≤ n') (hb : BlkRel sz base F ρ n w (σ b) x) (hx : BlkBel m x) : BlkRel sz base F (fun b => ρ (σ b)) n' w b x := by
  have hE : Ext m F ρ F (fun b => ρ (σ b)) := ⟨Frz.le_refl _, fun b hb => by show (ρ b).ext (ρ (σ b)); rw [hσ b hb]; exact Loc.ext_refl _⟩
  have hc := hb.cut hx
  cases x with
  | cells e xs =>
    obtain ⟨B, N, c, e0, h1, h2, h3, h4, h5, h6⟩ := hc
    refine ⟨B, N, c, e0, h1, h2, h3, h4, h5, fun i x hi => ⟨(h6 i x hi).1, fun j y hj => ?_⟩⟩
    obtain ⟨v, h7, h8, h9⟩ := (h6 i x hi).2 j y hj
    exact ⟨v, h7, h8.mono hE hn, h9⟩
  | tail e hw => exact hc
  | map es =>
    obtain ⟨r, mm, h1, h2, h3, h4, h5⟩ := hc
    refine ⟨r, mm, h1, h2, h3, h4, fun i k' x hi => ?_⟩
    obtain ⟨en, h6, h7, h8, h9⟩ := h5 i k' x hi
    exact ⟨en, h6, h7, h8, h9.mono hE hn⟩
  | iter mb cnt seen =>
    obtain ⟨r, r', h1, h2, h3, h4, h5⟩ := hc
    exact ⟨r, r', h1, h2, Nat.lt_of_lt_of_le h3 hn, by show ρ (σ mb) = _; rw [hσ mb h3]; exact h4, h5⟩
  | gone => trivial

/-- Blocks get other names: block b is what block σ b was. -/
theorem Shift.ren {s s' : Slots} {h h' : List Blk} (σ : Nat → Nat) (hσm : ∀ b, b < m → σ b = b) (hlen : m ≤ h'.length) (hinj : ∀ b b', b < h'.length → b' < h'.length → σ b = σ b' → b = b') (hσ : ∀ b, b < h'.length → σ b < h.length)
    (hblk : ∀ b x, h'[b]? = some x → x = .gone ∨ h[σ b]? = some x ∧ BlkBel m x) (hs : ∀ kv ∈ s', ∃ v, look s kv.1 = some v ∧ Ren σ h'.length v kv.2) : Shift P m nt ⟨s, h⟩ ⟨s', h'⟩ := by
  intro base w0 F ρ a w hr
  refine ⟨F, fun b => ρ (σ b), ⟨Frz.le_refl _, fun b hb => by show (ρ b).ext (ρ (σ b)); rw [hσm b hb]; exact Loc.ext_refl _⟩, ⟨hr.st.frz, fun b x hx => ?_, fun b b' B h1 h2 c1 c2 => ?_, hr.st.old, hr.st.hb, fun b B h1 c1 => ?_⟩, fun i v hi => ?_, hr.size, hr.defers, hlen⟩
  · rcases hblk b x hx with rfl | ⟨h1, h2⟩
    · trivial
    · exact (hr.st.blk _ _ h1).ren hσm hlen h2
  · exact hinj b b' h1 h2 (hr.st.dist _ _ B (hσ b h1) (hσ b' h2) c1 c2)
  · exact hr.st.lt _ B (hσ b h1) c1
  · obtain ⟨u, h1, h2⟩ := hs _ (look_mem hi)
    obtain ⟨cv, h4, h5⟩ := hr.slots i u h1
    exact ⟨cv, h4, h2.rel h5⟩

@[simp] theorem ren_d {σ : Nat → Nat} {x : D} : Ren σ n (.d x) (.d x) := .sub (.refl _)

end Go.Vm

/- Blocks that are forgotten while the world changes only there. -/
set_option linter.unusedSimpArgs false
namespace Go.Vm
variable {P : Program} {base : Nat} {w0 : World} {m nt : Nat} {F : Frz} {ρ : Env0} {w w' : World} {n : Nat} {sz : TypeId → Nat} {h : List Blk}

/-- A builder's row that was begun in a new block is put where the empty row is. -/
theorem RShift.retail {e T : TypeId} {v p : AV} {H : List Blk} {b k : Nat} {xs : List D} (hH : H = h.set b (.cells T [.agg [p, .bl h.length e xs]]) ++ [.tail e xs.length]) (hb : b < h.length) (hk : h[k]? = some (.tail e 0)) (hbk : b ≠ k) (hxs : xs ≠ [])
    (hp : Bel h.length p) (hv : Bel h.length v) (hm : m ≤ h.length) (hok : HOk h) : RShift P m v H v ((h.set b (.cells T [.agg [p, .bl k e xs]])).set k (.tail e xs.length)) := by
  subst hH
  intro base w0 F ρ w cv hst hvr
  have hkl := (List.getElem?_eq_some_iff.mp hk).1
  have hlen : ((h.set b (.cells T [.agg [p, .bl k e xs]])).set k (.tail e xs.length)).length = h.length := by simp
  have hpos : 0 < xs.length := List.length_pos_iff.mpr hxs
  obtain ⟨A0, cap0, k1, k2, k3⟩ := hst.blk k (.tail e 0) (by rw [List.getElem?_append_left (by simpa using hkl), List.getElem?_set_ne hbk]; exact hk)
  have hnew := hst.blk h.length (.tail e xs.length) (by rw [List.getElem?_append_right (by simp)]; simp)
  obtain ⟨A1, cap1, n1, n2, n3⟩ := hnew
  have hk0 : (ρ k).ext (ρ h.length) := by rw [k1, n1]; exact ⟨_, _, rfl, Nat.zero_le _, fun e0 => absurd e0 (by omega)⟩
  have hx : Ext h.length F ρ F (upd ρ k (ρ h.length)) := ⟨Frz.le_refl _, fun b' _ => by
    by_cases e1 : b' = k
    · subst e1; rw [upd_same]; exact hk0
    · rw [upd_ne e1]; exact Loc.ext_refl _⟩
  have hold : ∀ {y : AV} {u : Value}, Bel h.length y → VRel (psz P) F ρ ((h.set b (.cells T [.agg [p, .bl h.length e xs]]) ++ [Blk.tail e xs.length]).length) y u → VRel (psz P) F (upd ρ k (ρ h.length)) h.length y u := fun hy hu => (hu.cut hy).mono hx (Nat.le_refl _)
  refine ⟨F, upd ρ k (ρ h.length), ⟨Frz.le_refl _, fun b' hb' => hx.loc b' (by omega)⟩, ⟨hst.frz, fun b' x hx' => ?_, fun b1 b2 B h1 h2 c1 c2 => ?_, hst.old, hst.hb, fun b1 B h1 c1 => ?_⟩, by rw [hlen]; exact (hvr.cut hv).mono hx (Nat.le_refl _), by rw [hlen]; exact hm⟩
  · rw [hlen]
    by_cases e1 : b' = k
    · subst e1
      rw [List.getElem?_set_self (by simpa using hkl)] at hx'
      cases hx'
      exact ⟨A1, cap1, by rw [upd_same]; exact n1, n2, n3⟩
    · rw [List.getElem?_set_ne (Ne.symm e1)] at hx'
      by_cases e2 : b' = b
      · subst e2
        rw [List.getElem?_set_self hb] at hx'
        cases hx'
        have hcell := hst.blk b' (.cells T [.agg [p, .bl h.length e xs]]) (by rw [List.getElem?_append_left (by simpa using hb)]; exact List.getElem?_set_self hb)
        obtain ⟨B, N, c, e0, h1, h2, h3, h4, h5, h6⟩ := hcell
        refine ⟨B, N, c, e0, by rw [upd_ne e1]; exact h1, h2, h3, h4, h5, fun i x hi => ?_⟩
        cases i with
        | succ i => simp at hi
        | zero =>
          simp at hi
          subst hi
          obtain ⟨h7, h8⟩ := h6 0 _ rfl
          refine ⟨h7, fun j y hj => ?_⟩
          match j, hj with
          | 0, hj =>
            simp [AV.cells] at hj
            subst hj
            obtain ⟨u, u1, u2, u3⟩ := h8 0 p rfl
            exact ⟨u, u1, hold hp u2, u3⟩
          | 1, hj =>
            simp [AV.cells] at hj
            subst hj
            obtain ⟨u, u1, u2, u3⟩ := h8 1 _ rfl
            refine ⟨u, u1, ?_, u3⟩
            cases u2 with | bl _ r1 r2 r3 r4 => exact .bl hkl r1 (by rw [upd_same]; exact r2) r3 r4
          | j + 2, hj => simp [AV.cells] at hj
      · rw [List.getElem?_set_ne (Ne.symm e2)] at hx'
        have hlt := (List.getElem?_eq_some_iff.mp hx').1
        have := hst.blk b' x (by rw [List.getElem?_append_left (by simpa using hlt), List.getElem?_set_ne (Ne.symm e2)]; exact hx')
        exact (this.cut (hok x (List.mem_of_getElem? hx'))).mono hx (upd_ne e1) (Nat.le_refl _) (fun _ _ _ h => h) (fun _ _ _ _ => rfl)
  · rw [hlen] at h1 h2
    have tr : ∀ b', b' < h.length → ((upd ρ k (ρ h.length)) b').conc = some B → ∃ b'', b'' < h.length + 1 ∧ (ρ b'').conc = some B ∧ (b'' = if b' = k then h.length else b') := by
      intro b' hb' hc
      by_cases e1 : b' = k
      · subst e1; rw [upd_same] at hc; exact ⟨h.length, by omega, hc, by simp⟩
      · rw [upd_ne e1] at hc; exact ⟨b', by omega, hc, by simp [e1]⟩
    obtain ⟨a1, l1, d1, q1⟩ := tr b1 h1 c1
    obtain ⟨a2, l2, d2, q2⟩ := tr b2 h2 c2
    have := hst.dist a1 a2 B (by simpa using l1) (by simpa using l2) d1 d2
    rw [q1, q2] at this
    split at this <;> split at this <;> omega
  · rw [hlen] at h1
    by_cases e1 : b1 = k
    · subst e1; rw [upd_same] at c1; exact hst.lt h.length B (by simp) c1
    · rw [upd_ne e1] at c1; exact hst.lt b1 B (by simp; omega) c1

/-- A builder that was just made: its row gets a name. -/
theorem Shift.openB {T e : TypeId} {s : Slots} {H h : List Blk} {b : Nat} {x : AV} (hH : H = h.set b (.cells T [.agg [.d .nilptr, .d .nilsl]])) (hb : h[b]? = some (.cells T [x])) (hx : x.cells = [.d .nilptr, .d .nilsl]) : Shift P m nt ⟨s, h⟩ ⟨s, H ++ [.tail e 0]⟩ := by
  subst hH
  intro base w0 F ρ a w hr
  have hb' := (List.getElem?_eq_some_iff.mp hb).1
  have hx' : Ext h.length F ρ F (upd ρ h.length (.bld (.slice none 0 0) 0)) := Ext.upd _ _ _ _
  have hl : ∀ X : Blk, (h.set b X).length = h.length := fun X => by simp
  refine ⟨F, upd ρ h.length (.bld (.slice none 0 0) 0), hx'.weak hr.le, ⟨hr.st.frz, fun b' y hy => ?_, fun b1 b2 B h1 h2 c1 c2 => ?_, hr.st.old, hr.st.hb, fun b1 B h1 c1 => ?_⟩, fun i v hi => ?_, hr.size, hr.defers, by have := hr.le; simp; exact Nat.le_trans this (Nat.le_succ _)⟩
  · simp only [List.length_append, List.length_set, List.length_singleton]
    by_cases e1 : b' = h.length
    · subst e1
      rw [List.getElem?_append_right (by simp)] at hy
      simp at hy
      subst hy
      exact ⟨none, 0, upd_same _ _ _, Nat.le_refl _, fun h => absurd rfl h⟩
    · have hlt : b' < h.length := by
        have := (List.getElem?_eq_some_iff.mp hy).1
        simp at this; omega
      rw [List.getElem?_append_left (by simpa using hlt)] at hy
      by_cases e2 : b' = b
      · subst e2
        rw [List.getElem?_set_self hb'] at hy
        cases hy
        have := (hr.st.blk b' _ hb).mono hx' (upd_ne e1) (Nat.le_succ _) (fun _ _ _ h => h) (fun _ _ _ _ => rfl)
        obtain ⟨B, N, c, e0, q1, q2, q3, q4, q5, q6⟩ := this
        refine ⟨B, N, c, e0, q1, q2, q3, q4, q5, fun i z hz => ?_⟩
        cases i with
        | succ i => simp at hz
        | zero =>
          simp at hz
          subst hz
          have := q6 0 x rfl
          rw [hx] at this
          exact this
      · rw [List.getElem?_set_ne (Ne.symm e2)] at hy
        exact (hr.st.blk b' y hy).mono hx' (upd_ne e1) (Nat.le_succ _) (fun _ _ _ h => h) (fun _ _ _ _ => rfl)
  · simp only [List.length_append, List.length_set, List.length_singleton] at h1 h2
    by_cases e1 : b1 = h.length
    · subst e1; rw [upd_same] at c1; simp [Loc.conc] at c1
    · by_cases e2 : b2 = h.length
      · subst e2; rw [upd_same] at c2; simp [Loc.conc] at c2
      · rw [upd_ne e1] at c1; rw [upd_ne e2] at c2
        exact hr.st.dist b1 b2 B (by show b1 < h.length; omega) (by show b2 < h.length; omega) c1 c2
  · simp only [List.length_append, List.length_set, List.length_singleton] at h1
    by_cases e1 : b1 = h.length
    · subst e1; rw [upd_same] at c1; simp [Loc.conc] at c1
    · rw [upd_ne e1] at c1
      exact hr.st.lt b1 B (by show b1 < h.length; omega) c1
  · obtain ⟨cv, h4, h5⟩ := hr.slots i v hi
    exact ⟨cv, h4, h5.mono hx' (by simp)⟩

end Go.Vm

/- Lists and library calls: what many proofs use. -/
set_option linter.unusedSimpArgs false
namespace Go.Vm
variable {P : Program} {h : List Blk}

theorem mid {α : Type} {a b : List α} {x : α} {n : Nat} (h : n = a.length) : (a ++ x :: b)[n]? = some x := by subst h; simp
theorem half_get' {α β : Type} {f : α → β} {l : List α} {y : α} {k : Nat} (hy : l[k]? = some y) : (l.map f)[k]? = some (f y) := by simp [hy]
theorem getD_some {α : Type} {l : List α} {i : Nat} {x d : α} (h : l[i]? = some x) : l.getD i d = x := by rw [List.getD, h]; rfl

def encI (n : Int) : D := .int .i64 n
def encS (s : List UInt8) : D := .str s
def encU (c : UInt8) : D := .int .u8 (c.toNat : Int)
def encL (e : TypeId) {α : Type} (f : α → D) (l : List α) : D := .sl e (l.map f)

@[simp] theorem cells_encS (s : List UInt8) : D.cells (encS s) = [encS s] := rfl
@[simp] theorem cells_encI (n : Int) : D.cells (encI n) = [encI n] := rfl
@[simp] theorem cells_encU (c : UInt8) : D.cells (encU c) = [encU c] := rfl

/-- The first position at which something holds, or -1. -/
def idxFrom {α : Type} (p : α → Bool) : Nat → List α → Int
  | _, [] => -1
  | i, x :: r => if p x then i else idxFrom p (i + 1) r

theorem idxFrom_any {α : Type} (p : α → Bool) : ∀ (i : Nat) (l : List α), decide (0 ≤ idxFrom p i l) = l.any p
  | i, [] => by simp [idxFrom]
  | i, x :: r => by
    simp only [idxFrom, List.any_cons]
    by_cases h : p x = true
    · simp [h]
    · have h' : p x = false := by simpa using h
      simp [h', idxFrom_any p (i + 1) r]

/-- How many elements there are in all lists. -/
def total {α : Type} : List (List α) → Nat
  | [] => 0
  | l :: r => l.length + total r
theorem total_app {α : Type} : ∀ (a b : List (List α)), total (a ++ b) = total a + total b
  | [], b => by simp [total]
  | x :: a, b => by simp [total, total_app a b]; omega

theorem u8_inj (a b : UInt8) : ((a.toNat : Int) = (b.toNat : Int)) = (a = b) := by
  apply propext
  constructor
  · intro h; exact UInt8.toNat_inj.mp (by omega)
  · intro h; rw [h]

/-- Arguments that lie in no memory. -/
def D.flats : List D → Bool
  | [] => true
  | x :: r => x.flat && D.flats r

theorem flat_val {sz : TypeId → Nat} {F : Frz} {x : D} {v : Value} (hx : x.flat = true) (h : FRep sz F x v) : v = x.val := by
  cases h <;> first | rfl | (simp [D.flat] at hx)

theorem flats_get : ∀ {ds : List D}, D.flats ds = true → ∀ x ∈ ds, x.flat = true
  | [], _, x, hx => by cases hx
  | y :: ds, h, x, hx => by
    simp only [D.flats, Bool.and_eq_true] at h
    rcases List.mem_cons.mp hx with rfl | hx
    · exact h.1
    · exact flats_get h.2 x hx

/-- A function of numbers and texts that leaves the world below as it is. -/
theorem callP_below {f : FuncId} {ds : List D} {r : D} (hE : Enters P f) (hf : D.flats ds = true) (hr : r.flat = true)
    (hc : ∀ (base : Nat) (w0 w : World), GlobOk base w0 → base ≤ w.heap.size → (∀ q, q < base → w.heap[q]? = w0.heap[q]?) →
      Calls P f (ds.map D.val).toArray w fun e w' => e = .returned r.val ∧ RowKit.Below w.heap.size w w') : CallP P f (ds.map AV.d) h (.d r) := by
  refine ⟨hE, fun base w0 F ρ w vs hst ha => ?_⟩
  have hvs : vs = (ds.map D.val).toArray := by
    refine Array.ext (by simpa using ha.1.symm) fun i hi hi' => ?_
    simp only [List.size_toArray, List.length_map] at hi'
    obtain ⟨v, hv, hvr⟩ := ha.2 i (.d ds[i]) (by simp [hi'])
    have := flat_val (flats_get hf _ (List.getElem_mem hi')) hvr.d_inv
    rw [this] at hv
    have h2 := (Array.getElem?_eq_some_iff.mp hv).2
    simp [h2]
  subst hvs
  refine (hc base w0 w hst.old.1.2 hst.hb hst.old.2).mono ?_
  rintro e w' ⟨rfl, hb⟩
  refine ⟨_, .d r, h, F, ρ, rfl, Ext.refl _ _ _, hst.below ⟨hb.os, hb.tape, hb.output⟩ hb.size hb.block, ?_, Nat.le_refl _, rfl, rfl⟩
  exact .d (D.val_rep (by cases r <;> first | rfl | (simp [D.flat] at hr)))

end Go.Vm

/- Quotients and remainders of numbers that are not negative; contracts of the library over flat arguments that give rows. -/
set_option linter.unusedSimpArgs false
namespace Go.Vm
theorem tdivP {a b : Int} (h : 0 ≤ a) : a.tdiv b = a / b := Int.tdiv_eq_ediv_of_nonneg h
theorem tmodP {a b : Int} (h : 0 ≤ a) : a.tmod b = a % b := Int.tmod_eq_emod_of_nonneg h

theorem tdiv_cases (n c : Int) (hc : 0 < c) : n = c * n.tdiv c + n.tmod c ∧ -c < n.tmod c ∧ n.tmod c < c ∧ (0 ≤ n → 0 ≤ n.tmod c) ∧ (n ≤ 0 → n.tmod c ≤ 0) := by
  have e1 := Int.mul_tdiv_add_tmod n c
  rcases Int.lt_or_le n 0 with h | h
  · obtain ⟨k, hk⟩ : ∃ k, n = -k := ⟨-n, by omega⟩
    subst hk
    have h0 : 0 ≤ k := by omega
    have e2 : (-k).tmod c = -(k % c) := by rw [Int.neg_tmod, tmodP h0]
    have e3 := Int.emod_nonneg k (b := c) (by omega)
    have e4 := Int.emod_lt_of_pos k hc
    exact ⟨e1.symm, by omega, by omega, by omega, by omega⟩
  · have e2 : n.tmod c = n % c := tmodP h
    have e3 := Int.emod_nonneg n (b := c) (by omega)
    have e4 := Int.emod_lt_of_pos n hc
    refine ⟨e1.symm, by omega, by omega, by omega, fun h2 => ?_⟩
    have : n = 0 := by omega
    subst this; simp

theorem bel_cellsD (e : TypeId) (x : D) (n : Nat) : BlkBel n (.cells e [.d x]) := by
  intro y hy z hz
  rw [List.mem_singleton] at hy
  subst hy
  simp only [AV.cells, List.mem_map] at hz
  obtain ⟨z, _, rfl⟩ := hz
  exact .d _

end Go.Vm
