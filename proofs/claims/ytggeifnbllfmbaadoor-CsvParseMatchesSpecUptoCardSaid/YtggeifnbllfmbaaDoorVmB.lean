/- Shifts (what is known is forgotten or named), and a function's contract out of its body. -/
import Derived.Test.YtggeifnbllfmbaaDoorVmA
set_option linter.unusedSimpArgs false
namespace Go.Vm

variable {P : Program} {base : Nat} {w0 : World} {m nt : Nat} {F : Frz} {ρ : Env0} {env env' : Env} {a : Act} {w : World} {n : Nat} {tab : Tab} {sz : TypeId → Nat} {h : List Blk}

/-- What may be said in place of a value. -/
inductive Sub : AV → AV → Prop
  | refl (x : AV) : Sub x x
  | unk (x : AV) : Sub x .unk
  | nil (e : TypeId) : Sub (.d .nilsl) (.d (.sl e []))
  | bl (b : Nat) (e : TypeId) (xs : List D) : Sub (.bl b e xs) (.d (.sl e xs))
  | z0 (e : TypeId) : Sub (.z0 e) (.d (.sl e []))
  | nilz (e : TypeId) : Sub (.d .nilsl) (.z0 e)

theorem sl_empty (e : TypeId) (A : Option Addr) (c : Nat) : FRep sz F (.sl e []) (.slice A 0 c) :=
  .sl e [] A ⟨0, 0, none⟩ c (fun _ _ => .nilIface) (by simp) (by simp) (by simp) (by simp) (by simp) (by simp)

theorem Sub.rel {x y : AV} {v : Value} (hs : Sub x y) (hv : VRel sz F ρ n x v) : VRel sz F ρ n y v := by
  cases hs with
  | refl => exact hv
  | unk => exact .unk v
  | nil e => cases hv with | d hv => cases hv with | nilsl => exact .d (sl_empty e none 0)
  | bl b e xs => cases hv with | bl hb h hl hw hc => exact .d h
  | z0 e => cases hv with | @z0 _ A => exact .d (sl_empty e A 0)
  | nilz e => cases hv with | d hv => cases hv with | nilsl => exact .z0

theorem look_mem {s : Slots} {i : Nat} {v : AV} (h : look s i = some v) : (i, v) ∈ s := by
  induction s with
  | nil => simp [look] at h
  | cons kv r ih =>
    obtain ⟨k, u⟩ := kv
    simp only [look] at h
    by_cases e : k = i
    · rw [if_pos e] at h; cases h; subst e; simp
    · rw [if_neg e] at h; exact List.mem_cons_of_mem _ (ih h)

theorem Shift.refl : Shift P m nt env env := fun _ _ F ρ _ _ h => ⟨F, ρ, Ext.refl _ _ _, h⟩
theorem Shift.trans {e1 e2 e3 : Env} (h1 : Shift P m nt e1 e2) (h2 : Shift P m nt e2 e3) : Shift P m nt e1 e3 := by
  intro base w0 F ρ a w hr
  obtain ⟨F1, ρ1, hx1, hr1⟩ := h1 base w0 F ρ a w hr
  obtain ⟨F2, ρ2, hx2, hr2⟩ := h2 base w0 F1 ρ1 a w hr1
  exact ⟨F2, ρ2, hx1.trans hx2, hr2⟩

/-- Forgetting slots and the last blocks. -/
theorem Shift.weak {s s' : Slots} {h g : List Blk} (hs : ∀ kv ∈ s', ∃ v, look s kv.1 = some v ∧ Sub v kv.2 ∧ Bel h.length kv.2) (hok : HOk h) (hm : m ≤ h.length) :
    Shift P m nt ⟨s, h ++ g⟩ ⟨s', h⟩ := by
  intro base w0 F ρ a w hr
  refine ⟨F, ρ, Ext.refl _ _ _, hr.st.cut hok, fun i v hi => ?_, hr.size, hr.defers, hm⟩
  obtain ⟨u, h1, h2, h3⟩ := hs _ (look_mem hi)
  obtain ⟨cv, h4, h5⟩ := hr.slots i u h1
  exact ⟨cv, h4, (h2.rel h5).cut h3⟩

/-- A nil slice is the begin of a builder. -/
theorem Shift.nilbl {s : Slots} {h : List Blk} {i : Nat} (e : TypeId) (hi : look s i = some (.d .nilsl)) :
    Shift P m nt ⟨s, h⟩ ⟨(i, .bl h.length e []) :: s, h ++ [.tail e 0]⟩ := by
  intro base w0 F ρ a w hr
  have hx : Ext h.length F ρ F (upd ρ h.length (.bld (.slice none 0 0) 0)) := Ext.upd _ _ _ _
  have hst : St (psz P) base w0 F (upd ρ h.length (.bld (.slice none 0 0) 0)) (h ++ [.tail e 0]) w := by
    refine ⟨hr.st.frz, fun b x hb => ?_, fun b b' B h1 h2 c1 c2 => ?_, hr.st.old, hr.st.hb, fun b B h1 c1 => ?_⟩
    · rw [List.length_append, List.length_singleton]
      rcases Nat.lt_trichotomy b h.length with h1 | h1 | h1
      · rw [List.getElem?_append_left h1] at hb
        exact (hr.st.blk b x hb).mono hx (upd_ne (by omega)) (Nat.le_succ _) (fun r o _ hr => hr) (fun _ _ _ _ => rfl)
      · subst h1
        simp only [List.getElem?_append_right (Nat.le_refl _), Nat.sub_self, List.getElem?_cons_zero, Option.some.injEq] at hb
        subst hb
        exact ⟨none, 0, upd_same _ _ _, by omega, fun h => absurd rfl h⟩
      · rw [List.getElem?_eq_none (by simp; omega)] at hb
        cases hb
    · simp only [List.length_append, List.length_singleton] at h1 h2
      by_cases e1 : b = h.length
      · subst e1; rw [upd_same] at c1; simp [Loc.conc] at c1
      · by_cases e2 : b' = h.length
        · subst e2; rw [upd_same] at c2; simp [Loc.conc] at c2
        · rw [upd_ne e1] at c1; rw [upd_ne e2] at c2
          exact hr.st.dist b b' B (show b < h.length by omega) (show b' < h.length by omega) c1 c2
    · simp only [List.length_append, List.length_singleton] at h1
      by_cases e1 : b = h.length
      · subst e1; rw [upd_same] at c1; simp [Loc.conc] at c1
      · rw [upd_ne e1] at c1
        exact hr.st.lt b B (show b < h.length by omega) c1
  refine ⟨F, _, hx.weak hr.le, hst, fun j v hj => ?_, hr.size, hr.defers, by have := hr.le; simp; exact Nat.le_trans this (Nat.le_succ _)⟩
  simp only [look] at hj
  by_cases ej : i = j
  · rw [if_pos ej] at hj
    cases hj
    subst ej
    obtain ⟨cv, h4, h5⟩ := hr.slots i _ hi
    refine ⟨cv, h4, ?_⟩
    cases h5 with | d h5 => cases h5 with
    | nilsl => exact .bl (by simp) (sl_empty e none 0) (upd_same _ _ _) (by simp) (fun _ => rfl)
  · rw [if_neg ej] at hj
    obtain ⟨cv, h4, h5⟩ := hr.slots j v hj
    exact ⟨cv, h4, h5.mono hx (by simp)⟩

/-- What a function's results are. -/
def resAV (tab : Tab) (env : Env) : List ResultVar → Option (Prop × List AV)
  | [] => some (True, [])
  | .tmp t :: r => match look env.s t, resAV tab env r with
    | some v, some (o, vs) => some (o, v :: vs)
    | _, _ => none
  | .cell x t :: r => match look env.s x, resAV tab env r with
    | some p, some (o, vs) => match loadAV tab env.h t p with
      | some (o', v) => some (o' ∧ o, v :: vs)
      | none => none
    | _, _ => none

def oneOf (vs : List AV) : AV := match vs with | [v] => v | vs => .tup vs

/-- A shift of a result. -/
def RShift (P : Program) (m : Nat) (v : AV) (h : List Blk) (x : AV) (h' : List Blk) : Prop :=
  ∀ base w0 F ρ w cv, St (psz P) base w0 F ρ h w → VRel (psz P) F ρ h.length v cv →
    ∃ F' ρ', Ext m F ρ F' ρ' ∧ St (psz P) base w0 F' ρ' h' w ∧ VRel (psz P) F' ρ' h'.length x cv ∧ m ≤ h'.length

theorem RShift.drop {v x : AV} {h g : List Blk} (hs : Sub v x) (hb : Bel h.length x) (hok : HOk h) (hm : m ≤ h.length) : RShift P m v (h ++ g) x h :=
  fun _ _ F ρ _ _ hst hv => ⟨F, ρ, Ext.refl _ _ _, hst.cut hok, (hs.rel hv).cut hb, hm⟩

def retW (P : Program) (tab : Tab) (m : Nat) (rs : List ResultVar) (Q : AV → List Blk → Prop) (ex : Exit) (env : Env) : Prop :=
  match ex with
  | .normal | .ret => match resAV tab env rs with
    | some (o, vs) => o ∧ ∃ x h', RShift P m (oneOf vs) env.h x h' ∧ Q x h'
    | none => False
  | _ => False

def argSlots (k : Nat) : List AV → Slots
  | [] => []
  | x :: r => (k, x) :: argSlots (k + 1) r

theorem look_args {args : List AV} {k i : Nat} {v : AV} (h : look (argSlots k args) i = some v) : k ≤ i ∧ args[i - k]? = some v := by
  induction args generalizing k with
  | nil => simp [argSlots, look] at h
  | cons x r ih =>
    simp only [argSlots, look] at h
    by_cases e : k = i
    · rw [if_pos e] at h; cases h; subst e; simp
    · rw [if_neg e] at h
      obtain ⟨h1, h2⟩ := ih h
      exact ⟨by omega, by rw [show i - k = (i - (k + 1)) + 1 from by omega]; simpa using h2⟩

def resStep (tmps : Array Value) : ResultVar → Sem Value
  | .tmp t => Pure.pure (tmps.getD t undef)
  | .cell x t => do loadVar t (← asAddr (tmps.getD x undef))

theorem results_eq (fn : Func) (tmps : Array Value) : results fn tmps = (do
    let vs ← fn.results.mapM (resStep tmps)
    Pure.pure (if h : vs.size = 1 then vs[0] else .tuple vs)) := by
  unfold results
  congr 1

theorem resAV_sound (hT : tab.checks P = true) (hr : Rel (psz P) base w0 m nt F ρ env a w) : ∀ {rs : List ResultVar} {o : Prop} {vs : List AV}, resAV tab env rs = some (o, vs) → o →
    ∃ cvs : List Value, (rs.mapM (resStep a.tmps)).run P w = .ok cvs w ∧
      cvs.length = vs.length ∧ ∀ (k : Nat) (v : AV), vs[k]? = some v → ∃ cv, cvs[k]? = some cv ∧ VRel (psz P) F ρ env.h.length v cv
  | [], o, vs, h, ho => by
    simp only [resAV, Option.some.injEq, Prod.mk.injEq] at h
    obtain ⟨_, rfl⟩ := h
    exact ⟨[], rfl, rfl, by simp⟩
  | .tmp t :: r, o, vs, h, ho => by
    simp only [resAV] at h
    split at h
    · rename_i v o' vs' h1 h2
      simp only [Option.some.injEq, Prod.mk.injEq] at h
      obtain ⟨rfl, rfl⟩ := h
      obtain ⟨cvs, h3, h4, h5⟩ := resAV_sound hT hr h2 ho
      obtain ⟨cv, h6, h7⟩ := hr.slots t v h1
      refine ⟨cv :: cvs, ?_, by simp [h4], fun k u hk => ?_⟩
      · have hp' : a.tmps.getD t undef = cv := by simp [Array.getD_eq_getD_getElem?, h6]
        rw [List.mapM_cons]
        simp only [resStep, Sem.run_bind, Sem.run_pure, Result.andThen_ok, h3, hp']
      · cases k with
        | zero => simp at hk; subst hk; exact ⟨cv, rfl, h7⟩
        | succ k => simpa using h5 k u (by simpa using hk)
    · simp at h
  | .cell x t :: r, o, vs, h, ho => by
    simp only [resAV] at h
    split at h
    · rename_i p o' vs' h1 h2
      split at h
      · rename_i o2 v h8
        simp only [Option.some.injEq, Prod.mk.injEq] at h
        obtain ⟨rfl, rfl⟩ := h
        obtain ⟨cvs, h3, h4, h5⟩ := resAV_sound hT hr h2 ho.2
        obtain ⟨cp, h6, h7⟩ := hr.slots x p h1
        obtain ⟨cv, h9, h10⟩ := load_sound hT hr.st h8 ho.1 h7
        have hp : ∃ ad, cp = .pointer (some ad) := by
          unfold loadAV at h8
          split at h8
          · cases h7; exact ⟨_, rfl⟩
          · cases h7; exact ⟨_, rfl⟩
          · simp at h8
        obtain ⟨ad, rfl⟩ := hp
        refine ⟨cv :: cvs, ?_, by simp [h4], fun k u hk => ?_⟩
        · have hp' : a.tmps.getD x undef = .pointer (some ad) := by simp [Array.getD_eq_getD_getElem?, h6]
          have ha : (asAddr (a.tmps.getD x undef)).run P w = .ok ad w := by rw [hp']; rfl
          simp only [Instr.loadAt, Instr.sureAddr, pure_bind] at h9
          rw [List.mapM_cons]
          simp only [resStep, Sem.run_bind, ha, Result.andThen_ok, h9, h3, Sem.run_pure]
        · cases k with
          | zero => simp at hk; subst hk; exact ⟨cv, rfl, h10⟩
          | succ k => simpa using h5 k u (by simpa using hk)
      · simp at h
    · simp at h

theorem callW_of_body (hT : tab.checks P = true) {mu : Tmp → Bool} (hok : OrderOk P tab nt mu) {f : FuncId} {fn : Func} {c : Code} (hf : P.funcs[f]? = some fn) (hb : fn.body = some c)
    (hname : (fn.name == "runtime.NumGoroutine") = false) (hnt : fn.ntmps = nt) {vc : VC} (hvc : strip nt mu c = vc) {args : List AV} {h : List Blk} {Q : AV → List Blk → Prop} (hlen : args.length ≤ nt)
    (hW : HOk h → W P tab h.length nt vc (retW P tab h.length fn.results.toList Q) ⟨argSlots 0 args, h⟩) : CallW P f args h Q := by
  refine ⟨⟨fn, hf, hname, by rw [hb]; rfl⟩, fun base w0 F ρ w vs hst ⟨hsz, hargs⟩ => ?_⟩
  refine calls_of_wp hf hb ?_
  have hW' := hW hst.hok
  rw [← hvc] at hW'
  have hr : Rel (psz P) base w0 h.length nt F ρ ⟨argSlots 0 args, h⟩ { tmps := vs ++ Array.replicate (fn.ntmps - vs.size) undef, defers := [] } w := by
    refine ⟨hst, fun i v hi => ?_, by simp [hnt]; omega, rfl, Nat.le_refl _⟩
    obtain ⟨_, h1⟩ := look_args hi
    simp only [Nat.sub_zero] at h1
    obtain ⟨cv, h2, h3⟩ := hargs i v h1
    refine ⟨cv, ?_, h3⟩
    have hlt : i < vs.size := by
      rcases Nat.lt_or_ge i vs.size with h | h
      · exact h
      · simp [Array.getElem?_eq_none h] at h2
    show (vs ++ _)[i]? = some cv
    rw [Array.getElem?_append_left hlt]; exact h2
  refine W_sound hT hok c hW' hr ?_
  rintro ex a' w' ⟨F', ρ', env', hx, hr', hq⟩
  have fin : ∀ o vs', resAV tab env' fn.results.toList = some (o, vs') → o → (∃ x h', RShift P h.length (oneOf vs') env'.h x h' ∧ Q x h') →
      a'.defers = [] ∧ ∃ v, (results fn a'.tmps).run P w' = .ok v w' ∧ ∃ v' x h' F' ρ', Ending.returned v = .returned v' ∧ Ext h.length F ρ F' ρ' ∧ St (psz P) base w0 F' ρ' h' w' ∧ VRel (psz P) F' ρ' h'.length x v' ∧ h.length ≤ h'.length ∧ Q x h' := by
    rintro o vs' h1 h2 ⟨x, h', h3, h4⟩
    obtain ⟨cvs, h5, h6, h7⟩ := resAV_sound hT hr' h1 h2
    have hres : (results fn a'.tmps).run P w' = .ok (if h : cvs.toArray.size = 1 then cvs.toArray[0] else .tuple cvs.toArray) w' := by
      rw [results_eq, Sem.run_bind, Array.mapM_eq_mapM_toList, Sem.run_map, h5]
      rfl
    have hone : VRel (psz P) F' ρ' env'.h.length (oneOf vs') (if h : cvs.toArray.size = 1 then cvs.toArray[0] else .tuple cvs.toArray) := by
      by_cases hc1 : cvs.length = 1
      · rw [dif_pos (by simpa using hc1)]
        match cvs, vs', h6, hc1, h7 with
        | [c], [v], _, _, h7 =>
          obtain ⟨c', h8, h9⟩ := h7 0 v rfl
          cases h8
          exact h9
      · rw [dif_neg (by simpa using hc1)]
        have : oneOf vs' = .tup vs' := by
          unfold oneOf
          split
          · exact absurd h6 hc1
          · rfl
        rw [this]
        refine .tup vs' _ (by simpa using h6) (fun k => cvs.getD k .nilIface) (fun k c hk => ?_) (fun k c hk => ?_)
        · obtain ⟨cv, h8, _⟩ := h7 k c hk
          simp [h8]
        · obtain ⟨cv, h8, h9⟩ := h7 k c hk
          rw [List.getD, h8]
          exact h9
    obtain ⟨F'', ρ'', hx', hst', hv', hl'⟩ := h3 base w0 F' ρ' w' _ hr'.st hone
    exact ⟨hr'.defers, _, hres, _, x, h', F'', ρ'', rfl, hx.trans hx', hst', hv', hl', h4⟩
  unfold retW at hq
  cases ex with
  | normal | ret =>
    simp only at hq
    split at hq
    · rename_i o vs' h1
      exact fin o vs' h1 hq.1 hq.2
    · exact hq.elim
  | _ => exact hq.elim

end Go.Vm
