/- evL as a whole. -/
import Derived.Test.YtggeifnbllfmbaaDoorVmM
import Derived.Laws.BytesArg
set_option linter.unusedSimpArgs false
namespace Go.Vm
variable {P : Program} {base : Nat} {w0 : World} {m nt : Nat} {F : Frz} {ρ : Env0} {env : Env} {a : Act} {w : World} {n : Nat} {tab : Tab} {sz : TypeId → Nat}

theorem vOf {s : Sem Value} {v : AV} (h : Gives P sz F ρ n w s v) : ∃ cv, ((do Pure.pure (Next.value (← s)) : Sem Next)).run P w = .ok (.value cv) w ∧ VRel sz F ρ n v cv := by
  obtain ⟨cv, h1, h2⟩ := h
  exact ⟨cv, by simp only [Sem.run_bind, h1, Result.andThen_ok, Sem.run_pure], h2⟩

theorem tup_get {vs : List AV} {cv : Value} {i : Nat} {v : AV} (h : VRel sz F ρ n (.tup vs) cv) (hi : vs[i]? = some v) : Gives P sz F ρ n w (Instr.extract cv i) v := by
  cases h with
  | tup _ ws hs val hv hr =>
    have := hv i v hi
    exact ⟨val i, by simp [Instr.extract, this], hr i v hi⟩

theorem bytesOk_get : ∀ {xs : List D}, bytesOk xs → ∀ (i : Nat) (x : D), xs[i]? = some x → ∃ n, x = .int .u8 n
  | [], _, i, x, h => by simp at h
  | y :: ys, hb, i, x, h => by
    cases i with
    | zero =>
      simp at h
      subst h
      cases y with
      | int k n => have : k = .u8 := hb.1; subst this; exact ⟨n, rfl⟩
      | _ => exact hb.1.elim
    | succ i => exact bytesOk_get hb.2 i x (by simpa using h)

def numOf : D → Int
  | .int _ n => n
  | _ => 0

theorem strOfNums_map (xs : List D) (hb : bytesOk xs) : strOfNums (xs.map numOf) = ⟨(xs.map byteOf).toArray⟩ := by
  unfold strOfNums
  congr 2
  rw [List.map_map]
  apply List.map_congr_left
  intro x hx
  obtain ⟨i, hi⟩ := List.getElem?_of_mem hx
  obtain ⟨n, rfl⟩ := bytesOk_get hb i x hi
  rfl

/-- A text out of bytes. -/
theorem bytes_sound {F : Frz} {e src dst : TypeId} {xs : List D} {v : Value} (hF : ∀ y u, F y = some u → w.cell? y = some u) (hs : P.underlying src = some (.slice e)) (he : P.underlying e = some (.int .u8)) (hd : P.underlying dst = some .string)
    (hsz : psz P e = 1) (hb : bytesOk xs) (h : FRep (psz P) F (.sl e xs) v) : (convert src dst v).run P w = .ok (.string ⟨(xs.map byteOf).toArray⟩) w := by
  cases h with
  | sl _ _ A ad cap val hA hc hl hF' hr ho =>
    by_cases h0 : xs = []
    · subst h0
      show (convert src dst (.slice A 0 cap)).run P w = _
      rw [run_convert_bytes_string w src dst e A 0 cap hs he hd]
      cases A with
      | none => simp [Conv.bytesToString]; rfl
      | some a =>
        exact run_bytesToString (P := P) w a 0 cap [] (by simp [loadCells, loadCellsFrom])
    · obtain ⟨rfl, hsp⟩ := hA h0
      obtain ⟨b, off, spot⟩ := ad
      simp only at hsp hF'
      subst hsp
      rw [← strOfNums_map xs hb]
      refine run_convert_bytes_arg w src e hs he b off xs.length cap (xs.map numOf) (by simp) (fun i hi => ?_) dst hd
      have hx : xs[i]? = some xs[i] := List.getElem?_eq_getElem hi
      obtain ⟨n, hn⟩ := bytesOk_get hb i _ hx
      have h1 := hF' i _ 0 (.int .u8 n) hx (by rw [hn]; rfl)
      have h2 := hr i _ 0 (.int .u8 n) hx (by rw [hn]; rfl)
      rw [hsz, Nat.mul_one, Nat.add_zero] at h1
      have h3 := hF _ _ h1
      generalize hv : val i 0 = u at h2 h3
      cases h2
      rw [h3]
      simp [List.getD, hx, hn, numOf]

theorem evL_sound (hT : tab.checks P = true) (hr : Rel (psz P) base w0 m nt F ρ env a w) {o : Oper} {ob : Prop} {v : AV} (h : evL tab env o.op = some (ob, v)) (hob : ob) :
    ∃ cv, (execOp a.eval o).run P w = .ok (.value cv) w ∧ VRel (psz P) F ρ env.h.length v cv := by
  obtain ⟨dst, op, type, pos, after, guard⟩ := o
  simp only at h
  cases op with
  | move x | assign x =>
    simp only [evL, Option.map_eq_some_iff, Prod.mk.injEq] at h
    obtain ⟨v', h1, rfl, rfl⟩ := h
    exact ⟨a.eval x, rfl, ev_sound hr h1⟩
  | pick c x y =>
    simp only [evL] at h
    split at h
    · rename_i t ht
      simp only [Option.some.injEq, Prod.mk.injEq] at h
      obtain ⟨_, rfl⟩ := h
      have := (ev_sound hr ht).bool_inv
      have key : ∀ z : Operand, VRel (psz P) F ρ env.h.length ((ev env z).getD .unk) (a.eval z) := by
        intro z
        cases hz : ev env z with
        | none => exact .unk _
        | some u => exact ev_sound hr hz
      refine ⟨if t then a.eval x else a.eval y, ?_, ?_⟩
      · simp only [execOp, this, asBool, Sem.run_bind, Sem.run_pure, Result.andThen_ok]
      · cases t
        · exact key y
        · exact key x
    · simp at h
  | binOp op t x y yt =>
    simp only [evL] at h
    split at h
    · rename_i p q hp hq
      exact vOf (bin_sound hT h hob (ev_sound hr hp) (ev_sound hr hq) x y)
    · simp at h
  | unOp op t x =>
    simp only [evL] at h
    split at h
    · rename_i p hp
      exact vOf (un_sound h (ev_sound hr hp))
    · simp at h
  | convert s d x =>
    simp only [evL] at h
    split at h
    · rename_i ks _ _ _ k _ _ _ ks' i hs hd hx
      simp only [Option.some.injEq, Prod.mk.injEq] at h
      obtain ⟨_, rfl⟩ := h
      obtain ⟨ds, hus, hfs⟩ := (Tab.good hT hs).desc
      obtain ⟨dd, hud, hfd⟩ := (Tab.good hT hd).desc
      have := (ev_sound hr hx).int_inv
      refine vOf ⟨_, ?_, rint _ _⟩
      simp only [this, convert, Sem.run_bind, run_underlying' hus, run_underlying' hud, Result.andThen_ok, tk_int hfs, tk_int hfd, Conv.intToInt, Sem.run_pure]
    · rename_i s' hs hd hx
      simp only [Option.some.injEq, Prod.mk.injEq] at h
      obtain ⟨_, rfl⟩ := h
      obtain ⟨ds, hus, hfs⟩ := (Tab.good hT hs).desc
      obtain ⟨dd, hud, hfd⟩ := (Tab.good hT hd).desc
      have := (ev_sound hr hx).str_inv
      refine vOf ⟨_, ?_, rstr _⟩
      simp only [this, convert, Sem.run_bind, run_underlying' hus, run_underlying' hud, Result.andThen_ok, tk_str hfs, tk_str hfd, Sem.run_pure]
    · rename_i ks _ _ _ _ _ _ ks' i hs hd hx
      simp only [Option.some.injEq, Prod.mk.injEq] at h
      obtain ⟨_, rfl⟩ := h
      obtain ⟨ds, hus, hfs⟩ := (Tab.good hT hs).desc
      obtain ⟨dd, hud, hfd⟩ := (Tab.good hT hd).desc
      have := (ev_sound hr hx).int_inv
      refine vOf ⟨_, ?_, rstr _⟩
      simp only [this, convert, Sem.run_bind, run_underlying' hus, run_underlying' hud, Result.andThen_ok, tk_int hfs, tk_str hfd, Conv.intToString, Sem.run_pure]
    · rename_i e _ _ _ _ _ _ u hs hd hx
      obtain ⟨ds, hus, hfs⟩ := (Tab.good hT hs).desc
      obtain ⟨dd, hud, hfd⟩ := (Tab.good hT hd).desc
      rw [tk_sl hfs] at hus
      rw [tk_str hfd] at hud
      split at h
      · rename_i s1 b1 z1 e' xs he hu
        simp only [Option.some.injEq, Prod.mk.injEq] at h
        obtain ⟨h1, rfl⟩ := h
        rw [← h1] at hob
        obtain ⟨rfl, hok⟩ := hob
        have hg := Tab.good hT he
        obtain ⟨de, hue, hfe⟩ := hg.desc
        rw [tk_int hfe] at hue
        have hsz1 : psz P e' = 1 := by rw [hg.psz]; exact hg.one rfl
        have hrep : FRep (psz P) F (.sl e' xs) (a.eval x) := by
          have hvr := ev_sound hr hx
          unfold bytesAV at hu
          split at hu
          · cases hu; exact hvr.d_inv
          · cases hu; generalize a.eval x = cv at hvr; cases hvr with | bl hb h hl hw hc => exact h
          · simp at hu
        exact vOf ⟨_, bytes_sound hr.st.frz hus hue hud hsz1 hok hrep, rstr _⟩
      · rename_i s1 b1 z1 he hu
        unfold nilStr at h
        split at h
        · simp only [Option.some.injEq, Prod.mk.injEq] at h
          obtain ⟨_, rfl⟩ := h
          have hg := Tab.good hT he
          obtain ⟨de, hue, hfe⟩ := hg.desc
          rw [tk_int hfe] at hue
          have hvr := ev_sound hr hx
          have hcv : a.eval x = .slice none 0 0 := by
            generalize a.eval x = cv at hvr
            cases hvr with | d hvr => cases hvr; rfl
          refine vOf ⟨_, ?_, rstr []⟩
          rw [hcv, run_convert_bytes_nil w _ e hus hue 0 0 d hud]
          rfl
        · simp at h
      · simp at h
    · simp at h
  | load t x =>
    simp only [evL] at h
    split at h
    · rename_i p hp
      exact vOf (load_sound hT hr.st h hob (ev_sound hr hp))
    · simp at h
  | fieldAddr t x f =>
    simp only [evL] at h
    split at h
    · rename_i p hp
      exact vOf (fieldAddr_sound hT h hob (ev_sound hr hp))
    · simp at h
  | field t x f =>
    simp only [evL] at h
    split at h
    · rename_i p hp
      exact vOf (field_sound hT h hob (ev_sound hr hp))
    · simp at h
  | indexAddr t x i =>
    simp only [evL] at h
    split at h
    · rename_i p q hp hq
      exact vOf (indexAddr_sound hT h hob (ev_sound hr hp) (ev_sound hr hq))
    · simp at h
  | index t x i =>
    simp only [evL] at h
    split at h
    · rename_i p q hp hq
      exact vOf (index_sound hT h hob (ev_sound hr hp) (ev_sound hr hq))
    · simp at h
  | slice t x lo hi mx =>
    simp only [evL] at h
    split at h
    · rename_i p hp
      exact vOf (slice_sound hT hr h hob (ev_sound hr hp))
    · simp at h
  | lookup t m k ok =>
    simp only [evL] at h
    split at h
    · rename_i mv kv hm hk
      exact vOf (lookup_sound hT hr.st h (ev_sound hr hm) (ev_sound hr hk))
    · simp at h
  | extract x i =>
    simp only [evL] at h
    split at h
    · rename_i vs hvs
      simp only [Option.map_eq_some_iff, Prod.mk.injEq] at h
      obtain ⟨v', h1, rfl, rfl⟩ := h
      exact vOf (tup_get (ev_sound hr hvs) h1)
    · simp at h
  | nilCheck x =>
    simp only [evL] at h
    split at h
    · rename_i b e i o hp
      simp only [Option.some.injEq, Prod.mk.injEq] at h
      obtain ⟨_, rfl⟩ := h
      have hs := ev_sound hr hp
      refine ⟨a.eval x, ?_, hs⟩
      generalize hcv : a.eval x = cv at hs
      cases hs with
      | ptr hb hl => simp only [execOp, hcv, Sem.run_pure]
    · rename_i e xs i o hp
      simp only [Option.some.injEq, Prod.mk.injEq] at h
      obtain ⟨_, rfl⟩ := h
      have hs := ev_sound hr hp
      refine ⟨a.eval x, ?_, hs⟩
      generalize hcv : a.eval x = cv at hs
      cases hs with
      | fp hb hl => simp only [execOp, hcv, Sem.run_pure]
    · rename_i f hp
      simp only [Option.some.injEq, Prod.mk.injEq] at h
      obtain ⟨_, rfl⟩ := h
      have hs := ev_sound hr hp
      refine ⟨a.eval x, ?_, hs⟩
      generalize hcv : a.eval x = cv at hs
      cases hs with | d hs => cases hs with
      | fn f => simp only [execOp, hcv, Sem.run_pure]
    · rename_i f cs hp
      simp only [Option.some.injEq, Prod.mk.injEq] at h
      obtain ⟨_, rfl⟩ := h
      have hs := ev_sound hr hp
      refine ⟨a.eval x, ?_, hs⟩
      generalize hcv : a.eval x = cv at hs
      cases hs with
      | clo => simp only [execOp, hcv, Sem.run_pure]
    · simp at h
  | makeFunc fn first caps =>
    cases fn with
    | func f =>
      simp only [evL] at h
      split at h
      · rename_i h0
        have hf0 : first = #[] := Array.eq_empty_of_size_eq_zero h0
        subst hf0
        have main : ∀ cs : List AV, caps.toList.mapM (ev env) = some cs → VRel (psz P) F ρ env.h.length (.clo f cs) (.func (.func f) #[] (caps.map a.eval)) := by
          intro cs hcs
          obtain ⟨hl, hv⟩ := mapM_ev hr hcs
          refine .clo f cs _ (by simpa using hl) (fun k => a.eval (caps.toList.getD k (.func 0))) (fun k c hk => ?_) (fun k c hk => ?_)
          · obtain ⟨x, hx, _⟩ := hv k c hk
            have : caps[k]? = some x := by simpa using hx
            simp [this]
          · obtain ⟨x, hx, hr'⟩ := hv k c hk
            rw [List.getD, hx]
            exact hr'
        split at h
        · rename_i hcs
          simp only [Option.some.injEq, Prod.mk.injEq] at h
          obtain ⟨_, rfl⟩ := h
          refine vOf ⟨.func (.func f) #[] (caps.map a.eval), by simp [Instr.makeFunc], ?_⟩
          obtain ⟨hl, _⟩ := mapM_ev hr hcs
          have : caps = #[] := Array.eq_empty_of_size_eq_zero (by simpa using hl)
          subst this
          simpa using VRel.d (.fn f)
        · rename_i cs hne hcs
          simp only [Option.some.injEq, Prod.mk.injEq] at h
          obtain ⟨_, rfl⟩ := h
          exact vOf ⟨.func (.func f) #[] (caps.map a.eval), by simp [Instr.makeFunc], main _ hcs⟩
        · simp at h
      · simp at h
    | _ => simp [evL] at h
  | call c =>
    obtain ⟨callee, args, ts⟩ := c
    cases callee with
    | builtin b =>
      cases b with
      | len =>
        simp only [evL] at h
        split at h
        · rename_i x t hx ht
          have hargs : args = #[x] := by rw [← Array.toArray_toList (xs := args), hx]
          have hts : ts = #[t] := by rw [← Array.toArray_toList (xs := ts), ht]
          subst hargs; subst hts
          split at h
          · rename_i l te ha
            simp only [Option.some.injEq, Prod.mk.injEq] at h
            obtain ⟨_, rfl⟩ := h
            obtain ⟨e, hu, _⟩ := arrOf_sound hT ha
            refine ⟨_, ?_, rint _ _⟩
            simp [execOp, resolve, invoke, builtin, Builtin.len_, run_underlying' hu, goInt]
          · simp only [Option.map_eq_some_iff, Option.bind_eq_some_iff, Prod.mk.injEq] at h
            obtain ⟨i, ⟨u, h1, h2⟩, _, rfl⟩ := h
            refine ⟨_, ?_, rint _ _⟩
            have := len_sound (ty := type) (w := w) hT h2 (ev_sound hr h1)
            simp only [execOp, resolve, Sem.run_bind, Sem.run_pure, Result.andThen_ok, invoke, builtin]
            rw [show #[x].map a.eval = #[a.eval x] from by simp, this]
            rfl
        · simp at h
      | cap =>
        simp only [evL] at h
        split at h
        · rename_i x t hx ht
          have hargs : args = #[x] := by rw [← Array.toArray_toList (xs := args), hx]
          have hts : ts = #[t] := by rw [← Array.toArray_toList (xs := ts), ht]
          subst hargs; subst hts
          split at h
          · rename_i e hs hv
            simp only [Option.some.injEq, Prod.mk.injEq] at h
            obtain ⟨_, rfl⟩ := h
            have hu := (slOf_sound hT hs).1
            have hrv := ev_sound hr hv
            generalize hcv : a.eval x = cv at hrv
            cases hrv with | d hrv => cases hrv with
            | nilsl =>
            refine ⟨_, ?_, rint _ _⟩
            simp [execOp, resolve, invoke, builtin, Builtin.cap_, run_underlying' hu, goInt, hcv]
          · simp at h
        · simp at h
      | min =>
        simp only [evL, Option.bind_eq_some_iff, Option.map_eq_some_iff, Prod.mk.injEq, Prod.exists] at h
        obtain ⟨vs, h1, k, i, h2, _, rfl⟩ := h
        obtain ⟨hl, hv⟩ := mapM_ev hr h1
        refine ⟨_, ?_, rint _ _⟩
        have := minmax_sound (w := w) (P := P) (cvs := args.toList.map a.eval) h2 (by simpa using hl) (fun j v hj => by
          obtain ⟨x, hx, hr'⟩ := hv j v hj
          exact ⟨a.eval x, by simp only [List.getElem?_map, hx, Option.map_some], hr'⟩) ts type
        simp only [Bool.false_eq_true, if_false, ← Array.toList_map, Array.toArray_toList] at this
        simp only [execOp, resolve, Sem.run_bind, Sem.run_pure, Result.andThen_ok, invoke, builtin, this]
      | max =>
        simp only [evL, Option.bind_eq_some_iff, Option.map_eq_some_iff, Prod.mk.injEq, Prod.exists] at h
        obtain ⟨vs, h1, k, i, h2, _, rfl⟩ := h
        obtain ⟨hl, hv⟩ := mapM_ev hr h1
        refine ⟨_, ?_, rint _ _⟩
        have := minmax_sound (w := w) (P := P) (cvs := args.toList.map a.eval) h2 (by simpa using hl) (fun j v hj => by
          obtain ⟨x, hx, hr'⟩ := hv j v hj
          exact ⟨a.eval x, by simp only [List.getElem?_map, hx, Option.map_some], hr'⟩) ts type
        simp only [if_true, ← Array.toList_map, Array.toArray_toList] at this
        simp only [execOp, resolve, Sem.run_bind, Sem.run_pure, Result.andThen_ok, invoke, builtin, this]
      | _ => simp [evL] at h
    | _ => simp [evL] at h
  | _ => simp [evL] at h

end Go.Vm
