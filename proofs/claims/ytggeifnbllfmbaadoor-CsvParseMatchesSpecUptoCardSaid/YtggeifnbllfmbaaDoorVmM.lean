/- Maps: lookups and updates. -/
import Derived.Test.YtggeifnbllfmbaaDoorVm7
set_option linter.unusedSimpArgs false
namespace Go.Vm
variable {P : Program} {base : Nat} {w0 : World} {m nt : Nat} {F : Frz} {ρ : Env0} {env : Env} {a : Act} {w : World} {n : Nat} {tab : Tab} {sz : TypeId → Nat}

theorem mapOf_sound (hT : tab.checks P = true) {t kt : TypeId} {te : TI} (h : mapOf tab t = some (kt, te)) : ∃ e, P.underlying t = some (.map kt e) ∧ tab.get e = some te := by
  unfold mapOf at h
  split at h
  · rename_i k e _ _ _ hg
    simp only [Option.map_eq_some_iff, Prod.mk.injEq] at h
    obtain ⟨te', h1, rfl, rfl⟩ := h
    obtain ⟨d, hu, hf⟩ := (Tab.good hT hg).desc
    cases d <;> simp only [TK.fits, Bool.false_eq_true, Bool.and_eq_true, beq_iff_eq] at hf
    obtain ⟨rfl, rfl⟩ := hf
    exact ⟨_, hu, h1⟩
  · simp at h

theorem zero_rel (hT : tab.checks P = true) {t : TypeId} {ti : TI} (h : tab.get t = some ti) : Gives P sz F ρ n w (zeroValue t) (zeroAV ti) := by
  have hg := Tab.good hT h
  obtain ⟨info, hi1, hi2, _, z, hz, hzc, hzp, hza⟩ := hg.info
  refine ⟨z, by simp only [zeroValue, typeInfo, Sem.run_bind, run_program, hi1, Result.andThen_ok, Sem.run_pure, hz], ?_⟩
  unfold zeroAV
  cases hagg : ti.agg with
  | true =>
    rw [hagg] at hza
    cases z with
    | agg cs =>
      simp only [Value.cells] at hzc
      simp only [if_true]
      refine .d (.agg _ _ (by rw [← Array.length_toList, hzc]; simp) (fun k => (ti.zero.getD k .nilptr).val) (fun k c hk => ?_) (fun k c hk => ?_))
      · have : cs.toList[k]? = some c.val := by rw [hzc]; simp [hk]
        rw [List.getD, hk]
        simpa using this
      · rw [List.getD, hk]
        exact D.val_rep (hzp c (List.mem_of_getElem? hk))
    | _ => simp at hza
  | false =>
    have h1 := hg.one hagg
    rw [← hg.zlen] at h1
    rw [hagg] at hza
    match hzz : ti.zero with
    | [] => rw [hzz] at h1; simp at h1
    | [x] =>
      rw [hzz] at hzc
      simp only [Bool.false_eq_true, if_false, List.headD_cons]
      have : z = x.val := by
        cases z with
        | agg cs => simp at hza
        | _ => simpa [Value.cells] using hzc
      rw [this]
      exact .d (D.val_rep (hzp x (by rw [hzz]; simp)))
    | _ :: _ :: _ => rw [hzz] at h1; simp at h1

theorem sb_int {k : IntKind} {i : Int} {m : Nat} : Instr.sameBits m (.int k i) (.int k i) = true := by cases m <;> simp [Instr.sameBits]
theorem sb_bool {b : Bool} {m : Nat} : Instr.sameBits m (.bool b) (.bool b) = true := by cases m <;> simp [Instr.sameBits]
theorem sb_str {b : ByteArray} {m : Nat} : Instr.sameBits m (.string b) (.string b) = true := by cases m <;> simp [Instr.sameBits, beq_toListBytes]

theorem checkKey_ok {kt : TypeId} {v : Value} {d : TypeDesc} (hu : P.underlying kt = some d) (h1 : ∀ l e, d ≠ .array l e) (h2 : ∀ fs, d ≠ .struct fs) (h3 : ∀ ms, d ≠ .interface ms) (b : Bool) (m : Nat) :
    (Instr.checkKey b (m + 1) kt v).run P w = .ok () w := by
  simp only [Instr.checkKey, Sem.run_bind, run_underlying' hu, Result.andThen_ok]
  cases d <;> first | rfl | exact absurd rfl (h1 _ _) | exact absurd rfl (h2 _) | exact absurd rfl (h3 _)

/-- A key of a kind that is compared at once. -/
theorem keyOk_sound (hT : tab.checks P = true) {kt : TypeId} {k : D} {v : Value} (h : keyOk tab kt k = true) (hv : FRep sz F k v) : ∃ d, P.underlying kt = some d ∧
    (∀ b, (Instr.checkKey b 10000 kt v).run P w = .ok () w) ∧ ∀ (k' : D) (v' : Value) (r : Bool), FRep sz F k' v' → keyEq k k' = some r → Instr.sameNow d v v' = some r ∧ (r = true → v' = v ∧ Instr.sameBits 10000 v' v = true) := by
  have ck : ∀ (d : TypeDesc), P.underlying kt = some d → (∀ l e, d ≠ .array l e) → (∀ fs, d ≠ .struct fs) → (∀ ms, d ≠ .interface ms) → ∀ b, (Instr.checkKey b 10000 kt v).run P w = .ok () w := by
    intro d hu h1 h2 h3 b
    exact checkKey_ok hu h1 h2 h3 b 9999
  unfold keyOk at h
  split at h
  · rename_i k0 _ _ _ k1 i hg
    obtain ⟨d, hu, hf⟩ := (Tab.good hT hg).desc
    have := tk_int hf
    subst this
    refine ⟨_, hu, ck _ hu (by simp) (by simp) (by simp), fun k' v' r hr hk => ?_⟩
    cases hv
    cases hr <;> simp only [keyEq, reduceCtorEq] at hk
    split at hk
    · rename_i hkk
      subst hkk
      cases hk
      refine ⟨by simp [Instr.sameNow, dec_beq], fun hb => ?_⟩
      have hb' := of_decide_eq_true hb
      subst hb'
      exact ⟨rfl, sb_int⟩
    · simp at hk
  · rename_i _ _ _ s hg
    obtain ⟨d, hu, hf⟩ := (Tab.good hT hg).desc
    have := tk_str hf
    subst this
    refine ⟨_, hu, ck _ hu (by simp) (by simp) (by simp), fun k' v' r hr hk => ?_⟩
    cases hv
    cases hr <;> simp only [keyEq, reduceCtorEq] at hk
    rename_i s'
    cases hk
    refine ⟨?_, fun hb => ?_⟩
    · simp only [Instr.sameNow]
      rw [show (ByteArray.mk s.toArray == ByteArray.mk s'.toArray) = (s == s') from by rw [beq_toListBytes, toList_mk, toList_mk], dec_beq]
    · have hb' := of_decide_eq_true hb
      subst hb'
      exact ⟨rfl, sb_str⟩
  · rename_i _ _ _ s hg
    obtain ⟨d, hu, hf⟩ := (Tab.good hT hg).desc
    have : d = .bool := by cases d <;> simp only [TK.fits, Bool.false_eq_true] at hf; rfl
    subst this
    refine ⟨_, hu, ck _ hu (by simp) (by simp) (by simp), fun k' v' r hr hk => ?_⟩
    cases hv
    cases hr <;> simp only [keyEq, reduceCtorEq] at hk
    rename_i s'
    cases hk
    refine ⟨by simp [Instr.sameNow, dec_beq], fun hb => ?_⟩
    have hb' := of_decide_eq_true hb
    subst hb'
    exact ⟨rfl, sb_bool⟩
  · simp at h

/-- The entries of a map, in the world and here. -/
def Ents (sz : TypeId → Nat) (F : Frz) (ρ : Env0) (n : Nat) (es : List (D × AV)) (ms : List MapEntry) : Prop :=
  ms.length = es.length ∧ ∀ (i : Nat) (k : D) (x : AV), es[i]? = some (k, x) → ∃ en : MapEntry, ms[i]? = some en ∧ FRep sz F k en.key ∧ VRel sz F ρ n x en.val

theorem Ents.tail {e : D × AV} {es : List (D × AV)} {en : MapEntry} {ms : List MapEntry} (h : Ents sz F ρ n (e :: es) (en :: ms)) : FRep sz F e.1 en.key ∧ VRel sz F ρ n e.2 en.val ∧ Ents sz F ρ n es ms := by
  obtain ⟨en', h1, h2, h3⟩ := h.2 0 e.1 e.2 rfl
  simp only [List.getElem?_cons_zero, Option.some.injEq] at h1
  subst h1
  exact ⟨h2, h3, by simpa using h.1, fun i k x hi => by simpa using h.2 (i + 1) k x (by simpa using hi)⟩

theorem find_sound {d : TypeDesc} {k : D} {v : Value} (hk : ∀ (k' : D) (v' : Value) (r : Bool), FRep sz F k' v' → keyEq k k' = some r → Instr.sameNow d v v' = some r ∧ (r = true → v' = v ∧ Instr.sameBits 10000 v' v = true)) :
    ∀ {es : List (D × AV)} {ms : List MapEntry} {r : Option AV} (j : Nat), Ents sz F ρ n es ms → mapFind k es = some r →
      match r with
      | none => Instr.findNow d v ms j = some none
      | some x => ∃ i cv, Instr.findNow d v ms j = some (some (i, cv)) ∧ VRel sz F ρ n x cv
  | [], [], r, j, _, h => by
    simp only [mapFind, Option.some.injEq] at h
    subst h
    rfl
  | [], _ :: _, r, j, he, _ => by have := he.1; simp at this
  | _ :: _, [], r, j, he, _ => by have := he.1; simp at this
  | (k', x) :: es, en :: ms, r, j, he, h => by
    obtain ⟨h1, h2, h3⟩ := he.tail
    simp only [mapFind] at h
    split at h
    · rename_i b hb
      obtain ⟨h4, _⟩ := hk k' en.key b h1 hb
      cases b with
      | true =>
        simp only [if_true, Option.some.injEq] at h
        subst h
        exact ⟨j, en.val, by simp only [Instr.findNow, h4], h2⟩
      | false =>
        simp only [Bool.false_eq_true, if_false] at h
        have := find_sound hk (j + 1) h3 h
        cases r with
        | none => simp only [Instr.findNow, h4]; exact this
        | some x => simp only [Instr.findNow, h4]; exact this
    · simp at h

theorem findNow_shift {d : TypeDesc} {v : Value} : ∀ (ms : List MapEntry) (j : Nat), Instr.findNow d v ms j = (Instr.findNow d v ms 0).map fun r => r.map fun p => (j + p.1, p.2)
  | [], _ => rfl
  | en :: ms, j => by
    simp only [Instr.findNow]
    split
    · rfl
    · rw [findNow_shift ms (j + 1), findNow_shift ms (0 + 1)]
      cases Instr.findNow d v ms 0 with
      | none => rfl
      | some r => cases r with
        | none => rfl
        | some p => simp only [Option.map_some, Option.some.injEq, Prod.mk.injEq, and_true]; omega
    · rfl

theorem put_sound {d : TypeDesc} {k : D} {v : Value} {x : AV} (hk : ∀ (k' : D) (v' : Value) (r : Bool), FRep sz F k' v' → keyEq k k' = some r → Instr.sameNow d v v' = some r ∧ (r = true → v' = v ∧ Instr.sameBits 10000 v' v = true)) :
    ∀ {es es' : List (D × AV)} {ms : List MapEntry}, Ents sz F ρ n es ms → mapPut k x es = some es' →
      (Instr.findNow d v ms 0 = some none ∧ es' = es ++ [(k, x)]) ∨
      ∃ i cv en k' x', Instr.findNow d v ms 0 = some (some (i, cv)) ∧ ms[i]? = some en ∧ en.key = v ∧ Instr.sameBits 10000 en.key v = true ∧ es[i]? = some (k', x') ∧ es' = es.set i (k', x)
  | [], es', [], _, h => by
    simp only [mapPut, Option.some.injEq] at h
    subst h
    exact .inl ⟨rfl, rfl⟩
  | [], _, _ :: _, he, _ => by have := he.1; simp at this
  | _ :: _, _, [], he, _ => by have := he.1; simp at this
  | (k', x0) :: es, es', en :: ms, he, h => by
    obtain ⟨h1, h2, h3⟩ := he.tail
    simp only [mapPut] at h
    split at h
    · rename_i b hb
      obtain ⟨h4, h5⟩ := hk k' en.key b h1 hb
      cases b with
      | true =>
        simp only [if_true, Option.some.injEq] at h
        subst h
        obtain ⟨h6, h7⟩ := h5 rfl
        exact .inr ⟨0, en.val, en, k', x0, by simp only [Instr.findNow, h4], rfl, h6, h7, rfl, rfl⟩
      | false =>
        simp only [Bool.false_eq_true, if_false, Option.map_eq_some_iff] at h
        obtain ⟨es1, h6, rfl⟩ := h
        rcases put_sound hk h3 h6 with ⟨h7, rfl⟩ | ⟨i, cv, en', k1, x1, h7, h8, h9, h10, h11, rfl⟩
        · refine .inl ⟨?_, rfl⟩
          simp only [Instr.findNow, h4]
          rw [findNow_shift, h7]; rfl
        · refine .inr ⟨i + 1, cv, en', k1, x1, ?_, by simpa using h8, h9, h10, by simpa using h11, rfl⟩
          simp only [Instr.findNow, h4]
          rw [findNow_shift, h7]
          simp only [Option.map_some, Option.some.injEq, Prod.mk.injEq, and_true]; omega
    · simp at h

theorem lookup_sound (hT : tab.checks P = true) (hst : St sz base w0 F ρ env.h w) {t : TypeId} {mv kv : AV} {ok : Bool} {ob : Prop} {v : AV} {cm ck : Value} (h : lookupAV tab env.h t mv kv ok = some (ob, v))
    (hm : VRel sz F ρ env.h.length mv cm) (hk : VRel sz F ρ env.h.length kv ck) : Gives P sz F ρ env.h.length w (Instr.lookup t cm ck ok) v := by
  unfold lookupAV at h
  split at h
  · rename_i kt te kd hmo
    obtain ⟨e, hu, hte⟩ := mapOf_sound hT hmo
    obtain ⟨z, hz1, hz2⟩ := zero_rel (sz := sz) (F := F) (ρ := ρ) (n := env.h.length) (w := w) hT hte
    split at h
    · rename_i hko
      obtain ⟨d, hd, hck, hkey⟩ := keyOk_sound (w := w) hT hko hk.d_inv
      have fin : ∀ (r : Option AV) (x : AV) (cx : Value), VRel sz F ρ env.h.length x cx → ∃ cv, (Pure.pure (if ok then Value.tuple #[cx, .bool r.isSome] else cx) : Sem Value).run P w = .ok cv w ∧
          VRel sz F ρ env.h.length (if ok then .tup [x, .d (.bool r.isSome)] else x) cv := by
        intro r x cx hx
        cases ok with
        | false => exact ⟨cx, rfl, hx⟩
        | true =>
          refine ⟨_, rfl, .tup _ _ rfl (fun k => if k = 0 then cx else .bool r.isSome) (fun k c hk => ?_) (fun k c hk => ?_)⟩
          · match k with
            | 0 => rfl
            | 1 => rfl
            | k + 2 => simp at hk
          · match k with
            | 0 => simp only [List.getElem?_cons_zero, Option.some.injEq] at hk; subst hk; exact hx
            | 1 => simp only [List.getElem?_cons_succ, List.getElem?_cons_zero, Option.some.injEq] at hk; subst hk; exact rbool _
            | k + 2 => simp at hk
      split at h
      · simp only [Option.some.injEq, Prod.mk.injEq] at h
        obtain ⟨_, rfl⟩ := h
        cases hm with | d hm => cases hm with
        | nilmap =>
          obtain ⟨cv, h1, h2⟩ := fin none _ _ hz2
          refine ⟨cv, ?_, h2⟩
          simp only [Instr.lookup, Sem.run_bind, run_underlying' hu, Result.andThen_ok, Sem.run_pure, hck, Instr.findKey, run_underlying' hd]
          simp only [Instr.findNow, Sem.run_bind, Sem.run_pure, Result.andThen_ok, hz1]
          exact h1
      · rename_i b
        split at h
        · rename_i es hb
          simp only [Option.map_eq_some_iff, Prod.mk.injEq] at h
          obtain ⟨r, hr, _, rfl⟩ := h
          obtain ⟨ro, m', h1, h2, h3, h4, h5⟩ := hst.blk b _ hb
          have he : Ents sz F ρ env.h.length es m'.toList := ⟨by simpa using h4, fun i k x hi => by
            obtain ⟨en, h6, h7, h8, h9⟩ := h5 i k x hi
            exact ⟨en, by simpa using h6, h8, h9⟩⟩
          have hfs := find_sound hkey 0 he hr
          cases hm with
          | @map _ r' hbn hl =>
            rw [h1] at hl
            cases hl
            have hgo : (getObj ro).run P w = .ok (.map m' m'.size) w := by simp only [getObj, Sem.run, h3]
            cases r with
            | none =>
              obtain ⟨cv, h6, h7⟩ := fin none _ _ hz2
              refine ⟨cv, ?_, h7⟩
              simp only [Instr.lookup, Sem.run_bind, run_underlying' hu, Result.andThen_ok, Sem.run_pure, hck, Instr.findKey, run_underlying' hd, hgo]
              rw [hfs]
              simp only [Sem.run_bind, Sem.run_pure, Result.andThen_ok, hz1]
              exact h6
            | some x =>
              obtain ⟨i, cx, h8, h9⟩ := hfs
              obtain ⟨cv, h6, h7⟩ := fin (some x) _ _ h9
              refine ⟨cv, ?_, h7⟩
              simp only [Instr.lookup, Sem.run_bind, run_underlying' hu, Result.andThen_ok, Sem.run_pure, hck, Instr.findKey, run_underlying' hd, hgo]
              rw [h8]
              simp only [Sem.run_bind, Sem.run_pure, Result.andThen_ok]
              exact h6
        · simp at h
      · simp at h
    · simp at h
  · simp at h

end Go.Vm
