/- evL is sound. -/
import Derived.Test.YtggeifnbllfmbaaDoorVm6
import Derived.Laws.StructEq
set_option linter.unusedSimpArgs false
namespace Go.Vm
variable {P : Program} {base : Nat} {w0 : World} {m nt : Nat} {F : Frz} {ρ : Env0} {env : Env} {a : Act} {w : World} {n : Nat} {tab : Tab} {sz : TypeId → Nat}

theorem eqGuard_int (op : BinOp) (t : TypeId) (x y : Operand) (k k' : IntKind) (i j : Int) : (eqGuard op t x y (.int k i) (.int k' j)).run P w = .ok () w := by
  cases op <;> simp [eqGuard]
theorem eqGuard_str (op : BinOp) (t : TypeId) (x y : Operand) (i j : ByteArray) : (eqGuard op t x y (.string i) (.string j)).run P w = .ok () w := by
  cases op <;> simp [eqGuard]
theorem eqGuard_bool (op : BinOp) (t : TypeId) (x y : Operand) (i j : Bool) : (eqGuard op t x y (.bool i) (.bool j)).run P w = .ok () w := by
  cases op <;> simp [eqGuard]

theorem equal_bool {t : TypeId} (hu : P.underlying t = some .bool) (x y : Bool) : (Op.equal t (.bool x) (.bool y)).run P w = .ok (decide (x = y)) w := by
  suffices hs : ∀ dd : Nat, (Op.equalIn (dd + 1) t (.bool x) (.bool y)).run P w = .ok (decide (x = y)) w from hs 9999
  intro dd
  simp only [Op.equalIn, Sem.run_bind, run_underlying' hu, Result.andThen_ok, Sem.run_pure]
  cases x <;> cases y <;> rfl

theorem eqFs_sound (hT : tab.checks P = true) {rec : TypeId → D → D → Option Bool} {xs ys : List D} {vs us : Array Value} {d : Nat} (hx : FRep sz F (.agg xs) (.agg vs)) (hy : FRep sz F (.agg ys) (.agg us))
    (hrec : ∀ (t : TypeId) (x y : D) (b : Bool) (vx vy : Value), rec t x y = some b → FRep sz F x vx → FRep sz F y vy → (Op.equalIn d t vx vy).run P w = .ok b w) :
    ∀ {fs : List Field} {b : Bool}, (∀ f ∈ fs, (f.name == "_") = false) → eqFs tab rec xs ys (fs.map fun f => (f.offset, f.type)) = some b → (Op.eqFields d vs us fs).run P w = .ok b w
  | [], b, _, h => by
    simp only [List.map_nil, eqFs, Option.some.injEq] at h
    subst h
    simp [Op.eqFields]
  | f :: fs, b, hn, h => by
    simp only [List.map_cons, eqFs] at h
    split at h
    · rename_i fi hfi
      split at h
      · rename_i hb
        split at h
        · rename_i b1 b2 h1 h2
          cases h
          have hg := Tab.good hT hfi
          obtain ⟨cx, p1, p2⟩ := part_sound (P := P) (w := w) (F := F) (ρ := fun _ => .obj 0) (n := 0) hg (x := .d (.agg xs)) (o := f.offset) (.d hx) (by simpa [AV.cells, D.cells] using hb.1) (.inl ⟨xs, rfl⟩)
          obtain ⟨cy, q1, q2⟩ := part_sound (P := P) (w := w) (F := F) (ρ := fun _ => .obj 0) (n := 0) hg (x := .d (.agg ys)) (o := f.offset) (.d hy) (by simpa [AV.cells, D.cells] using hb.2) (.inl ⟨ys, rfl⟩)
          have he := hrec _ _ _ _ _ _ h1 p2.d_inv q2.d_inv
          have ih := eqFs_sound hT hx hy hrec (fun g hg => hn g (by simp [hg])) h2
          have hne : f.name ≠ "_" := by simpa using hn f (by simp)
          simp only [Op.eqFields, if_pos hne, Sem.run_bind, p1, q1, he, Result.andThen_ok]
          cases b1
          · simp
          · simpa using ih
        · simp at h
      · simp at h
    · simp at h

/-- Elements of arrays, one by one. -/
def eqElems (d : Nat) (e : TypeId) (k : Nat) (xs ys : Array Value) : List Nat → Sem Bool
  | [] => Pure.pure true
  | i :: r => do
    let a ← part e xs (i * k)
    let b ← part e ys (i * k)
    let c ← Op.equalIn d e a b
    if (!c) = true then Pure.pure false else eqElems d e k xs ys r

theorem run_equalIn_array (d : Nat) {t e : TypeId} {len k : Nat} (xs ys : Array Value) (ht : P.underlying t = some (.array len e)) (hs : ∀ w : World, (sizeOf e).run P w = .ok k w) :
    (Op.equalIn (d + 1) t (.agg xs) (.agg ys)).run P w = (eqElems d e k xs ys (List.range len)).run P w := by
  simp only [Op.equalIn, Sem.run_bind, run_underlying' ht, Result.andThen_ok, hs, Std.Legacy.Range.forIn_eq_forIn_range', Std.Legacy.Range.size, Nat.sub_zero, Nat.add_sub_cancel, Nat.div_one]
  rw [List.range_eq_range']
  generalize List.range' 0 len = l
  induction l generalizing w with
  | nil => simp [eqElems]
  | cons i l ih =>
    simp only [List.forIn_cons, eqElems, Sem.run_bind]
    generalize (part e xs (i * k)).run P w = r1
    cases r1 with
    | ok a w1 =>
      simp only [Result.andThen_ok]
      generalize (part e ys (i * k)).run P w1 = r2
      cases r2 with
      | ok b w2 =>
        simp only [Result.andThen_ok]
        generalize (Op.equalIn d e a b).run P w2 = r3
        cases r3 with
        | ok r w3 =>
          cases r
          · simp
          · simp only [Result.andThen_ok, Bool.not_true, Bool.false_eq_true, if_false, Sem.run_pure]
            exact ih
        | halt x w3 => simp [Result.andThen]
      | halt x w2 => simp [Result.andThen]
    | halt x w1 => simp [Result.andThen]

theorem eqElems_sound (hT : tab.checks P = true) {rec : TypeId → D → D → Option Bool} {xs ys : List D} {vs us : Array Value} {d : Nat} {e : TypeId} {te : TI} (hte : tab.get e = some te) (hx : FRep sz F (.agg xs) (.agg vs)) (hy : FRep sz F (.agg ys) (.agg us))
    (hrec : ∀ (t : TypeId) (x y : D) (b : Bool) (vx vy : Value), rec t x y = some b → FRep sz F x vx → FRep sz F y vy → (Op.equalIn d t vx vy).run P w = .ok b w) :
    ∀ {l : List Nat} {b : Bool}, eqFs tab rec xs ys (l.map fun i => (i * te.size, e)) = some b → (eqElems d e te.size vs us l).run P w = .ok b w
  | [], b, h => by
    simp only [List.map_nil, eqFs, Option.some.injEq] at h
    subst h
    simp [eqElems]
  | i :: l, b, h => by
    simp only [List.map_cons, eqFs, hte] at h
    split at h
    · rename_i hb
      split at h
      · rename_i b1 b2 h1 h2
        cases h
        have hg := Tab.good hT hte
        obtain ⟨cx, p1, p2⟩ := part_sound (P := P) (w := w) (F := F) (ρ := fun _ => .obj 0) (n := 0) hg (x := .d (.agg xs)) (o := i * te.size) (.d hx) (by simpa [AV.cells, D.cells] using hb.1) (.inl ⟨xs, rfl⟩)
        obtain ⟨cy, q1, q2⟩ := part_sound (P := P) (w := w) (F := F) (ρ := fun _ => .obj 0) (n := 0) hg (x := .d (.agg ys)) (o := i * te.size) (.d hy) (by simpa [AV.cells, D.cells] using hb.2) (.inl ⟨ys, rfl⟩)
        have he := hrec _ _ _ _ _ _ h1 p2.d_inv q2.d_inv
        have ih := eqElems_sound hT hte hx hy hrec h2
        simp only [eqElems, Sem.run_bind, p1, q1, he, Result.andThen_ok]
        cases b1
        · simp
        · simpa using ih
      · simp at h
    · simp at h

theorem eqT_sound (hT : tab.checks P = true) : ∀ (f : Nat) (t : TypeId) (x y : D) (b : Bool) (vx vy : Value) (d : Nat), f ≤ d → eqT tab f t x y = some b → FRep sz F x vx → FRep sz F y vy → (Op.equalIn d t vx vy).run P w = .ok b w
  | 0, _, _, _, _, _, _, _, _, h, _, _ => by simp [eqT] at h
  | f + 1, t, x, y, b, vx, vy, d, hd, h, hx, hy => by
    obtain ⟨d, rfl⟩ : ∃ k, d = k + 1 := ⟨d - 1, by omega⟩
    unfold eqT at h
    split at h
    · simp at h
    · rename_i ti hti
      have hg := Tab.good hT hti
      obtain ⟨ds, hu, hf⟩ := hg.desc
      split at h
      · rename_i p q hk
        cases h
        cases hx; cases hy
        rw [hk] at hf
        have : ds = .bool := by cases ds <;> simp only [TK.fits, Bool.false_eq_true] at hf; rfl
        subst this
        simp only [Op.equalIn, Sem.run_bind, run_underlying' hu, Result.andThen_ok, Sem.run_pure, dec_beq]
      · rename_i k0 k p k' q hk
        split at h
        · rename_i hkk
          cases h
          cases hx; cases hy
          rw [hk] at hf
          have := tk_int hf
          subst this
          simp only [Op.equalIn, Sem.run_bind, run_underlying' hu, Result.andThen_ok, Sem.run_pure, hkk, if_true, dec_beq]
        · simp at h
      · rename_i p q hk
        cases h
        cases hx; cases hy
        rw [hk] at hf
        have := tk_str hf
        subst this
        simp only [Op.equalIn, Sem.run_bind, run_underlying' hu, Result.andThen_ok, Sem.run_pure]
        congr 1
        rw [show (ByteArray.mk p.toArray == ByteArray.mk q.toArray) = (p == q) from by rw [beq_toListBytes, toList_mk, toList_mk], dec_beq]
      · rename_i fs xs ys hk
        rw [hk] at hf
        have heq := hg.eq (by rw [hk]; rfl)
        cases ds <;> simp only [TK.fits, Bool.false_eq_true, beq_iff_eq] at hf
        rename_i fds
        subst hf
        unfold eqOk at heq
        rw [hu] at heq
        simp only [Bool.and_eq_true, Bool.not_eq_true', Array.all_eq_true', bne_iff_ne] at heq
        obtain ⟨_, hso, hnm⟩ := heq
        cases hx with
        | agg _ vs hs val hv hr =>
        cases hy with
        | agg _ us hs' val' hv' hr' =>
        have hfo : P.fieldsOf t = fds := by simp [Program.fieldsOf, hu]
        rw [run_equalIn_struct (P := P) w d t vs us (by rw [hfo]; exact hu) hso, hfo]
        exact eqFs_sound hT (.agg _ vs hs val hv hr) (.agg _ us hs' val' hv' hr') (fun t x y b vx vy h hx hy => eqT_sound hT f t x y b vx vy d (by omega) h hx hy) (fun g hg => by simpa using hnm g (by simpa using hg)) h
      · rename_i n e xs ys hk
        split at h
        · rename_i te hte
          rw [hk] at hf
          have := tk_arr hf
          subst this
          cases hx with
          | agg _ vs hs val hv hr =>
          cases hy with
          | agg _ us hs' val' hv' hr' =>
          rw [run_equalIn_array d vs us hu (fun w => (Tab.good hT hte).run_sizeOf)]
          exact eqElems_sound hT hte (.agg _ vs hs val hv hr) (.agg _ us hs' val' hv' hr') (fun t x y b vx vy h hx hy => eqT_sound hT f t x y b vx vy d (by omega) h hx hy) h
        · simp at h
      · simp at h

theorem eqGuard_eq {t : TypeId} (h : P.eqGuardType P.depth t = false) (op : BinOp) (x y : Operand) (xs ys : Array Value) : (eqGuard op t x y (.agg xs) (.agg ys)).run P w = .ok () w := by
  cases op <;> simp [eqGuard, h]

theorem eqBin_sound (hT : tab.checks P = true) {t : TypeId} {neg : Bool} {x y : AV} {ob : Prop} {v : AV} {vx vy : Value} (h : eqBin tab t neg x y = some (ob, v)) (hob : ob)
    (hx : VRel sz F ρ n x vx) (hy : VRel sz F ρ n y vy) (ox oy : Operand) :
    Gives P sz F ρ n w (do eqGuard (if neg then .neq else .eql) t ox oy vx vy; binOp (if neg then .neq else .eql) t vx vy) v := by
  unfold eqBin at h
  split at h
  · simp at h
  rename_i ti hti
  obtain ⟨d, hu, hf⟩ := (Tab.good hT hti).desc
  split at h
  · rename_i p q hk
    rw [hk] at hf
    have hd : d = .bool := by cases d <;> simp only [TK.fits, Bool.false_eq_true] at hf; rfl
    subst hd
    simp only [Option.some.injEq, Prod.mk.injEq] at h
    obtain ⟨_, rfl⟩ := h
    have := hx.bool_inv; subst this
    have := hy.bool_inv; subst this
    cases neg
    · refine ⟨_, ?_, rbool _⟩
      simp only [Sem.run_bind, eqGuard_bool, Result.andThen_ok, binOp, equal_bool hu, Sem.run_pure, Bool.false_eq_true, if_false]
    · refine ⟨.bool (!decide (p = q)), ?_, by simpa using rbool _⟩
      simp only [Sem.run_bind, eqGuard_bool, Result.andThen_ok, binOp, equal_bool hu, Sem.run_pure, if_true]
  all_goals try (
    rename_i p q hk
    simp only [Option.map_eq_some_iff, Prod.mk.injEq] at h
    obtain ⟨b, h1, _, rfl⟩ := h
    have heq := (Tab.good hT hti).eq (by rw [hk]; rfl)
    have hgd : P.eqGuardType P.depth t = false := by
      unfold eqOk at heq
      simp only [Bool.and_eq_true, Bool.not_eq_true'] at heq
      exact heq.1
    have hrun : (Op.equal t vx vy).run P w = .ok b w := eqT_sound hT 9 t p q b vx vy 10000 (by omega) h1 hx.d_inv hy.d_inv
    have hagg : ∃ us vs, vx = .agg us ∧ vy = .agg vs := by
      unfold eqT at h1
      rw [hti] at h1
      simp only [hk] at h1
      split at h1 <;> (try (simp at h1; done)) <;> (try contradiction)
      all_goals
        have h2 := hx.d_inv
        have h3 := hy.d_inv
        cases h2; cases h3
        exact ⟨_, _, rfl, rfl⟩
    obtain ⟨us, vs, rfl, rfl⟩ := hagg
    cases neg
    · refine ⟨_, ?_, rbool _⟩
      simp only [Sem.run_bind, eqGuard_eq hgd, Result.andThen_ok, binOp, hrun, Sem.run_pure, Bool.false_eq_true, if_false]
    · refine ⟨_, ?_, rbool _⟩
      simp only [Sem.run_bind, eqGuard_eq hgd, Result.andThen_ok, binOp, hrun, Sem.run_pure, if_true]
    done)
  · rename_i k x' y' _ _ _ hk
    split at h
    · rename_i hn
      split at h
      · rename_i q hq
        simp only [Option.some.injEq, Prod.mk.injEq] at h
        obtain ⟨_, rfl⟩ := h
        obtain ⟨b, hvx, hbq⟩ := nilMaybe_sound hq hx
        have hvy := nilness_sound (isNilC_nilness hn) trivial hy
        obtain ⟨⟨e1, _⟩, e2, ⟨e3, e4⟩, _⟩ := nil_eq (w := w) hf hu hvx hvy
        cases neg
        · refine ⟨_, ?_, .pb (b := b) (fun hb => hbq (by simpa using hb))⟩
          simp only [Sem.run_bind, (e2 _ _ _).1, Result.andThen_ok, Bool.false_eq_true, if_false, e3, e1, Sem.run_pure]
        · refine ⟨_, ?_, .pb (b := !b) (fun hb => hbq (by simpa using hb))⟩
          simp only [Sem.run_bind, (e2 _ _ _).1, Result.andThen_ok, if_true, e4, e1, Sem.run_pure]
      · simp only [Option.map_eq_some_iff, Prod.mk.injEq, Prod.exists] at h
        obtain ⟨o, b, h1, rfl, rfl⟩ := h
        have hvx := nilness_sound h1 hob hx
        have hvy := nilness_sound (isNilC_nilness hn) trivial hy
        obtain ⟨⟨e1, _⟩, e2, ⟨e3, e4⟩, _⟩ := nil_eq (w := w) hf hu hvx hvy
        cases neg
        · refine ⟨_, ?_, rbool _⟩
          simp only [Sem.run_bind, (e2 _ _ _).1, Result.andThen_ok, Bool.false_eq_true, if_false, e3, e1, Sem.run_pure]
        · refine ⟨_, ?_, rbool _⟩
          simp only [Sem.run_bind, (e2 _ _ _).1, Result.andThen_ok, if_true, e4, e1, Sem.run_pure]
    · split at h
      · rename_i hn
        simp only [Option.map_eq_some_iff, Prod.mk.injEq, Prod.exists] at h
        obtain ⟨o, b, h1, rfl, rfl⟩ := h
        have hvy := nilness_sound h1 hob hy
        have hvx := nilness_sound (isNilC_nilness hn) trivial hx
        obtain ⟨⟨_, e1⟩, e2, _, ⟨e3, e4⟩⟩ := nil_eq (w := w) hf hu hvy hvx
        cases neg
        · refine ⟨_, ?_, rbool _⟩
          simp only [Sem.run_bind, (e2 _ _ _).2, Result.andThen_ok, Bool.false_eq_true, if_false, e3, e1, Sem.run_pure]
        · refine ⟨_, ?_, rbool _⟩
          simp only [Sem.run_bind, (e2 _ _ _).2, Result.andThen_ok, if_true, e4, e1, Sem.run_pure]
      · simp at h

theorem bin_sound (hT : tab.checks P = true) {t : TypeId} {op : BinOp} {x y : AV} {ob : Prop} {v : AV} {vx vy : Value} (h : binAV tab t op x y = some (ob, v)) (hob : ob)
    (hx : VRel sz F ρ n x vx) (hy : VRel sz F ρ n y vy) (ox oy : Operand) :
    Gives P sz F ρ n w (do eqGuard op t ox oy vx vy; binOp op t vx vy) v := by
  unfold binAV at h
  split at h
  · rename_i k i k' j
    have := hx.int_inv; subst this
    have := hy.int_inv; subst this
    split at h
    · simp only [Option.some.injEq, Prod.mk.injEq] at h
      obtain ⟨h1, rfl⟩ := h
      subst h1
      have h0 : ¬ j < 0 := by omega
      refine ⟨_, ?_, rint _ _⟩
      simp only [Sem.run_bind, eqGuard_int, Result.andThen_ok, binOp, Op.shift, h0, if_false, Sem.run_pure]
    · simp only [Option.some.injEq, Prod.mk.injEq] at h
      obtain ⟨h1, rfl⟩ := h
      subst h1
      have h0 : ¬ j < 0 := by omega
      refine ⟨_, ?_, rint _ _⟩
      simp only [Sem.run_bind, eqGuard_int, Result.andThen_ok, binOp, Op.shift, h0, if_false, Sem.run_pure]
    · split at h
      · rename_i hk
        subst hk
        obtain ⟨cv, h1, h2⟩ := intBin_sound (P := P) (w := w) (t := t) (sz := sz) (F := F) (ρ := ρ) (n := n) h hob
        exact ⟨cv, by simp only [Sem.run_bind, eqGuard_int, Result.andThen_ok, h1], h2⟩
      · simp at h
  · have := hx.str_inv; subst this
    have := hy.str_inv; subst this
    obtain ⟨cv, h1, h2⟩ := strBin_sound (P := P) (w := w) (t := t) (sz := sz) (F := F) (ρ := ρ) (n := n) h hob
    exact ⟨cv, by simp only [Sem.run_bind, eqGuard_str, Result.andThen_ok, h1], h2⟩
  · split at h
    · exact eqBin_sound (neg := false) hT h hob hx hy ox oy
    · exact eqBin_sound (neg := true) hT h hob hx hy ox oy
    · simp at h

theorem un_sound {op : UnOp} {x : AV} {ob : Prop} {v : AV} {vx : Value} (h : unAV op x = some (ob, v)) (hx : VRel sz F ρ n x vx) :
    Gives P sz F ρ n w (Op.unary op vx) v := by
  unfold unAV at h
  split at h
  · simp only [Option.some.injEq, Prod.mk.injEq] at h
    obtain ⟨_, rfl⟩ := h
    have := hx.int_inv; subst this
    exact ⟨_, rfl, rint _ _⟩
  · simp only [Option.some.injEq, Prod.mk.injEq] at h
    obtain ⟨_, rfl⟩ := h
    have := hx.int_inv; subst this
    exact ⟨_, rfl, rint _ _⟩
  · simp only [Option.some.injEq, Prod.mk.injEq] at h
    obtain ⟨_, rfl⟩ := h
    have := hx.bool_inv; subst this
    exact ⟨_, rfl, rbool _⟩
  · simp at h

theorem load_sound (hT : tab.checks P = true) (hst : St (psz P) base w0 F ρ env.h w) {t : TypeId} {x : AV} {ob : Prop} {v : AV} {cv : Value} (h : loadAV tab env.h t x = some (ob, v)) (hob : ob)
    (hx : VRel (psz P) F ρ env.h.length x cv) : Gives P (psz P) F ρ env.h.length w (Instr.loadAt t cv) v := by
  unfold loadAV at h
  split at h
  · rename_i e xs i off ti hti
    split at h
    · rename_i te hte
      simp only [Option.some.injEq, Prod.mk.injEq] at h
      obtain ⟨h1, rfl⟩ := h
      subst h1
      exact load_fp hst.frz (Tab.good hT hti) hx (by rw [good_size hT hte]; exact hob)
    · simp at h
  · rename_i b e i off ti hti
    split at h
    · rename_i te e' xs hte hb
      simp only [Option.some.injEq, Prod.mk.injEq] at h
      obtain ⟨h1, rfl⟩ := h
      subst h1
      obtain ⟨rfl, hi, hk⟩ := hob
      exact load_ptr hst (Tab.good hT hti) hx hb hi (by rw [good_size hT hte]; exact hk)
    · simp at h
  · simp at h

theorem len_sound (hT : tab.checks P = true) {t ty : TypeId} {x : AV} {i : Int} {cv : Value} (h : lenAV (isStr tab t) (slOf tab t).isSome x = some i) (hx : VRel sz F ρ n x cv) :
    (Builtin.len_ #[t] ty #[cv]).run P w = .ok (.int .i64 i) w := by
  have slc : (slOf tab t).isSome = true → ∀ (A : Option Addr) (l c : Nat), (Builtin.len_ #[t] ty #[.slice A l c]).run P w = .ok (.int .i64 l) w := by
    intro hs A l c
    obtain ⟨e, he⟩ := Option.isSome_iff_exists.mp hs
    obtain ⟨hu, _⟩ := slOf_sound hT he
    simp [Builtin.len_, run_underlying' hu, goInt]
  unfold lenAV at h
  split at h <;> (try (simp at h; done)) <;> simp only [Option.ite_none_right_eq_some, Option.some.injEq] at h <;> obtain ⟨hs, rfl⟩ := h
  · have := hx.str_inv; subst this
    simp only [Builtin.len_, List.getElem?_toArray, List.getElem?_cons_zero, Sem.run_bind, run_underlying' (isStr_sound hT hs), Result.andThen_ok, goInt, Sem.run_pure]
    congr 2
  · obtain ⟨A, cap, rfl, hc, _⟩ := hx.d_inv.sl_inv
    exact slc hs _ _ _
  · cases hx with | d hx => cases hx with
    | nilsl => exact slc hs _ _ _
  · cases hx with
    | z0 => exact slc hs _ _ _
  · cases hx with
    | bl hb hrep hl' hw' hcur =>
    obtain ⟨A, cap, rfl, hc, _⟩ := hrep.sl_inv
    exact slc hs _ _ _
  · cases hx with
    | ref => exact slc hs _ _ _

theorem mapM_ev (hr : Rel sz base w0 m nt F ρ env a w) : ∀ {xs : List Operand} {vs : List AV}, xs.mapM (ev env) = some vs → xs.length = vs.length ∧ ∀ (k : Nat) (v : AV), vs[k]? = some v → ∃ x, xs[k]? = some x ∧ VRel sz F ρ env.h.length v (a.eval x)
  | [], vs, h => by simp at h; subst h; simp
  | x :: xs, vs, h => by
    simp only [List.mapM_cons, Option.bind_eq_bind, Option.bind_eq_some_iff, Option.pure_def, Option.some.injEq] at h
    obtain ⟨v, h1, vs', h2, rfl⟩ := h
    obtain ⟨hl, hs⟩ := mapM_ev hr h2
    refine ⟨by simp [hl], fun k u hk => ?_⟩
    cases k with
    | zero => simp at hk; subst hk; exact ⟨x, by simp, ev_sound hr h1⟩
    | succ k => simpa using hs k u (by simpa using hk)

theorem minmax_sound {b : Bool} {vs : List AV} {k : IntKind} {i : Int} {cvs : List Value} (h : minmax b vs = some (k, i))
    (hl : cvs.length = vs.length) (hv : ∀ (j : Nat) (v : AV), vs[j]? = some v → ∃ x, cvs[j]? = some x ∧ VRel sz F ρ n v x) (ts : Array TypeId) (ty : TypeId) :
    ((if b then Builtin.max_ else Builtin.min_) ts ty cvs.toArray).run P w = .ok (.int k i) w := by
  unfold minmax at h
  split at h
  · simp only [Option.some.injEq, Prod.mk.injEq] at h
    obtain ⟨rfl, rfl⟩ := h
    match cvs, hl with
    | [x], _ =>
      obtain ⟨x', h1, h2⟩ := hv 0 _ rfl
      cases h1
      have := h2.int_inv; subst this
      cases b <;> simp [Builtin.max_, Builtin.min_]
  · simp only [Option.ite_none_right_eq_some, Option.some.injEq, Prod.mk.injEq] at h
    obtain ⟨rfl, rfl, rfl⟩ := h
    match cvs, hl with
    | [x, y], _ =>
      obtain ⟨x', h1, h2⟩ := hv 0 _ rfl
      cases h1
      have := h2.int_inv; subst this
      obtain ⟨x', h1, h2⟩ := hv 1 _ rfl
      cases h1
      have := h2.int_inv; subst this
      cases b
      · simp [Builtin.min_, Builtin.min2]; split <;> omega
      · simp [Builtin.max_, Builtin.max2]; split <;> omega
  · simp only [Option.ite_none_right_eq_some, Option.some.injEq, Prod.mk.injEq] at h
    obtain ⟨⟨rfl, rfl⟩, rfl, rfl⟩ := h
    match cvs, hl with
    | [x, y, z], _ =>
      obtain ⟨x', h1, h2⟩ := hv 0 _ rfl
      cases h1
      have := h2.int_inv; subst this
      obtain ⟨x', h1, h2⟩ := hv 1 _ rfl
      cases h1
      have := h2.int_inv; subst this
      obtain ⟨x', h1, h2⟩ := hv 2 _ rfl
      cases h1
      have := h2.int_inv; subst this
      cases b
      · simp [Builtin.min_, Builtin.min2]; split <;> split <;> omega
      · simp [Builtin.max_, Builtin.max2]; split <;> split <;> omega
  · simp at h

end Go.Vm
